import Derived.Test.YtijnmnpigjadhabRexS
/- Rex, part T: comparisons. -/
set_option linter.unusedVariables false
set_option linter.unusedSimpArgs false
namespace Go.Rex
open Go.RowKit Go.Lib
section
variable {P : Program} {g : Gh} {w : World} {h h' : Hp} {s : List D} {a : Act} {call : CallF} {o : Oper} {d : D} {m : Bool} {ro : RO}

theorem eqTy_fits {k : Nat} {t : TypeId} {e : EqT} (he : eqTy P k t = some e) {x y : D} {b : Bool} (hd : eqD e x y = some b) {cx cy : List Value} (hx : Cs g w x cx) (hy : Cs g w y cy) :
    ∃ ag, aggT P t = some ag ∧ x.fits ag cx.length = true ∧ y.fits ag cy.length = true := by
  have hxs := Cs.size _ _ hx
  have hys := Cs.size _ _ hy
  rw [hxs, hys]
  cases k with
  | zero => simp [eqTy] at he
  | succ k =>
    unfold eqTy at he
    have flat : (∀ szs l, e ≠ .fields szs l) → x.fits false x.sz = true ∧ y.fits false y.sz = true := by
      intro hne
      unfold eqD at hd
      split at hd <;> first | contradiction | (exact ⟨rfl, rfl⟩) | (exfalso; exact hne _ _ rfl)
    have agg : ∀ szs l, e = .fields szs l → x.fits true x.sz = true ∧ y.fits true y.sz = true := by
      rintro szs l rfl
      unfold eqD at hd
      split at hd <;> (try contradiction)
      simp [D.fits, D.sz]
    split at he
    · rename_i hu; injection he with he; subst he; exact ⟨false, by simp [aggT, hu], flat (by intro _ _ e; cases e)⟩
    · rename_i hu; injection he with he; subst he; exact ⟨false, by simp [aggT, hu], flat (by intro _ _ e; cases e)⟩
    · rename_i hu; injection he with he; subst he; exact ⟨false, by simp [aggT, hu], flat (by intro _ _ e; cases e)⟩
    · rename_i hu; injection he with he; subst he; exact ⟨false, by simp [aggT, hu], flat (by intro _ _ e; cases e)⟩
    · rename_i hu; injection he with he; subst he; exact ⟨false, by simp [aggT, hu], flat (by intro _ _ e; cases e)⟩
    · rename_i fs hu
      split at he
      · cases he
      · split at he
        · injection he with he; subst he; exact ⟨true, by simp [aggT, hu], agg _ _ rfl⟩
        · cases he
    · rename_i fs hu
      split at he
      · injection he with he; subst he; exact ⟨true, by simp [aggT, hu], agg _ _ rfl⟩
      · cases he
    · cases he

def FieldsOk (P : Program) : Nat → List Field → List Nat → Prop
  | _, [], [] => True
  | k, f :: fs, n :: szs => f.offset = k ∧ szOf P f.type = some n ∧ FieldsOk P (k + n) fs szs
  | _, _, _ => False
theorem fieldsOk_of : ∀ (fs : List Field) (szs : List Nat) (k : Nat), szs.length = fs.length → (∀ (i : Nat) (f : Field), fs[i]? = some f → f.offset = k + sumN (szs.take i) ∧ ∃ n, szs[i]? = some n ∧ szOf P f.type = some n) → FieldsOk P k fs szs
  | [], [], _, _, _ => trivial
  | f :: fs, n :: szs, k, hl, h => by
    obtain ⟨h1, n', h2, h3⟩ := h 0 f rfl
    simp at h2; subst h2
    refine ⟨by simpa [sumN] using h1, h3, fieldsOk_of fs szs (k + n) (by simpa using hl) (fun i f hf => ?_)⟩
    obtain ⟨e1, n', e2, e3⟩ := h (i + 1) f (by simpa using hf)
    exact ⟨by simp [sumN] at e1; omega, n', by simpa using e2, e3⟩
  | [], _ :: _, _, hl, _ => by simp at hl
  | _ :: _, [], _, hl, _ => by simp at hl

/-- Comparing what an agg's parts are. -/
def EqOk (P : Program) (g : Gh) (w : World) (d : Nat) (t : TypeId) (e : EqT) : Prop := ∀ x y vx vy b, V g w x vx → V g w y vy → eqD e x y = some b → (Op.equalIn d t vx vy).run P w = .ok b w

theorem eqFields_run {k d : Nat} : ∀ (fs : List Field) (l : List EqT), optL (fun (f : Field) => eqTy P k f.type) fs = some l → (∀ t e, eqTy P k t = some e → EqOk P g w d t e) → (∀ f ∈ fs, f.name ≠ "_") →
    ∀ (szs : List Nat) (o : Nat) (xs ys : List D) (p1 p2 c1 c2 : List Value) (b : Bool), FieldsOk P o fs szs → p1.length = o → p2.length = o → AggCs g w szs xs c1 → AggCs g w szs ys c2 → eqDL l xs ys = some b →
    (Op.eqFields d (p1 ++ c1).toArray (p2 ++ c2).toArray fs).run P w = .ok b w
  | [], l, hl, _, _, szs, o, xs, ys, p1, p2, c1, c2, b, hf, h1, h2, hx, hy, hd => by
    simp only [optL, Option.some.injEq] at hl; subst hl
    unfold eqDL at hd
    split at hd <;> (try contradiction)
    injection hd with hd; subst hd; simp [Op.eqFields]
  | f :: fs, l, hl, hk, hn, szs, o, xs, ys, p1, p2, c1, c2, b, hf, h1, h2, hx, hy, hd => by
    simp only [optL] at hl
    split at hl
    · rename_i e r he hr
      injection hl with hl; subst hl
      cases szs with
      | nil => exact hf.elim
      | cons n szs =>
        obtain ⟨ho, hn1, hf⟩ := hf
        cases xs with
        | nil => exact hx.elim
        | cons x xs =>
          cases ys with
          | nil => exact hy.elim
          | cons y ys =>
            obtain ⟨a1, b1, rfl, hx1, hx2, hx3⟩ := hx
            obtain ⟨a2, b2, rfl, hy1, hy2, hy3⟩ := hy
            simp only [eqDL] at hd
            have hnm := hn f (by simp)
            cases hq : eqD e x y with
            | none => simp [hq] at hd
            | some r1 =>
              obtain ⟨ag, hag, fx, fy⟩ := eqTy_fits he hq hx1 hy1
              obtain ⟨v1, r1', hv1⟩ := part_sound (P := P) (w := w) (g := g) (c1 := p1) (c2 := b1) hn1 hx1 hx2 ⟨ag, hag, by rw [← hx2]; exact fx⟩
              obtain ⟨v2, r2', hv2⟩ := part_sound (P := P) (w := w) (g := g) (c1 := p2) (c2 := b2) hn1 hy1 hy2 ⟨ag, hag, by rw [← hy2]; exact fy⟩
              rw [h1, ← ho] at r1'
              rw [h2, ← ho] at r2'
              have hr3 := hk f.type e he x y v1 v2 r1 hv1 hv2 hq
              simp only [Op.eqFields, ne_eq, hnm, not_false_eq_true, if_true, Sem.run_bind]
              rw [← List.append_assoc, ← List.append_assoc] 
              simp only [r1', r2', hr3, Result.andThen_ok]
              cases r1 with
              | false => simp [hq] at hd; subst hd; simp
              | true =>
                simp [hq] at hd
                simp only [Bool.not_true, Bool.false_eq_true, if_false]
                exact eqFields_run fs r hr hk (fun f hf => hn f (by simp [hf])) szs (o + n) xs ys (p1 ++ a1) (p2 ++ a2) b1 b2 b hf (by simp [h1, hx2]) (by simp [h2, hy2]) hx3 hy3 hd
    · cases hl

theorem eqArr_run {d n : Nat} {t : TypeId} {e : EqT} (hn : szOf P t = some n) (hk : EqOk P g w d t e) (hfit : ∀ x y b cx cy, eqD e x y = some b → Cs g w x cx → Cs g w y cy → ∃ ag, aggT P t = some ag ∧ x.fits ag cx.length = true ∧ y.fits ag cy.length = true) :
    ∀ (m i : Nat) (xs ys : List D) (p1 p2 c1 c2 : List Value) (b : Bool), p1.length = i * n → p2.length = i * n → AggCs g w (List.replicate m n) xs c1 → AggCs g w (List.replicate m n) ys c2 → eqDL (List.replicate m e) xs ys = some b →
    (do
      let r ← forIn (List.range' i m 1) ((none, ()) : Option Bool × Unit) fun i r => do
        if (!(← Op.equalIn d t (← part t (p1 ++ c1).toArray (i * n)) (← part t (p2 ++ c2).toArray (i * n)))) = true then pure (ForInStep.done (some false, ()))
        else pure (ForInStep.yield (none, ()))
      match r.fst with
      | some b => pure b
      | none => pure true : Sem Bool).run P w = .ok b w
  | 0, i, xs, ys, p1, p2, c1, c2, b, h1, h2, hx, hy, hd => by
    unfold eqDL at hd
    split at hd <;> (try contradiction)
    injection hd with hd; subst hd; simp
  | m + 1, i, xs, ys, p1, p2, c1, c2, b, h1, h2, hx, hy, hd => by
    cases xs with
    | nil => exact hx.elim
    | cons x xs =>
      cases ys with
      | nil => exact hy.elim
      | cons y ys =>
        obtain ⟨a1, b1, rfl, hx1, hx2, hx3⟩ := hx
        obtain ⟨a2, b2, rfl, hy1, hy2, hy3⟩ := hy
        simp only [List.replicate_succ, eqDL] at hd
        cases hq : eqD e x y with
        | none => simp [hq] at hd
        | some r1 =>
          obtain ⟨ag, hag, fx, fy⟩ := hfit _ _ _ _ _ hq hx1 hy1
          obtain ⟨v1, r1', hv1⟩ := part_sound (P := P) (w := w) (g := g) (c1 := p1) (c2 := b1) hn hx1 hx2 ⟨ag, hag, by rw [← hx2]; exact fx⟩
          obtain ⟨v2, r2', hv2⟩ := part_sound (P := P) (w := w) (g := g) (c1 := p2) (c2 := b2) hn hy1 hy2 ⟨ag, hag, by rw [← hy2]; exact fy⟩
          rw [h1] at r1'
          rw [h2] at r2'
          have hr3 := hk x y v1 v2 r1 hv1 hv2 hq
          simp only [List.range'_succ, List.forIn_cons, Sem.run_bind]
          rw [← List.append_assoc, ← List.append_assoc]
          simp only [r1', r2', hr3, Result.andThen_ok]
          cases r1 with
          | false => simp [hq] at hd; subst hd; simp
          | true =>
            simp [hq] at hd
            have := eqArr_run hn hk hfit m (i + 1) xs ys (p1 ++ a1) (p2 ++ a2) b1 b2 b (by simp [h1, hx2, Nat.succ_mul]) (by simp [h2, hy2, Nat.succ_mul]) hx3 hy3 hd
            simp only [Sem.run_bind] at this
            simpa using this

theorem beq_bytes (a b : ByteArray) : (a == b) = decide (a = b) := by
  rw [beq_toListBytes]
  by_cases h : a = b
  · subst h; simp
  · have : a.toList ≠ b.toList := fun e => h (by
      rw [ByteArray.toList_eq, ByteArray.toList_eq] at e
      exact ByteArray.ext (Array.ext' e))
    simp [h, this]
theorem eq_run : ∀ (k : Nat) (t : TypeId) (e : EqT), eqTy P k t = some e → ∀ d, k ≤ d → EqOk P g w d t e
  | 0, t, e, he, _, _ => by simp [eqTy] at he
  | k + 1, t, e, he, 0, hd => by omega
  | k + 1, t, e, he, d + 1, hkd => by
    intro x y vx vy b hx hy hd
    have ih := fun t e h => eq_run k t e h d (by omega)
    have he' := he
    unfold eqTy at he
    split at he
    · rename_i j hu
      injection he with he; subst he
      unfold eqD at hd
      split at hd <;> (try contradiction)
      rename_i i1 i2 i3 i4 _
      split at hd
      · rename_i hk
        subst hk
        injection hd with hd; subst hd
        rw [V_int hx, V_int hy]
        simp [Op.equalIn, run_underlying hu]
        rfl
      · cases hd
    · rename_i hu
      injection he with he; subst he
      unfold eqD at hd
      split at hd <;> (try contradiction)
      injection hd with hd; subst hd
      rw [V_bool hx, V_bool hy]
      simp [Op.equalIn, run_underlying hu]
      rfl
    · rename_i hu
      injection he with he; subst he
      unfold eqD at hd
      split at hd <;> (try contradiction)
      all_goals (injection hd with hd; subst hd)
      · rw [(V_lit.1 hx).1, (V_lit.1 hy).1]; simp [Op.equalIn, run_underlying hu]
      all_goals (simp only [V, V1, Cs] at hx hy)
      · obtain ⟨hx, _⟩ := hx; injection hx with hx
        obtain ⟨b', o', c', hy, _⟩ := hy; injection hy with hy
        rw [hx, hy]; simp [Op.equalIn, run_underlying hu]
      · obtain ⟨hx, _⟩ := hx; injection hx with hx
        obtain ⟨b', c', hy, _⟩ := hy; injection hy with hy
        rw [hx, hy]; simp [Op.equalIn, run_underlying hu]
      · obtain ⟨hy, _⟩ := hy; injection hy with hy
        obtain ⟨b', o', c', hx, _⟩ := hx; injection hx with hx
        rw [hx, hy]; simp [Op.equalIn, run_underlying hu]
      · obtain ⟨hy, _⟩ := hy; injection hy with hy
        obtain ⟨b', c', hx, _⟩ := hx; injection hx with hx
        rw [hx, hy]; simp [Op.equalIn, run_underlying hu]
    · rename_i hu
      injection he with he; subst he
      unfold eqD at hd
      split at hd <;> (try contradiction)
      injection hd with hd; subst hd
      rw [V_str hx, V_str hy]
      simp [Op.equalIn, run_underlying hu, beq_bytes]
    · rename_i hu
      injection he with he; subst he
      unfold eqD at hd
      split at hd <;> (try contradiction)
      all_goals (injection hd with hd; subst hd)
      · rw [(V_lit.1 hx).1, (V_lit.1 hy).1]; simp [Op.equalIn, run_underlying hu]
      all_goals (simp only [V, V1, Cs] at hx hy)
      · obtain ⟨hx, _⟩ := hx; injection hx with hx
        obtain ⟨b', o', s', c', hy, _⟩ := hy; injection hy with hy
        rw [hx, hy]; simp [Op.equalIn, run_underlying hu]
      · obtain ⟨hx, _⟩ := hx; injection hx with hx
        obtain ⟨b', c', _, _, hy, _⟩ := hy; injection hy with hy
        rw [hx, hy]; simp [Op.equalIn, run_underlying hu]
      · obtain ⟨hy, _⟩ := hy; injection hy with hy
        obtain ⟨b', o', s', c', hx, _⟩ := hx; injection hx with hx
        rw [hx, hy]; simp [Op.equalIn, run_underlying hu]
      · obtain ⟨hy, _⟩ := hy; injection hy with hy
        obtain ⟨b', c', _, _, hx, _⟩ := hx; injection hx with hx
        rw [hx, hy]; simp [Op.equalIn, run_underlying hu]
    · rename_i fs hu
      split at he
      · cases he
      · rename_i hst
        split at he
        · rename_i szs l hsz hl
          injection he with he; subst he
          unfold eqD at hd
          split at hd <;> (try contradiction)
          rename_i heq
          injection heq with e1 e2; subst e1 e2
          split at hd
          · rename_i hss
            obtain ⟨rfl, rfl⟩ := hss
            obtain ⟨c1, rfl, hc1⟩ := hx
            obtain ⟨c2, rfl, hc2⟩ := hy
            obtain ⟨fs', hu', hlen, _, _, hoff⟩ := szsOf_sound hsz
            rw [hu] at hu'; injection hu' with hu'; injection hu' with hu'; subst hu'
            simp only [Bool.or_eq_true, not_or, Bool.not_eq_true] at hst
            have hfo : P.fieldsOf t = fs := by simp [Program.fieldsOf, hu]
            rw [run_equalIn_struct w d t _ _ (by rw [hfo]; exact hu) hst.1, hfo]
            have := eqFields_run (P := P) (g := g) (w := w) (k := k) (d := d) fs.toList _ hl ih (fun f hf e1 => by
              have h3 := hst.2
              rw [Array.any_eq_false'] at h3
              have := h3 f (by simpa using hf)
              simp [e1] at this) _ 0 _ _ [] [] c1 c2 b (fieldsOk_of _ _ _ (by simpa using hlen) (fun i f hf => by
                have := hoff i f (by simpa using hf)
                simpa using this)) rfl rfl hc1 hc2 hd
            simpa using this
          · cases hd
        · cases he
    · rename_i mm el hu
      split at he
      · rename_i n e1 hn he1
        injection he with he; subst he
        unfold eqD at hd
        split at hd <;> (try contradiction)
        rename_i heq
        injection heq with e1 e2; subst e1 e2
        split at hd
        · rename_i hss
          obtain ⟨rfl, rfl⟩ := hss
          obtain ⟨c1, rfl, hc1⟩ := hx
          obtain ⟨c2, rfl, hc2⟩ := hy
          have := eqArr_run (P := P) (g := g) (w := w) (d := d) hn (ih _ _ he1) (fun x y b cx cy h1 h2 h3 => eqTy_fits he1 h1 h2 h3) mm 0 _ _ [] [] c1 c2 b (by simp) (by simp) hc1 hc2 hd
          simp only [List.nil_append] at this
          simp only [Op.equalIn, Sem.run_bind, run_underlying hu, Result.andThen_ok, run_sizeOf hn, Std.Legacy.Range.forIn_eq_forIn_range', Std.Legacy.Range.size]
          simp only [Sem.run_bind, Nat.sub_zero, Nat.add_sub_cancel, Nat.div_one] at this ⊢
          refine Eq.trans ?_ this
          congr 1
          funext r w'
          cases r.fst <;> rfl
        · cases hd
      · cases he
    · cases he

theorem eq_forms {k : Nat} {t : TypeId} {e : EqT} (he : eqTy P k t = some e) (hni : ∀ k, P.underlying t ≠ some (.int k)) (hns : P.underlying t ≠ some .string) {x y : D} {b : Bool} {vx vy : Value} (hx : V g w x vx) (hy : V g w y vy) (hd : eqD e x y = some b) :
    (∃ u v, vx = .bool u ∧ vy = .bool v) ∨ (∃ u v, vx = .pointer u ∧ vy = .pointer v) ∨ (∃ u n1 c1 v n2 c2, vx = .slice u n1 c1 ∧ vy = .slice v n2 c2) ∨ (∃ u v, vx = .agg u ∧ vy = .agg v) := by
  have hei : e ≠ .int ∧ e ≠ .str := by
    cases k with
    | zero => simp [eqTy] at he
    | succ k =>
      unfold eqTy at he
      split at he
      · rename_i hu; exact absurd hu (hni _)
      · injection he with he; subst he; exact ⟨by simp, by simp⟩
      · injection he with he; subst he; exact ⟨by simp, by simp⟩
      · rename_i hu; exact absurd hu hns
      · injection he with he; subst he; exact ⟨by simp, by simp⟩
      · split at he
        · cases he
        · split at he
          · injection he with he; subst he; exact ⟨by simp, by simp⟩
          · cases he
      · split at he
        · injection he with he; subst he; exact ⟨by simp, by simp⟩
        · cases he
      · cases he
  have lit : ∀ {v u}, V g w (.lit v) u → u = v := fun h => (V_lit.1 h).1
  have pv : ∀ {d u}, V g w (.pv d) u → ∃ q, u = .pointer q := fun h => by
    simp only [V, V1, Cs] at h; obtain ⟨_, _, _, h, _⟩ := h; injection h with h; exact ⟨_, h⟩
  have ptr : ∀ {i1 i2 i3 i4 u}, V g w (.ptr i1 i2 i3 i4) u → ∃ q, u = .pointer q := fun h => by
    simp only [V, V1, Cs] at h; obtain ⟨_, _, h, _⟩ := h; injection h with h; exact ⟨_, h⟩
  have sl : ∀ {i1 i2 i3 u}, V g w (.sl i1 i2 i3) u → ∃ q n c, u = .slice q n c := fun h => by
    simp only [V, V1, Cs] at h; obtain ⟨_, _, _, _, h, _⟩ := h; injection h with h; exact ⟨_, _, _, h⟩
  have mo : ∀ {i1 i2 i3 i4 i5 i6 u}, V g w (.mo i1 i2 i3 i4 i5 i6) u → ∃ q n c, u = .slice q n c := fun h => by
    simp only [V, V1, Cs] at h; obtain ⟨_, _, _, _, h, _⟩ := h; injection h with h; exact ⟨_, _, _, h⟩
  unfold eqD at hd
  split at hd <;> (try contradiction)
  · exact absurd rfl hei.1
  · exact .inl ⟨_, _, lit hx, lit hy⟩
  · exact .inr (.inl ⟨_, _, lit hx, lit hy⟩)
  · obtain ⟨q, hq⟩ := pv hy; exact .inr (.inl ⟨_, _, lit hx, hq⟩)
  · obtain ⟨q, hq⟩ := ptr hy; exact .inr (.inl ⟨_, _, lit hx, hq⟩)
  · obtain ⟨q, hq⟩ := pv hx; exact .inr (.inl ⟨_, _, hq, lit hy⟩)
  · obtain ⟨q, hq⟩ := ptr hx; exact .inr (.inl ⟨_, _, hq, lit hy⟩)
  · exact absurd rfl hei.2
  · exact .inr (.inr (.inl ⟨_, _, _, _, _, _, lit hx, lit hy⟩))
  · obtain ⟨q, n, c, hq⟩ := sl hy; exact .inr (.inr (.inl ⟨_, _, _, _, _, _, lit hx, hq⟩))
  · obtain ⟨q, n, c, hq⟩ := mo hy; exact .inr (.inr (.inl ⟨_, _, _, _, _, _, lit hx, hq⟩))
  · obtain ⟨q, n, c, hq⟩ := sl hx; exact .inr (.inr (.inl ⟨_, _, _, _, _, _, hq, lit hy⟩))
  · obtain ⟨q, n, c, hq⟩ := mo hx; exact .inr (.inr (.inl ⟨_, _, _, _, _, _, hq, lit hy⟩))
  · obtain ⟨c1, rfl, _⟩ := hx
    obtain ⟨c2, rfl, _⟩ := hy
    exact .inr (.inr (.inr ⟨_, _, rfl, rfl⟩))
theorem op_eq (q : Hq g w h) (hs : SlotsOk g w s a) {op : BinOp} {t t' : TypeId} {x y : Operand} {x' y' : Opd} {e : EqT} {neg : Bool} (ho : o.op = .binOp op t x y t') (hop : op = if neg then .neq else .eql) (hx : digOpd x = some x') (hy : digOpd y = some y') (he : eqTy P 12 t = some e)
    (hni : ∀ k, P.underlying t ≠ some (.int k)) (hns : P.underlying t ≠ some .string) (hg : P.eqGuardType P.depth t = false) (hr : RO.run call s h (.eq neg e x' y') = some (d, h')) : OpOut P g w h a o d h' := by
  have hex : execOp a.eval o = (do pure (.value (← (do eqGuard op t x y (a.eval x) (a.eval y); binOp op t (a.eval x) (a.eval y))))) := by unfold execOp; rw [ho]
  have h1 := opd_sound hs hx
  have h2 := opd_sound hs hy
  simp only [RO.run] at hr
  split at hr
  · rename_i b hb
    simp only [Option.some.injEq, Prod.mk.injEq] at hr
    obtain ⟨rfl, rfl⟩ := hr
    have hrun := eq_run (P := P) (g := g) (w := w) 12 t e he 10000 (by omega) _ _ _ _ b h1 h2 hb
    refine OpOut.of hex (Out.same q (v := .bool (b != neg)) ?_ (V.lit rfl))
    have key : (eqGuard op t x y (a.eval x) (a.eval y)).run P w = .ok () w ∧ (binOp op t (a.eval x) (a.eval y)).run P w = .ok (.bool (b != neg)) w := by
      have form := eq_forms (g := g) (w := w) he hni hns h1 h2 hb
      subst hop
      rcases form with ⟨u, v, e1, e2⟩ | ⟨u, v, e1, e2⟩ | ⟨u, n1, c1, v, n2, c2, e1, e2⟩ | ⟨u, v, e1, e2⟩ <;> rw [e1, e2] at hrun ⊢
      · cases neg <;> simp [eqGuard, binOp, Op.equal, Op.maxDepth, hrun]
      · cases neg <;> simp [eqGuard, binOp, Op.equal, Op.maxDepth, hrun]
      · cases neg <;> simp [eqGuard, binOp, Op.equal, Op.maxDepth, hrun]
      · cases neg <;> refine ⟨run_eqGuard_agg _ _ _ _ _ _ _ hg, ?_⟩ <;> simp [binOp, Op.equal, Op.maxDepth, hrun]
    simp only [Sem.run_bind, key.1, Result.andThen_ok, key.2]
  · cases hr
end
end Go.Rex
