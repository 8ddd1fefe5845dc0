import Derived.Test.YtijnmnpigjadhabRexI
import Derived.Laws.BytesArg
import Derived.Lib.ConvBytes
/- Rex, part J: operations, one by one. -/
set_option linter.unusedVariables false
set_option linter.unusedSimpArgs false
namespace Go.Rex
open Go.RowKit

abbrev CallF := FuncId → List D → Hp → Option (D × Hp)
def SlotsOk (g : Gh) (w : World) (s : List D) (a : Act) : Prop := a.tmps.size = s.length ∧ ∀ i, V g w (s.getD i und) (a.tmps.getD i undef)
def OpOut (P : Program) (g : Gh) (w : World) (h : Hp) (a : Act) (o : Oper) (d : D) (h' : Hp) : Prop :=
  ∃ n v w' g', (execOp a.eval o).run P w = .ok n w' ∧ (n = .value v ∨ n = .skip ∧ v = undef) ∧ V g' w' d v ∧ Hq g' w' h' ∧ Ext g w h g' w' h'

section
variable {P : Program} {g : Gh} {w : World} {h h' : Hp} {s : List D} {a : Act} {call : CallF} {o : Oper} {d : D} {m : Bool} {ro : RO}

theorem constD_sound {v : Value} (h : constD v = some d) : V g w d v := by
  unfold constD at h
  split at h <;> first | (cases h; done) | (injection h with h; subst h; exact V.lit rfl)
theorem opd_sound (hs : SlotsOk g w s a) {x : Operand} {y : Opd} (h : digOpd x = some y) : V g w (y.ev s) (a.eval x) := by
  cases x with
  | tmp t => simp only [digOpd, Option.some.injEq] at h; subst h; exact hs.2 t
  | const v =>
    simp only [digOpd, Option.map_eq_some_iff] at h
    obtain ⟨d, hd, rfl⟩ := h
    exact constD_sound hd
  | func f => simp only [digOpd, Option.some.injEq] at h; subst h; exact ⟨[], [], rfl, rfl, rfl⟩
  | global _ => simp [digOpd] at h

theorem OpOut.of {S : Sem Value} (hS : execOp a.eval o = (do pure (.value (← S)))) (hO : Out P g w h S d h') : OpOut P g w h a o d h' := by
  obtain ⟨v, w', g', h1, h2, h3, h4⟩ := hO
  exact ⟨_, v, w', g', by rw [hS]; simp [h1], .inl rfl, h2, h3, h4⟩

theorem op_mv (q : Hq g w h) (hs : SlotsOk g w s a) {x : Operand} {y : Opd} (hx : digOpd x = some y) (ho : o.op = .move x ∨ o.op = .assign x) : OpOut P g w h a o (y.ev s) h :=
  ⟨_, a.eval x, w, g, by rcases ho with ho | ho <;> (unfold execOp; rw [ho]; rfl), .inl rfl, opd_sound hs hx, q, Ext.refl _ _ _⟩

theorem V_bool {b : Bool} {v : Value} (h : V g w (.lit (.bool b)) v) : v = .bool b := (V_lit.1 h).1
theorem op_pick (q : Hq g w h) (hs : SlotsOk g w s a) {c x y : Operand} {c' x' y' : Opd} (hc : digOpd c = some c') (hx : digOpd x = some x') (hy : digOpd y = some y')
    (ho : o.op = .pick c x y) (hr : RO.run call s h (.pick c' x' y') = some (d, h')) : OpOut P g w h a o d h' := by
  have h1 := opd_sound hs hc
  simp only [RO.run] at hr
  split at hr
  · rename_i t ht
    rw [ht] at h1
    have h1 := V_bool h1
    simp only [Option.some.injEq, Prod.mk.injEq] at hr
    obtain ⟨rfl, rfl⟩ := hr
    refine ⟨_, if t then a.eval x else a.eval y, w, g, by unfold execOp; rw [ho]; simp only [h1]; cases t <;> simp [asBool], .inl rfl, ?_, q, Ext.refl _ _ _⟩
    cases t
    · simpa using opd_sound hs hy
    · simpa using opd_sound hs hx
  · cases hr

theorem arr_sound (q : Hq g w h) {t : TypeId} {v : Value} {es : Nat} {x : Opd} (hes : 0 < es) (hr : RO.run call s h (.arr es x) = some (d, h')) (hv : V g w (x.ev s) v) : Out P g w h (Instr.box t v) d h' := by
  simp only [RO.run] at hr
  generalize x.ev s = y at hr hv
  split at hr
  · rename_i szs fs
    split at hr
    · rename_i hsz
      subst hsz
      simp only [Option.some.injEq, Prod.mk.injEq] at hr
      obtain ⟨rfl, rfl⟩ := hr
      obtain ⟨c, rfl, hc⟩ := hv
      have hrun : (Instr.box t (.agg c.toArray)).run P w = .ok (.pointer (some ⟨w.heap.size, 0, none⟩)) { w with heap := w.heap.push (.cells c.toArray t) } := by
        simp [Instr.box, newVar, newRow, Value.cells]
      have hb := below_push w (.cells c.toArray t)
      have hcl := Cs.size _ _ hc
      simp only [D.sz, sumN_rep] at hcl
      have hl : Le g w g { w with heap := w.heap.push (.cells c.toArray t) } := Le.of_below q.imm hb
      obtain ⟨q', e'⟩ := q.makeF hb w.heap.size (Nat.le_refl _) (by simp) es fs.length fs hes false true (fun _ => rfl) ⟨c.toArray, t, (0, 0), by simp, by simp [hcl], by simp⟩ (Nat.le_refl _)
        (AggCs.row (AggCs.le hl _ _ _ hc) (At_push w c t _))
      refine ⟨_, _, _, hrun, ?_, q', e'⟩
      simp only [V, V1, Cs]
      exact ⟨_, addInc_here _ _ _ _, rfl, trivial⟩
    · cases hr
  · cases hr

theorem alloc_run {t : TypeId} {z : Value} {i : TypeInfo} (hi : P.info? t = some i) (hz : i.zero = some z) : (Instr.alloc t true (.tuple #[])).run P w = (Instr.box t z).run P w := by
  simp [Instr.alloc, Instr.box, run_zeroValue hi hz]

theorem op_box (q : Hq g w h) (hs : SlotsOk g w s a) {t : TypeId} {x : Operand} (ho : o.op = .box t x) (hd : digOp P m (.box t x) = some ro) (hr : ro.run call s h = some (d, h')) : OpOut P g w h a o d h' := by
  have he : execOp a.eval o = (do pure (.value (← Instr.box t (a.eval x)))) := by unfold execOp; rw [ho]
  simp only [digOp] at hd
  split at hd
  · rename_i y n e hx hu
    split at hd
    · rename_i k hk
      split at hd
      · rename_i hpos
        injection hd with hd; subst hd
        exact OpOut.of he (arr_sound q hpos hr (opd_sound hs hx))
      · cases hd
    · cases hd
  · rename_i y u hna hx hu
    injection hd with hd; subst hd
    exact OpOut.of he (box_sound q hr (opd_sound hs hx))
  · cases hd
theorem op_alloc (q : Hq g w h) {t : TypeId} (ho : o.op = .alloc t) (hd : digOp P m (.alloc t) = some ro) (hr : ro.run call s h = some (d, h')) : OpOut P g w h a o d h' := by
  have he : execOp a.eval o = (do pure (.value (← Instr.alloc t true (.tuple #[])))) := by unfold execOp; rw [ho]
  simp only [digOp] at hd
  split at hd
  · rename_i z n e hz hu
    obtain ⟨v, i, hi, hv, hV⟩ := zeroOf_sound hz
    split at hd
    · split at hd
      · rename_i hpos
        injection hd with hd; subst hd
        obtain ⟨v', w', g', h1, h2⟩ := arr_sound (P := P) (t := t) q hpos hr (V.of1 (hV g w))
        exact OpOut.of he ⟨v', w', g', by rw [alloc_run hi hv]; exact h1, h2⟩
      · cases hd
    · cases hd
  · rename_i z u hna hz hu
    obtain ⟨v, i, hi, hv, hV⟩ := zeroOf_sound hz
    injection hd with hd; subst hd
    obtain ⟨v', w', g', h1, h2⟩ := box_sound (P := P) (t := t) q hr (V.of1 (hV g w))
    exact OpOut.of he ⟨v', w', g', by rw [alloc_run hi hv]; exact h1, h2⟩
  · cases hd

theorem szsOf_sound {t : TypeId} {szs : List Nat} (h : szsOf P t = some szs) : ∃ fs, P.underlying t = some (.struct fs) ∧ szs.length = fs.size ∧ szOf P t = some (sumN szs) ∧ (∀ n ∈ szs, 0 < n) ∧
    ∀ (i : Nat) (f : Field), fs[i]? = some f → f.offset = sumN (szs.take i) ∧ ∃ n, szs[i]? = some n ∧ szOf P f.type = some n := by
  unfold szsOf at h
  split at h
  · rename_i fs hu
    split at h
    · rename_i z hz
      split at h
      · rename_i hc
        injection h with h; subst h
        simp only [Bool.and_eq_true, beq_iff_eq, List.all_eq_true, decide_eq_true_eq] at hc
        obtain ⟨⟨ho, hp⟩, hs⟩ := hc
        have key : ∀ (l : List Field) (z : List Nat) (k : Nat), optL (fun (f : Field) => szOf P f.type) l = some z → offsOk k l z = true →
            z.length = l.length ∧ ∀ (i : Nat) (f : Field), l[i]? = some f → f.offset = k + sumN (z.take i) ∧ ∃ n, z[i]? = some n ∧ szOf P f.type = some n := by
          intro l
          induction l with
          | nil => intro z k hz ho; simp only [optL, Option.some.injEq] at hz; subst hz; exact ⟨rfl, fun i f hf => by simp at hf⟩
          | cons x l ih =>
            intro z k hz ho
            simp only [optL] at hz
            split at hz
            · rename_i b r hb hr
              injection hz with hz; subst hz
              simp only [offsOk, Bool.and_eq_true, beq_iff_eq] at ho
              obtain ⟨h1, h2⟩ := ih r (k + b) hr ho.2
              refine ⟨by simp [h1], fun i f hf => ?_⟩
              cases i with
              | zero => simp at hf; subst hf; exact ⟨by simp [sumN, ho.1], b, by simp, hb⟩
              | succ i =>
                obtain ⟨e1, n, e2, e3⟩ := h2 i f (by simpa using hf)
                exact ⟨by simp [sumN, e1]; omega, n, by simpa using e2, e3⟩
            · cases hz
        obtain ⟨h1, h2⟩ := key fs.toList z 0 hz ho
        refine ⟨fs, hu, by simpa using h1, hs, hp, fun i f hf => ?_⟩
        obtain ⟨e1, e2⟩ := h2 i f (by simpa using hf)
        exact ⟨by simpa using e1, e2⟩
      · cases h
    · cases h
  · cases h

/-! ### Memory -/
theorem op_ld (q : Hq g w h) (hs : SlotsOk g w s a) {t : TypeId} {x : Operand} (ho : o.op = .load t x) (hd : digOp P m (.load t x) = some ro) (hr : ro.run call s h = some (d, h')) : OpOut P g w h a o d h' := by
  have he : execOp a.eval o = (do pure (.value (← Instr.loadAt t (a.eval x)))) := by unfold execOp; rw [ho]
  simp only [digOp] at hd
  split at hd
  · rename_i ag k y hag hk hx
    injection hd with hd; subst hd
    simp only [RO.run] at hr
    split at hr
    · rename_i r hl
      split at hr
      · rename_i hf
        simp only [Option.some.injEq, Prod.mk.injEq] at hr
        obtain ⟨rfl, rfl⟩ := hr
        obtain ⟨b, o', c, hv, hc, hat⟩ := loadAt_sound q hl (opd_sound hs hx)
        obtain ⟨v, hv1, hv2⟩ := run_loadVar hag hk hf hc hat
        refine OpOut.of he (Out.same q (v := v) ?_ hv2)
        simp [Instr.loadAt, Instr.sureAddr, hv, hv1]
      · cases hr
    · cases hr
  · cases hd
theorem op_st (q : Hq g w h) (hs : SlotsOk g w s a) {t : TypeId} {x y : Operand} (ho : o.op = .store t x y) (hd : digOp P m (.store t x y) = some ro) (hr : ro.run call s h = some (d, h')) : OpOut P g w h a o d h' := by
  simp only [digOp] at hd
  split at hd
  · rename_i k x' y' hk hx hy
    injection hd with hd; subst hd
    simp only [RO.run] at hr
    split at hr
    · cases hr
    · rename_i hnt
      split at hr
      · rename_i h1 hst
        simp only [Option.some.injEq, Prod.mk.injEq] at hr
        obtain ⟨rfl, rfl⟩ := hr
        obtain ⟨b, o', w', hv, hrun, q', e'⟩ := storeAt_sound (P := P) q hk hst (opd_sound hs hx) (opd_sound hs hy) (fun l e => by rw [e] at hnt; simp [D.isTup] at hnt)
        refine ⟨.skip, undef, w', g, ?_, .inr ⟨rfl, rfl⟩, ⟨[], rfl, rfl⟩, q', e'⟩
        unfold execOp
        rw [ho]
        simp [Instr.storeAt, Instr.sureAddr, hv, hrun]
      · cases hr
  · cases hd
theorem op_nck (q : Hq g w h) (hs : SlotsOk g w s a) {x : Operand} (ho : o.op = .nilCheck x) (hd : digOp P m (.nilCheck x) = some ro) (hr : ro.run call s h = some (d, h')) : OpOut P g w h a o d h' := by
  simp only [digOp, Option.map_eq_some_iff] at hd
  obtain ⟨y, hx, rfl⟩ := hd
  have hv := opd_sound hs hx
  simp only [RO.run] at hr
  split at hr <;> try (cases hr; done)
  all_goals (
    rename_i he
    simp only [Option.some.injEq, Prod.mk.injEq] at hr
    obtain ⟨rfl, rfl⟩ := hr
    rw [he] at hv)
  · have hv' := hv
    simp only [V, V1, Cs] at hv'
    obtain ⟨b, o', c, e, _⟩ := hv'
    injection e with e
    exact ⟨_, _, w, g, by unfold execOp; rw [ho]; simp only [e]; rfl, .inl rfl, e ▸ hv, q, Ext.refl _ _ _⟩
  · have hv' := hv
    simp only [V, V1, Cs] at hv'
    obtain ⟨i, _, e, _⟩ := hv'
    injection e with e
    exact ⟨_, _, w, g, by unfold execOp; rw [ho]; simp only [e]; rfl, .inl rfl, e ▸ hv, q, Ext.refl _ _ _⟩
  · have hv' := hv
    simp only [V, V1, Cs] at hv'
    obtain ⟨ps, vs, e, _⟩ := hv'
    injection e with e
    exact ⟨_, _, w, g, by unfold execOp; rw [ho]; simp only [e]; rfl, .inl rfl, e ▸ hv, q, Ext.refl _ _ _⟩
end
end Go.Rex
