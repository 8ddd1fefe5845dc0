import Derived.Test.YtijnmnpigjadhabRexPrim
/- Rex, limits: more fuel tells the same; runs without fuel. -/
set_option linter.unusedVariables false
namespace Go.Rex

/-- One says at least what the other says. -/
def CLe (c c' : CallF) : Prop := ∀ f args h r, c f args h = some r → c' f args h = some r
theorem CLe.refl (c : CallF) : CLe c c := fun _ _ _ _ h => h
theorem CLe.trans {a b c : CallF} (x : CLe a b) (y : CLe b c) : CLe a c := fun f args h r k => y _ _ _ _ (x _ _ _ _ k)

section
variable {c c' : CallF} (hc : CLe c c')
include hc
theorem op_mono {s : List D} {h : Hp} {o : RO} {r : D × Hp} (x : o.run c s h = some r) : o.run c' s h = some r := by
  cases o
  case call f args =>
    simp only [RO.run] at x ⊢
    split at x <;> first | exact hc _ _ _ _ x | cases x
  all_goals (first | exact x | (rename_i b _; cases b <;> exact x))
theorem step_mono {o : ROp} {st st' : St} (x : o.step c st = some st') : o.step c' st = some st' := by
  unfold ROp.step at x ⊢
  by_cases hw : o.wanted st.s = true
  · simp only [hw, if_true] at x ⊢
    cases e : RO.run c st.s st.h o.op with
    | none => rw [e] at x; cases x
    | some p => rw [e] at x; rw [op_mono hc e]; exact x
  · simp only [hw] at x ⊢; exact x
theorem regRun_mono : ∀ {ops : List ROp} {st st' : St}, regRun c ops st = some st' → regRun c' ops st = some st'
  | [], _, _, x => x
  | o :: r, st, st', x => by
    simp only [regRun] at x ⊢
    cases e : o.step c st with
    | none => rw [e] at x; cases x
    | some p => rw [e] at x; rw [step_mono hc e]; exact regRun_mono x
theorem recok_mono {hs : List Hp} {r : Rec} (x : r.ok c hs = true) : r.ok c' hs = true := by
  unfold Rec.ok at x ⊢
  rw [List.all_eq_true] at x ⊢
  intro j hj
  have y := x j hj
  split at y
  · rename_i hcond
    rw [if_pos hcond]
    split at y
    · rename_i h hh
      cases e : RO.run c r.s h r.o.op with
      | none => rw [e] at y; cases y
      | some p => rw [e] at y; rw [op_mono hc e]; exact y
    · cases y
  · rename_i hcond
    rw [if_neg hcond]
theorem drawRun_mono : ∀ {ops : List ROp} {st st' : St} {hs : List Hp} {rs : List Rec}, drawRun c ops st hs rs = some st' → drawRun c' ops st hs rs = some st'
  | [], st, st', hs, rs, x => by
    simp only [drawRun] at x ⊢
    split at x
    · rename_i hk
      rw [if_pos]
      · exact x
      · rw [List.all_eq_true] at hk ⊢
        exact fun r hr => recok_mono hc (hk r hr)
    · cases x
  | o :: r, st, st', hs, rs, x => by
    simp only [drawRun] at x ⊢
    by_cases hw : o.wanted st.s = true
    · simp only [hw, if_true] at x ⊢
      cases e : RO.run c st.s st.h o.op with
      | none => rw [e] at x; cases x
      | some p =>
        rw [e] at x; rw [op_mono hc e]
        simp only at x ⊢
        split at x
        · rename_i hk; rw [if_pos hk]; exact drawRun_mono x
        · rename_i hk; rw [if_neg hk]; exact drawRun_mono x
    · simp only [hw] at x ⊢; exact drawRun_mono x
end

theorem loopN_mono {f f' : St → Option (Ex × St)} (hf : ∀ st r, f st = some r → f' st = some r) : ∀ {n m : Nat} {st : St} {r : Ex × St}, n ≤ m → loopN f n st = some r → loopN f' m st = some r
  | 0, _, _, _, _, x => by simp [loopN] at x
  | n + 1, 0, _, _, h, _ => by omega
  | n + 1, m + 1, st, r, h, x => by
    simp only [loopN] at x ⊢
    cases e : f st with
    | none => rw [e] at x; cases x
    | some p =>
      rw [hf _ _ e]
      rw [e] at x
      obtain ⟨e1, st1⟩ := p
      cases e1 with
      | nrm => exact loopN_mono hf (Nat.le_of_succ_le_succ h) x
      | ex i => exact x
      | ret => exact x

theorem run_mono {c c' : CallF} (hc : CLe c c') {n m : Nat} (hn : n ≤ m) : ∀ {b : RC} {st : St} {r : Ex × St}, b.run c n st = some r → b.run c' m st = some r
  | .skip, _, _, x => x
  | .reg ops, st, r, x => by
    simp only [RC.run] at x ⊢
    cases e : regRun c ops st with
    | none => rw [e] at x; cases x
    | some p => rw [e] at x; rw [regRun_mono hc e]; exact x
  | .draw pre ops, st, r, x => by
    simp only [RC.run] at x ⊢
    cases e : regRun c pre st with
    | none => rw [e] at x; cases x
    | some p =>
      rw [e] at x; rw [regRun_mono hc e]
      simp only at x ⊢
      cases e2 : drawRun c ops p [p.h] [] with
      | none => rw [e2] at x; cases x
      | some q => rw [e2] at x; rw [drawRun_mono hc e2]; exact x
  | .seq a b, st, r, x => by
    simp only [RC.run] at x ⊢
    cases e : a.run c n st with
    | none => rw [e] at x; cases x
    | some p =>
      rw [e] at x; rw [run_mono hc hn e]
      obtain ⟨e1, st1⟩ := p
      cases e1 with
      | nrm => exact run_mono hc hn x
      | ex i => exact x
      | ret => exact x
  | .cond d a b, st, r, x => by
    simp only [RC.run] at x ⊢
    split at x
    · rename_i t ht
      cases t
      · exact run_mono hc hn (b := b) x
      · exact run_mono hc hn (b := a) x
    · cases x
  | .block id b, st, r, x => by
    simp only [RC.run] at x ⊢
    cases e : b.run c n st with
    | none => rw [e] at x; cases x
    | some p => rw [e] at x; rw [run_mono hc hn e]; exact x
  | .loop b, st, r, x => by
    simp only [RC.run] at x ⊢
    exact loopN_mono (fun st r h => run_mono hc hn h) hn x
  | .exit id, _, _, x => x
  | .ret, _, _, x => x

theorem bodyRun_mono {c c' : CallF} (hc : CLe c c') {n m : Nat} (hn : n ≤ m) {f : RFn} {args : List D} {h : Hp} {r : List D × Hp} (x : bodyRun c n f args h = some r) : bodyRun c' m f args h = some r := by
  unfold bodyRun at x ⊢
  cases e : f.body.run c n { s := args ++ List.replicate (f.ntmps - args.length) und, h } with
  | none => rw [e] at x; cases x
  | some p => rw [e] at x; rw [run_mono hc hn e]; exact x

section
variable (F : FuncId → Option RFn) (R : Prim)
/-- A call, given what calls within it give. -/
def fnStep (call : CallF) (bodyR : CallF → RFn → List D → Hp → Option (List D × Hp)) (g : FuncId) (args : List D) (h : Hp) : Option (D × Hp) :=
  match F g with
  | none => R g args h
  | some f =>
    match f.mode with
    | .eff => match bodyR call f args h with
      | some (l, h') => some (tupOf l, h')
      | none => none
    | .pure scal own =>
      match optL (tell h) args with
      | none => none
      | some args' =>
        match bodyR call f args' [] with
        | none => none
        | some (l, h') =>
          let h0 := if scal || flatL args then h else frzIds h (reach h (fzDepth + 1) args)
          if scal then (if isLitL l then some (tupOf l, h0) else none) else handBack own h0 h' l
theorem axFn_succ (n : Nat) (g : FuncId) (args : List D) (h : Hp) : axFn F R (n + 1) g args h = fnStep F R (axFn F R n) (fun c => bodyRun c n) g args h := rfl
theorem fnStep_mono {c c' : CallF} {b b' : CallF → RFn → List D → Hp → Option (List D × Hp)} (hb : ∀ f args h r, b c f args h = some r → b' c' f args h = some r) {g : FuncId} {args : List D} {h : Hp} {r : D × Hp} (x : fnStep F R c b g args h = some r) : fnStep F R c' b' g args h = some r := by
  unfold fnStep at x ⊢
  cases e : F g with
  | none => rw [e] at x; exact x
  | some f =>
    rw [e] at x
    simp only at x ⊢
    cases em : f.mode with
    | eff =>
      rw [em] at x
      simp only at x ⊢
      cases e2 : b c f args h with
      | none => rw [e2] at x; cases x
      | some p => rw [e2] at x; rw [hb _ _ _ _ e2]; exact x
    | pure scal own =>
      rw [em] at x
      simp only at x ⊢
      cases e1 : optL (tell h) args with
      | none => rw [e1] at x; cases x
      | some args' =>
        rw [e1] at x
        simp only at x ⊢
        cases e2 : b c f args' [] with
        | none => rw [e2] at x; cases x
        | some p => rw [e2] at x; rw [hb _ _ _ _ e2]; exact x
theorem axFn_mono1 : ∀ n, CLe (axFn F R n) (axFn F R (n + 1))
  | 0 => fun _ _ _ _ x => by simp [axFn] at x
  | n + 1 => fun g args h r x => by
    rw [axFn_succ] at x ⊢
    exact fnStep_mono F R (fun f args h r y => bodyRun_mono (axFn_mono1 n) (Nat.le_succ n) y) x
theorem axFn_mono {n m : Nat} (hn : n ≤ m) : CLe (axFn F R n) (axFn F R m) := by
  induction hn with
  | refl => exact CLe.refl _
  | step _ ih => exact ih.trans (axFn_mono1 F R _)

open Classical in
/-- What a call gives, with as much fuel as it wants. -/
noncomputable def axW : CallF := fun g args h => if e : ∃ n r, axFn F R n g args h = some r then some (Classical.choose (Classical.choose_spec e)) else none
theorem axW_iff {g : FuncId} {args : List D} {h : Hp} {r : D × Hp} : axW F R g args h = some r ↔ ∃ n, axFn F R n g args h = some r := by
  unfold axW
  constructor
  · intro x
    split at x
    · rename_i e
      injection x with x
      exact ⟨_, x ▸ Classical.choose_spec (Classical.choose_spec e)⟩
    · cases x
  · rintro ⟨n, x⟩
    have e : ∃ n r, axFn F R n g args h = some r := ⟨n, r, x⟩
    rw [dif_pos e]
    have y := Classical.choose_spec (Classical.choose_spec e)
    rcases Nat.le_total n (Classical.choose e) with k | k
    · exact y.symm.trans (axFn_mono F R k _ _ _ _ x)
    · exact (axFn_mono F R k _ _ _ _ y).symm.trans x
end

open Classical in
noncomputable def loopW (f : St → Option (Ex × St)) (st : St) : Option (Ex × St) := if e : ∃ n r, loopN f n st = some r then some (Classical.choose (Classical.choose_spec e)) else none
theorem loopW_iff {f : St → Option (Ex × St)} {st : St} {r : Ex × St} : loopW f st = some r ↔ ∃ n, loopN f n st = some r := by
  unfold loopW
  constructor
  · intro x
    split at x
    · rename_i e
      injection x with x
      exact ⟨_, x ▸ Classical.choose_spec (Classical.choose_spec e)⟩
    · cases x
  · rintro ⟨n, x⟩
    have e : ∃ n r, loopN f n st = some r := ⟨n, r, x⟩
    rw [dif_pos e]
    have y := Classical.choose_spec (Classical.choose_spec e)
    rcases Nat.le_total n (Classical.choose e) with k | k
    · exact y.symm.trans (loopN_mono (fun _ _ h => h) k x)
    · exact (loopN_mono (fun _ _ h => h) k y).symm.trans x
theorem loopN_succ (f : St → Option (Ex × St)) (n : Nat) (st : St) {r : Ex × St} (x : loopN f (n + 1) st = some r) : (∃ st', f st = some (.nrm, st') ∧ loopN f n st' = some r) ∨ f st = some r ∧ r.1 ≠ .nrm := by
  simp only [loopN] at x
  cases e : f st with
  | none => rw [e] at x; cases x
  | some p =>
    rw [e] at x
    obtain ⟨e1, st1⟩ := p
    cases e1 with
    | nrm => exact .inl ⟨st1, rfl, x⟩
    | ex i => exact .inr ⟨x, by injection x with x; subst x; intro h; cases h⟩
    | ret => exact .inr ⟨x, by injection x with x; subst x; intro h; cases h⟩
theorem loopN_one (f : St → Option (Ex × St)) (n : Nat) (st : St) {r : Ex × St} (h : f st = some r) (hr : r.1 ≠ .nrm) : loopN f (n + 1) st = some r := by
  simp only [loopN]
  rw [h]
  obtain ⟨e1, st1⟩ := r
  cases e1 with
  | nrm => exact absurd rfl hr
  | ex i => rfl
  | ret => rfl
theorem loopN_more (f : St → Option (Ex × St)) (n : Nat) (st st' : St) (h : f st = some (.nrm, st')) : loopN f (n + 1) st = loopN f n st' := by
  simp only [loopN]; rw [h]
theorem loopW_eq (f : St → Option (Ex × St)) (st : St) : loopW f st = match f st with
    | some (.nrm, st') => loopW f st'
    | r => r := by
  cases e : f st with
  | none =>
    cases h : loopW f st with
    | none => rfl
    | some r =>
      obtain ⟨n, x⟩ := loopW_iff.1 h
      cases n with
      | zero => simp [loopN] at x
      | succ n => rcases loopN_succ f n st x with ⟨st', h1, _⟩ | ⟨h1, _⟩ <;> (rw [e] at h1; cases h1)
  | some p =>
    obtain ⟨e1, st1⟩ := p
    have hard : (Ex.nrm ≠ e1 → loopW f st = some (e1, st1)) := fun hne => loopW_iff.2 ⟨1, loopN_one f 0 st e (fun h => hne h.symm)⟩
    cases e1 with
    | nrm =>
      show loopW f st = loopW f st1
      cases h : loopW f st1 with
      | some r => obtain ⟨n, x⟩ := loopW_iff.1 h; exact loopW_iff.2 ⟨n + 1, by rw [loopN_more f n st st1 e]; exact x⟩
      | none =>
        cases h2 : loopW f st with
        | none => rfl
        | some r =>
          obtain ⟨n, x⟩ := loopW_iff.1 h2
          cases n with
          | zero => simp [loopN] at x
          | succ n => rw [loopN_more f n st st1 e] at x; rw [loopW_iff.2 ⟨n, x⟩] at h; cases h
    | ex i => exact hard (by intro h; cases h)
    | ret => exact hard (by intro h; cases h)

/-- Code, with as much fuel as it wants. -/
noncomputable def RC.runW (call : CallF) : RC → St → Option (Ex × St)
  | .skip, st => some (.nrm, st)
  | .reg ops, st => match regRun call ops st with
    | some st' => some (.nrm, st')
    | none => none
  | .draw pre ops, st => match regRun call pre st with
    | some st1 => match drawRun call ops st1 [st1.h] [] with
      | some st' => some (.nrm, st')
      | none => none
    | none => none
  | .seq a b, st => match a.runW call st with
    | some (.nrm, st') => b.runW call st'
    | r => r
  | .cond c a b, st => match c.ev st.s with
    | .lit (.bool t) => if t then a.runW call st else b.runW call st
    | _ => none
  | .block id b, st => match b.runW call st with
    | some (.ex i, st') => if i = id then some (.nrm, st') else some (.ex i, st')
    | r => r
  | .loop b, st => loopW (b.runW call) st
  | .exit id, st => some (.ex id, st)
  | .ret, st => some (.ret, st)
noncomputable def bodyW (call : CallF) (f : RFn) (args : List D) (h : Hp) : Option (List D × Hp) :=
  match f.body.runW call { s := args ++ List.replicate (f.ntmps - args.length) und, h } with
  | some (.nrm, st) | some (.ret, st) => match resOf st f.results with
    | some l => some (l, st.h)
    | none => none
  | _ => none

/-! ### What is got without fuel is got with some -/
section
variable {c : Nat → CallF} (hc : ∀ n m, n ≤ m → CLe (c n) (c m)) {cW : CallF} (hW : ∀ f args h r, cW f args h = some r → ∃ n, c n f args h = some r)
include hc hW
omit hc in
theorem op_lim {s : List D} {h : Hp} {o : RO} {r : D × Hp} (x : o.run cW s h = some r) : ∃ n, o.run (c n) s h = some r := by
  cases o
  case call f args =>
    simp only [RO.run] at x ⊢
    split at x <;> first | exact hW _ _ _ _ x | cases x
  all_goals (first | exact ⟨0, x⟩ | (rename_i b _; cases b <;> exact ⟨0, x⟩))
omit hc in
theorem step_lim {o : ROp} {st st' : St} (x : o.step cW st = some st') : ∃ n, o.step (c n) st = some st' := by
  unfold ROp.step at x ⊢
  by_cases hw : o.wanted st.s = true
  · simp only [hw, if_true] at x ⊢
    cases e : RO.run cW st.s st.h o.op with
    | none => rw [e] at x; cases x
    | some p => rw [e] at x; obtain ⟨n, hn⟩ := op_lim hW e; exact ⟨n, by rw [hn]; exact x⟩
  · simp only [hw] at x ⊢; exact ⟨0, x⟩
theorem regRun_lim : ∀ {ops : List ROp} {st st' : St}, regRun cW ops st = some st' → ∃ n, regRun (c n) ops st = some st'
  | [], _, _, x => ⟨0, x⟩
  | o :: r, st, st', x => by
    simp only [regRun] at x ⊢
    cases e : o.step cW st with
    | none => rw [e] at x; cases x
    | some p =>
      rw [e] at x
      obtain ⟨n, hn⟩ := step_lim hW e
      obtain ⟨m, hm⟩ := regRun_lim x
      refine ⟨max n m, ?_⟩
      rw [step_mono (hc n _ (Nat.le_max_left _ _)) hn]
      exact regRun_mono (hc m _ (Nat.le_max_right _ _)) hm
omit hc hW in
theorem all_lim {α : Type} {p : Nat → α → Bool} (hp : ∀ n m a, n ≤ m → p n a = true → p m a = true) : ∀ (l : List α), (∀ a ∈ l, ∃ n, p n a = true) → ∃ n, ∀ a ∈ l, p n a = true
  | [], _ => ⟨0, fun _ h => by cases h⟩
  | a :: l, h => by
    obtain ⟨n, hn⟩ := h a (by simp)
    obtain ⟨m, hm⟩ := all_lim hp l (fun x hx => h x (by simp [hx]))
    refine ⟨max n m, fun x hx => ?_⟩
    rcases List.mem_cons.1 hx with rfl | hx
    · exact hp n _ _ (Nat.le_max_left _ _) hn
    · exact hp m _ _ (Nat.le_max_right _ _) (hm x hx)
theorem recok_lim {hs : List Hp} {r : Rec} (x : r.ok cW hs = true) : ∃ n, r.ok (c n) hs = true := by
  unfold Rec.ok at x
  rw [List.all_eq_true] at x
  obtain ⟨n, hn⟩ := all_lim (p := fun n j => if r.o.lo ≤ j && j ≤ r.o.hi then
      match hs[j]? with
      | some h => match r.o.op.run (c n) r.s h with
        | some (d', _) => D.same r.d d'
        | none => false
      | none => false
    else true) (fun n m j hn h => by
      split at h
      · rename_i hcond
        rw [if_pos hcond]
        split at h
        · rename_i hh e0
          cases e : RO.run (c n) r.s hh r.o.op with
          | none => rw [e] at h; cases h
          | some p => rw [e] at h; rw [op_mono (hc n m hn) e]; exact h
        · cases h
      · rename_i hcond
        rw [if_neg hcond]) (List.range hs.length) (fun j hj => by
      have y := x j hj
      split at y
      · rename_i hcond
        split at y
        · rename_i hh e0
          cases e : RO.run cW r.s hh r.o.op with
          | none => rw [e] at y; cases y
          | some p =>
            rw [e] at y; obtain ⟨n, hn⟩ := op_lim hW e
            exact ⟨n, by rw [if_pos hcond, e0]; simp only; rw [hn]; exact y⟩
        · cases y
      · rename_i hcond
        exact ⟨0, by rw [if_neg hcond]⟩)
  exact ⟨n, by unfold Rec.ok; rw [List.all_eq_true]; exact hn⟩
theorem drawRun_lim : ∀ {ops : List ROp} {st st' : St} {hs : List Hp} {rs : List Rec}, drawRun cW ops st hs rs = some st' → ∃ n, drawRun (c n) ops st hs rs = some st'
  | [], st, st', hs, rs, x => by
    simp only [drawRun] at x ⊢
    split at x
    · rename_i hk
      rw [List.all_eq_true] at hk
      obtain ⟨n, hn⟩ := all_lim (p := fun n r => Rec.ok (c n) hs r) (fun n m r hn h => recok_mono (hc n m hn) h) rs (fun r hr => recok_lim hc hW (hk r hr))
      exact ⟨n, by rw [if_pos]; exact x; rw [List.all_eq_true]; exact hn⟩
    · cases x
  | o :: r, st, st', hs, rs, x => by
    simp only [drawRun] at x ⊢
    by_cases hw : o.wanted st.s = true
    · simp only [hw, if_true] at x ⊢
      cases e : RO.run cW st.s st.h o.op with
      | none => rw [e] at x; cases x
      | some p =>
        rw [e] at x
        obtain ⟨n, hn⟩ := op_lim hW e
        simp only at x ⊢
        split at x
        · rename_i hk
          obtain ⟨m, hm⟩ := drawRun_lim x
          refine ⟨max n m, ?_⟩
          rw [op_mono (hc n _ (Nat.le_max_left _ _)) hn]
          simp only
          rw [if_pos hk]
          exact drawRun_mono (hc m _ (Nat.le_max_right _ _)) hm
        · rename_i hk
          obtain ⟨m, hm⟩ := drawRun_lim x
          refine ⟨max n m, ?_⟩
          rw [op_mono (hc n _ (Nat.le_max_left _ _)) hn]
          simp only
          rw [if_neg hk]
          exact drawRun_mono (hc m _ (Nat.le_max_right _ _)) hm
    · simp only [hw] at x ⊢; exact drawRun_lim x
theorem run_lim : ∀ {b : RC} {st : St} {r : Ex × St}, b.runW cW st = some r → ∃ n, b.run (c n) n st = some r
  | .skip, _, _, x => ⟨0, x⟩
  | .reg ops, st, r, x => by
    simp only [RC.run, RC.runW] at x ⊢
    cases e : regRun cW ops st with
    | none => rw [e] at x; cases x
    | some p => rw [e] at x; obtain ⟨n, hn⟩ := regRun_lim hc hW e; exact ⟨n, by rw [hn]; exact x⟩
  | .draw pre ops, st, r, x => by
    simp only [RC.run, RC.runW] at x ⊢
    cases e : regRun cW pre st with
    | none => rw [e] at x; cases x
    | some p =>
      rw [e] at x
      obtain ⟨n, hn⟩ := regRun_lim hc hW e
      simp only at x ⊢
      cases e2 : drawRun cW ops p [p.h] [] with
      | none => rw [e2] at x; cases x
      | some q =>
        rw [e2] at x
        obtain ⟨m, hm⟩ := drawRun_lim hc hW e2
        refine ⟨max n m, ?_⟩
        rw [regRun_mono (hc n _ (Nat.le_max_left _ _)) hn]
        simp only
        rw [drawRun_mono (hc m _ (Nat.le_max_right _ _)) hm]
        exact x
  | .seq a b, st, r, x => by
    simp only [RC.run, RC.runW] at x ⊢
    cases e : a.runW cW st with
    | none => rw [e] at x; cases x
    | some p =>
      rw [e] at x
      obtain ⟨n, hn⟩ := run_lim e
      obtain ⟨e1, st1⟩ := p
      cases e1 with
      | nrm =>
        obtain ⟨m, hm⟩ := run_lim x
        refine ⟨max n m, ?_⟩
        rw [run_mono (hc n _ (Nat.le_max_left n m)) (Nat.le_max_left _ _) hn]
        exact run_mono (hc m _ (Nat.le_max_right _ _)) (Nat.le_max_right _ _) hm
      | ex i => exact ⟨n, by rw [hn]; exact x⟩
      | ret => exact ⟨n, by rw [hn]; exact x⟩
  | .cond d a b, st, r, x => by
    simp only [RC.run, RC.runW] at x ⊢
    split at x
    · rename_i t ht
      cases t
      · obtain ⟨n, hn⟩ := run_lim (b := b) x
        exact ⟨n, by rw [ht]; exact hn⟩
      · obtain ⟨n, hn⟩ := run_lim (b := a) x
        exact ⟨n, by rw [ht]; exact hn⟩
    · cases x
  | .block id b, st, r, x => by
    simp only [RC.run, RC.runW] at x ⊢
    cases e : b.runW cW st with
    | none => rw [e] at x; cases x
    | some p => rw [e] at x; obtain ⟨n, hn⟩ := run_lim e; exact ⟨n, by rw [hn]; exact x⟩
  | .loop b, st, r, x => by
    simp only [RC.run, RC.runW] at x ⊢
    obtain ⟨k, hk⟩ := loopW_iff.1 x
    clear x
    induction k generalizing st with
    | zero => simp [loopN] at hk
    | succ k ih =>
      simp only [loopN] at hk
      cases e : b.runW cW st with
      | none => rw [e] at hk; cases hk
      | some p =>
        rw [e] at hk
        obtain ⟨n, hn⟩ := run_lim e
        obtain ⟨e1, st1⟩ := p
        cases e1 with
        | nrm =>
          obtain ⟨m, hm⟩ := ih st1 hk
          refine ⟨max n m + 1, ?_⟩
          simp only [loopN]
          rw [run_mono (hc n (max n m + 1) (by omega)) (by omega : n ≤ max n m + 1) hn]
          simp only
          exact loopN_mono (fun st r h => run_mono (hc m (max n m + 1) (by omega)) (by omega : m ≤ max n m + 1) h) (by omega : m ≤ max n m) hm
        | ex i =>
          refine ⟨n + 1, ?_⟩
          simp only [loopN]
          rw [run_mono (hc n (n + 1) (by omega)) (by omega : n ≤ n + 1) hn]
          exact hk
        | ret =>
          refine ⟨n + 1, ?_⟩
          simp only [loopN]
          rw [run_mono (hc n (n + 1) (by omega)) (by omega : n ≤ n + 1) hn]
          exact hk
  | .exit id, _, _, x => ⟨0, x⟩
  | .ret, _, _, x => ⟨0, x⟩
theorem body_lim {f : RFn} {args : List D} {h : Hp} {r : List D × Hp} (x : bodyW cW f args h = some r) : ∃ n, bodyRun (c n) n f args h = some r := by
  unfold bodyW at x
  cases e : f.body.runW cW { s := args ++ List.replicate (f.ntmps - args.length) und, h } with
  | none => rw [e] at x; cases x
  | some p =>
    rw [e] at x
    obtain ⟨n, hn⟩ := run_lim hc hW e
    exact ⟨n, by unfold bodyRun; rw [hn]; exact x⟩
end

section
variable {F : FuncId → Option RFn} {R : Prim}
/-- A call of a function, out of what its code gives. -/
theorem axW_of {g : FuncId} {args : List D} {h : Hp} {r : D × Hp} (x : fnStep F R (axW F R) bodyW g args h = some r) : axW F R g args h = some r := by
  have hc : ∀ n m, n ≤ m → CLe (axFn F R n) (axFn F R m) := fun n m h => axFn_mono F R h
  have hW : ∀ f args h r, axW F R f args h = some r → ∃ n, axFn F R n f args h = some r := fun f args h r k => (axW_iff F R).1 k
  rw [axW_iff]
  unfold fnStep at x
  cases e : F g with
  | none => rw [e] at x; exact ⟨1, by rw [axFn_succ]; unfold fnStep; rw [e]; exact x⟩
  | some f =>
    rw [e] at x
    simp only at x
    cases em : f.mode with
    | eff =>
      rw [em] at x
      simp only at x
      cases e2 : bodyW (axW F R) f args h with
      | none => rw [e2] at x; cases x
      | some p =>
        rw [e2] at x
        obtain ⟨n, hn⟩ := body_lim hc hW e2
        exact ⟨n + 1, by rw [axFn_succ]; unfold fnStep; rw [e]; simp only; rw [em]; simp only; rw [hn]; exact x⟩
    | pure scal own =>
      rw [em] at x
      simp only at x
      cases e1 : optL (tell h) args with
      | none => rw [e1] at x; cases x
      | some args' =>
        rw [e1] at x
        simp only at x
        cases e2 : bodyW (axW F R) f args' [] with
        | none => rw [e2] at x; cases x
        | some p =>
          rw [e2] at x
          obtain ⟨n, hn⟩ := body_lim hc hW e2
          exact ⟨n + 1, by rw [axFn_succ]; unfold fnStep; rw [e]; simp only; rw [em]; simp only; rw [e1]; simp only; rw [hn]; exact x⟩
end
end Go.Rex
