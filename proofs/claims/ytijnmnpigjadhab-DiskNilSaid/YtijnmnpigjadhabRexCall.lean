import Derived.Test.YtijnmnpigjadhabRexOp
/- Rex, calls out of bodies. -/
set_option linter.unusedVariables false
namespace Go.Rex
variable {F : FuncId → Option RFn} {R : Prim} {f : FuncId} {a : AFn} {args l : List D} {h h' : Hp}
@[go_sem] theorem cx_call (call : CallF) : (cxOf call).call = call := nrfl rfl
theorem tell_flat {d : D} (hd : d.flat = true) : tell h d = some d := by simp [tell, hd]
theorem tellL_flat : ∀ {l : List D}, flatL l = true → optL (tell h) l = some l
  | [], _ => rfl
  | d :: l, hl => by
    simp only [flatL, Bool.and_eq_true] at hl
    simp only [optL, tell_flat hl.1, tellL_flat hl.2]
/-- A call that shares the objects. -/
theorem call_eff (hF : F f = some a.fn) (hok : a.ok = true) (hm : a.mode = .eff) (hb : bodyA (cxOf (axW F R)) a args h = some (l, h')) : axW F R f args h = some (tupOf l, h') := by
  apply axW_of
  unfold fnStep
  rw [hF]
  have : a.fn.mode = .eff := hm
  simp only [this]
  rw [bodyA_eq _ _ _ _ hok, hb]
/-- A call whose results lead nowhere. -/
theorem call_scal {own : Bool} (hF : F f = some a.fn) (hok : a.ok = true) (hm : a.mode = .pure true own) (hfl : flatL args = true) (hb : ∃ h', bodyA (cxOf (axW F R)) a args [] = some (l, h')) (hl : isLitL l = true) : axW F R f args h = some (tupOf l, h) := by
  obtain ⟨h', hb⟩ := hb
  apply axW_of
  unfold fnStep
  rw [hF]
  have : a.fn.mode = .pure true own := hm
  simp only [this]
  rw [tellL_flat hfl]
  simp only
  rw [bodyA_eq _ _ _ _ hok, hb]
  simp [hl]
/-- The same, of arguments that lead to objects. -/
theorem call_scal_tell {own : Bool} {args' : List D} (hF : F f = some a.fn) (hok : a.ok = true) (hm : a.mode = .pure true own) (ht : optL (tell h) args = some args') (hb : ∃ h', bodyA (cxOf (axW F R)) a args' [] = some (l, h')) (hl : isLitL l = true) : axW F R f args h = some (tupOf l, h) := by
  obtain ⟨h', hb⟩ := hb
  apply axW_of
  unfold fnStep
  rw [hF]
  have : a.fn.mode = .pure true own := hm
  simp only [this]
  rw [ht]
  simp only
  rw [bodyA_eq _ _ _ _ hok, hb]
  simp [hl]
/-- A call that has objects of its own. -/
theorem call_pure {own : Bool} {r : D × Hp} (hF : F f = some a.fn) (hok : a.ok = true) (hm : a.mode = .pure false own) (hfl : flatL args = true) (hb : bodyA (cxOf (axW F R)) a args [] = some (l, h')) (hr : handBack own h h' l = some r) : axW F R f args h = some r := by
  apply axW_of
  unfold fnStep
  rw [hF]
  have : a.fn.mode = .pure false own := hm
  simp only [this]
  rw [tellL_flat hfl]
  simp only
  rw [bodyA_eq _ _ _ _ hok, hb]
  simp [hfl, hr]
theorem call_pure_tell {own : Bool} {args' : List D} {r : D × Hp} (hF : F f = some a.fn) (hok : a.ok = true) (hm : a.mode = .pure false own) (hfl : flatL args = false) (ht : optL (tell h) args = some args') (hb : bodyA (cxOf (axW F R)) a args' [] = some (l, h')) (hr : handBack own (frzIds h (reach h (fzDepth + 1) args)) h' l = some r) : axW F R f args h = some r := by
  apply axW_of
  unfold fnStep
  rw [hF]
  have : a.fn.mode = .pure false own := hm
  simp only [this]
  rw [ht]
  simp only
  rw [bodyA_eq _ _ _ _ hok, hb]
  simp [hfl, hr]
theorem call_prim {r : D × Hp} (hF : F f = none) (hr : R f args h = some r) : axW F R f args h = some r := by
  apply axW_of
  unfold fnStep
  rw [hF]; exact hr
/-- A closed run: by fuel. -/
theorem axW_fuel (n : Nat) {r : D × Hp} (hr : axFn F R n f args h = some r) : axW F R f args h = some r := (axW_iff F R).2 ⟨n, hr⟩
/-! ### Results handed back -/
/-- Results that lead to nothing of the callee's. -/
theorem back_flat {l : List D} (hl : flatL l = true) : handBack false h h' l = some (tupOf l, h) := by
  unfold handBack
  simp only
  rw [tellL_flat hl]
@[go_sem] theorem tupOf_one {d : D} : tupOf [d] = d := nrfl rfl
/-! ### Records -/
variable {szs : List Nat} {fs : List D} {i : Nat} {x : D}
theorem o_fapv (hx : fs[i]? = some x) : op h (.fa szs i (.c (.pv (.agg szs fs)))) = some (.pv x, h) := by simp [op, RO.run, Opd.ev, hx]
theorem o_faptr {id ver off j : Nat} {p : List Nat} (hi : i < szs.length) : op h (.fa szs i (.c (.ptr id ver off (j :: p)))) = some (.ptr id ver (off + sumN (szs.take i)) ((j :: p) ++ [i]), h) := by simp [op, RO.run, Opd.ev, hi]
theorem o_fld {ag : Bool} (hx : fs[i]? = some x) (hf : x.fits ag (szs.getD i 0) = true) : op h (.fld ag szs i (.c (.agg szs fs))) = some (x, h) := by
  simp only [op, RO.run, Opd.ev, if_true, hx]; rw [if_pos hf]
@[go_sem] theorem o_build {z : List D} {parts : List (Nat × Opd)} : op h (.build szs z parts) = (fillD szs [] z parts).bind fun fs => some (.agg szs fs, h) := by
  simp only [op, RO.run]; cases fillD szs [] z parts <;> rfl
@[go_sem] theorem fill_nil {z : List D} : fillD szs [] z [] = some z := nrfl rfl
@[go_sem] theorem fill_cons {z : List D} {d : D} {r : List (Nat × Opd)} : fillD szs [] z ((i, .c d) :: r) = if szs[i]? = some d.sz ∧ d.isTup = false then fillD szs [] (z.set i d) r else none := nrfl rfl
@[go_sem] theorem o_bslf {es : Nat} {z : List D} {parts : List (Nat × Opd)} : op h (.bsl false es z parts) = (fillD (List.replicate z.length es) [] z parts).bind fun xs => some (.sl es xs true, h) := by
  simp only [op, RO.run]; cases fillD (List.replicate z.length es) [] z parts <;> rfl
@[go_sem] theorem o_bslt {es : Nat} {z : List D} {parts : List (Nat × Opd)} : op h (.bsl true es z parts) = (fillD (List.replicate z.length es) [] z parts).bind fun xs => some (.mo es h.length 0 0 xs.length false, newOb h es xs) := by
  simp only [op, RO.run]; cases fillD (List.replicate z.length es) [] z parts <;> rfl
@[go_sem] theorem tup_agg : (D.agg szs fs).isTup = false := nrfl rfl
@[go_sem] theorem sz_agg : (D.agg szs fs).sz = sumN szs := nrfl rfl
@[go_sem] theorem fits_agg {s : Nat} : (D.agg szs fs).fits true s = (sumN szs == s) := nrfl rfl
@[go_sem] theorem tup_nilD : nilD.isTup = false := nrfl rfl
@[go_sem] theorem sz_nilD : nilD.sz = 1 := nrfl rfl
@[go_sem] theorem fits_nilD : nilD.fits false 1 = true := nrfl rfl
@[go_sem] theorem sumN_nil : sumN [] = 0 := nrfl rfl
@[go_sem] theorem sumN_cons {n : Nat} {l : List Nat} : sumN (n :: l) = n + sumN l := nrfl rfl
@[go_sem] theorem S_nil : D.lit (.string ⟨#[]⟩) = S [] := nrfl rfl
end Go.Rex
