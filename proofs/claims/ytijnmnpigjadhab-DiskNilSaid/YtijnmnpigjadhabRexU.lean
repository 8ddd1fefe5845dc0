import Derived.Test.YtijnmnpigjadhabRexT
/- Rex, part U: every operation but calls. -/
set_option linter.unusedVariables false
set_option linter.unusedSimpArgs false
namespace Go.Rex
open Go.RowKit Go.Lib
section
variable {P : Program} {g : Gh} {w : World} {h h' : Hp} {s : List D} {a : Act} {call : CallF} {o : Oper} {d : D} {m : Bool} {ro : RO}

theorem optL_two {x y : Operand} {l : List Opd} {b c : Opd} (h : optL digOpd [x, y] = some [b, c]) : digOpd x = some b ∧ digOpd y = some c := by
  simp only [optL] at h
  split at h
  · rename_i b' r hb hr
    injection h with h; injection h with h1 h2; subst h1 h2
    split at hr
    · rename_i c' r' hc hr'
      injection hr with hr; injection hr with h1 h2; subst h1
      exact ⟨hb, hc⟩
    · cases hr
  · cases h
theorem optL_one {x : Operand} {b : Opd} (h : optL digOpd [x] = some [b]) : digOpd x = some b := by
  simp only [optL] at h
  split at h
  · rename_i b' r hb hr
    injection h with h; injection h with h1 h2; subst h1
    exact hb
  · cases h
theorem optL_len {α β : Type} {f : α → Option β} : ∀ {l : List α} {r : List β}, optL f l = some r → r.length = l.length
  | [], r, h => by simp only [optL, Option.some.injEq] at h; subst h; rfl
  | a :: l, r, h => by
    simp only [optL] at h
    split at h
    · rename_i b r' hb hr
      injection h with h; subst h
      simp [optL_len hr]
    · cases h
theorem two_args {l : List Operand} {b c : Opd} (h : optL digOpd l = some [b, c]) : ∃ x y, l = [x, y] ∧ digOpd x = some b ∧ digOpd y = some c := by
  have hl := optL_len h
  match l, hl with
  | [x, y], _ => exact ⟨x, y, rfl, optL_two (l := []) h⟩
theorem one_arg {l : List Operand} {b : Opd} (h : optL digOpd l = some [b]) : ∃ x, l = [x] ∧ digOpd x = some b := by
  have hl := optL_len h
  match l, hl with
  | [x], _ => exact ⟨x, rfl, optL_one h⟩

theorem op_builtin (q : Hq g w h) (hs : SlotsOk g w s a) {c : Call} {b : Builtin} {xs : List Opd} (ho : o.op = .call c) (hc : c.callee = .builtin b) (hx : optL digOpd c.args.toList = some xs) (hd : digCall P b c.argTypes.toList xs = some ro) (hr : ro.run call s h = some (d, h')) : OpOut P g w h a o d h' := by
  unfold digCall at hd
  split at hd
  · rename_i t x hts
    obtain ⟨x', ha, hx'⟩ := one_arg hx
    split at hd <;> (try contradiction) <;> injection hd with hd <;> subst hd
    · rename_i hu; exact op_len q hs ho hc ha hts hx' (b := true) (by simpa using hu) hr
    · rename_i e hu; exact op_len q hs ho hc ha hts hx' (b := false) (by simpa using ⟨e, hu⟩) hr
  · rename_i t x hts
    obtain ⟨x', ha, hx'⟩ := one_arg hx
    split at hd <;> (try contradiction) <;> injection hd with hd <;> subst hd
    rename_i e hu
    exact op_cap q hs ho hc ha hts hx' hu hr
  · rename_i t u x y hts
    obtain ⟨x', y', ha, hx', hy'⟩ := two_args hx
    split at hd <;> (try contradiction)
    · rename_i e e' hu hu'
      split at hd <;> (try contradiction)
      rename_i es b z hes hb hz
      split at hd <;> (try contradiction)
      rename_i hpos
      injection hd with hd; subst hd
      exact op_app q hs ho hc ha hts hx' hy' hu hu' hes hb hz hpos hr
    · rename_i e hu hu'
      split at hd <;> (try contradiction)
      rename_i b z hes hb hz
      split at hd <;> (try contradiction)
      rename_i hpos
      injection hd with hd; subst hd
      exact op_appS q hs ho hc ha hts hx' hy' hu hu' hes hb hz hpos hr
    · rename_i e k hu hu'
      split at hd <;> (try contradiction)
      rename_i es b z hes hb hz
      split at hd <;> (try contradiction)
      rename_i hpos
      injection hd with hd; subst hd
      exact op_appZ q hs ho hc ha hts hx' hy' hu hu' hes hb hz hpos hr
  · rename_i t u x y hts
    obtain ⟨x', y', ha, hx', hy'⟩ := two_args hx
    split at hd <;> (try contradiction)
    rename_i e hu
    split at hd <;> (try contradiction)
    rename_i es hes
    split at hd <;> (try contradiction)
    rename_i hpos
    injection hd with hd; subst hd
    exact op_cpy q hs ho hc ha hts hx' hy' hu hes hpos hr
  · rename_i t x hts
    obtain ⟨x', ha, hx'⟩ := one_arg hx
    split at hd <;> (try contradiction)
    rename_i e hu
    split at hd <;> (try contradiction)
    rename_i es z hes hz
    split at hd <;> (try contradiction)
    rename_i hpos
    injection hd with hd; subst hd
    exact op_clr q hs ho hc ha hts hx' hu hes hz hpos hr
  · injection hd with hd; subst hd
    exact op_mm q hs false ho hc hx hr
  · injection hd with hd; subst hd
    exact op_mm q hs true ho hc hx hr
  · cases hd

/-- Every operation but a call. -/
theorem op_sound (q : Hq g w h) (hs : SlotsOk g w s a) (hd : digOp P m o.op = some ro) (hnc : ∀ f args, ro ≠ .call f args) (hr : ro.run call s h = some (d, h')) : OpOut P g w h a o d h' := by
  cases ho : o.op with
  | move x =>
    rw [ho] at hd
    simp only [digOp, Option.map_eq_some_iff] at hd
    obtain ⟨y, hy, rfl⟩ := hd
    simp only [RO.run, Option.some.injEq, Prod.mk.injEq] at hr
    obtain ⟨rfl, rfl⟩ := hr
    exact op_mv q hs hy (.inl ho)
  | assign x =>
    rw [ho] at hd
    simp only [digOp, Option.map_eq_some_iff] at hd
    obtain ⟨y, hy, rfl⟩ := hd
    simp only [RO.run, Option.some.injEq, Prod.mk.injEq] at hr
    obtain ⟨rfl, rfl⟩ := hr
    exact op_mv q hs hy (.inr ho)
  | pick c x y =>
    rw [ho] at hd
    simp only [digOp] at hd
    split at hd <;> (try contradiction)
    rename_i c' x' y' hc hx hy
    injection hd with hd; subst hd
    exact op_pick q hs hc hx hy ho hr
  | alloc t => exact op_alloc q ho (ho ▸ hd) hr
  | box t x => exact op_box q hs ho (ho ▸ hd) hr
  | build t ps => exact op_build q hs ho (ho ▸ hd) hr
  | buildSlice t n ps => exact op_bsl q hs ho (ho ▸ hd) hr
  | load t x => exact op_ld q hs ho (ho ▸ hd) hr
  | store t x y => exact op_st q hs ho (ho ▸ hd) hr
  | nilCheck x => exact op_nck q hs ho (ho ▸ hd) hr
  | binOp op t x y t' =>
    rw [ho] at hd
    simp only [digOp] at hd
    split at hd <;> (try contradiction)
    · rename_i k x' y' hu hx hy
      injection hd with hd; subst hd
      exact op_bin q hs ho hx hy hr
    · rename_i x' y' hu hx hy
      injection hd with hd; subst hd
      exact op_bin q hs ho hx hy hr
    · rename_i u x' y' hni hns hu hx hy
      split at hd <;> (try contradiction)
      rename_i hg
      have hg : P.eqGuardType P.depth t = false := by simpa using hg
      have n1 : ∀ k, P.underlying t ≠ some (.int k) := fun k e => by rw [hu] at e; injection e with e; exact hni k e
      have n2 : P.underlying t ≠ some .string := fun e => by rw [hu] at e; injection e with e; exact hns e
      split at hd <;> (try contradiction)
      · rename_i e he
        injection hd with hd; subst hd
        exact op_eq q hs ho rfl hx hy he n1 n2 hg hr
      · rename_i e he
        injection hd with hd; subst hd
        exact op_eq q hs ho rfl hx hy he n1 n2 hg hr
  | unOp op t x =>
    rw [ho] at hd
    simp only [digOp, Option.map_eq_some_iff] at hd
    obtain ⟨y, hy, rfl⟩ := hd
    exact op_un q hs ho hy hr
  | convert t u x =>
    rw [ho] at hd
    simp only [digOp] at hd
    split at hd <;> (try contradiction)
    · rename_i j k y ht hu hx
      injection hd with hd; subst hd
      exact op_cvi q hs ho ht hu hx hr
    · rename_i y ht hu hx
      injection hd with hd; subst hd
      simp only [RO.run] at hr
      split at hr
      · rename_i b hb
        simp only [Option.some.injEq, Prod.mk.injEq] at hr
        obtain ⟨rfl, rfl⟩ := hr
        have := op_cvs q hs ho ht hu hx ⟨b, hb⟩
        rwa [hb] at this
      · cases hr
    · rename_i e y ht hu hx
      split at hd <;> (try contradiction)
      rename_i he
      injection hd with hd; subst hd
      exact op_b2s q hs ho ht hu he hx hr
    · rename_i e y ht hu hx
      split at hd <;> (try contradiction)
      rename_i he
      injection hd with hd; subst hd
      exact op_s2b q hs ho ht hu he hx hr
  | makeFunc fn first caps => exact op_mkf q hs ho (ho ▸ hd) hr
  | makeSlice t l c =>
    rw [ho] at hd
    simp only [digOp] at hd
    split at hd <;> (try contradiction)
    rename_i e hu
    split at hd <;> (try contradiction)
    rename_i es b z l' c' hes hb hz hl hc
    split at hd <;> (try contradiction)
    rename_i hpos
    injection hd with hd; subst hd
    exact op_msl q hs ho hu hes hb hz hl hc hpos hr
  | slice t x lo hi mx =>
    rw [ho] at hd
    simp only [digOp] at hd
    split at hd <;> (try contradiction)
    · rename_i x' lo' hi' hu hx hlo hhi hmx
      injection hd with hd; subst hd
      have : mx = none := by
        cases mx with
        | none => rfl
        | some y => simp only [digOpt, Option.map_eq_some_iff] at hmx; obtain ⟨_, _, h⟩ := hmx; cases h
      subst this
      exact op_sls q hs ho hu hx hlo hhi hr
    · rename_i e x' lo' hi' mx' hu hx hlo hhi hmx
      split at hd <;> (try contradiction)
      rename_i es hes
      split at hd <;> (try contradiction)
      rename_i hpos
      injection hd with hd; subst hd
      exact op_slc q hs ho hu hes hx hlo hhi hmx hpos.2 hr
    · rename_i n e x' lo' hi' hu hx hlo hhi hmx
      have : mx = none := by
        cases mx with
        | none => rfl
        | some y => simp only [digOpt, Option.map_eq_some_iff] at hmx; obtain ⟨_, _, h⟩ := hmx; cases h
      subst this
      split at hd <;> (try contradiction)
      rename_i es hes
      split at hd <;> (try contradiction)
      rename_i hpos
      injection hd with hd; subst hd
      exact op_sla q hs ho (.inl hu) hes hx hlo hhi hr
    · rename_i p x' lo' hi' hu hx hlo hhi hmx
      have : mx = none := by
        cases mx with
        | none => rfl
        | some y => simp only [digOpt, Option.map_eq_some_iff] at hmx; obtain ⟨_, _, h⟩ := hmx; cases h
      subst this
      split at hd <;> (try contradiction)
      rename_i n e hu2
      split at hd <;> (try contradiction)
      rename_i es hes
      split at hd <;> (try contradiction)
      rename_i hpos
      injection hd with hd; subst hd
      exact op_sla q hs ho (.inr ⟨p, hu, hu2⟩) hes hx hlo hhi hr
  | fieldAddr t x i => exact op_fa q hs ho (ho ▸ hd) hr
  | field t x i => exact op_fld q hs ho (ho ▸ hd) hr
  | indexAddr t x i =>
    rw [ho] at hd
    simp only [digOp] at hd
    split at hd <;> (try contradiction)
    · rename_i e x' i' hu hx hi
      split at hd <;> (try contradiction)
      rename_i es hes
      split at hd <;> (try contradiction)
      injection hd with hd; subst hd
      exact op_ia q hs ho hu hes hx hi hr
    · rename_i n e x' i' hu hx hi
      split at hd <;> (try contradiction)
      rename_i es hes
      split at hd <;> (try contradiction)
      injection hd with hd; subst hd
      exact op_iaA q hs ho hu hes hx hi hr
  | index t x i =>
    rw [ho] at hd
    simp only [digOp] at hd
    split at hd <;> (try contradiction)
    rename_i x' i' hu hx hi
    injection hd with hd; subst hd
    exact op_ixS q hs ho hu hx hi hr
  | extract x i => exact op_ext q hs ho (ho ▸ hd) hr
  | call c =>
    rw [ho] at hd
    simp only [digOp] at hd
    split at hd <;> (try contradiction)
    · rename_i b hc
      split at hd <;> (try contradiction)
      rename_i xs hx
      exact op_builtin q hs ho hc hx hd hr
    · split at hd <;> (try contradiction)
      injection hd with hd; subst hd
      exact absurd rfl (hnc _ _)
  | _ => rw [ho] at hd; simp [digOp] at hd
end
end Go.Rex
