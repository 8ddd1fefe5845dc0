import Derived.Test.YtijnmnpigjadhabRexM
/- Rex, part N: cuts, places of elements, and the rest of the arithmetic. -/
set_option linter.unusedVariables false
set_option linter.unusedSimpArgs false
namespace Go.Rex
open Go.RowKit
section
variable {P : Program} {g : Gh} {w : World} {h h' : Hp} {s : List D} {a : Act} {call : CallF} {o : Oper} {d : D} {m : Bool} {ro : RO}

theorem unary_one {op : UnOp} {x v : Value} (h : asPure (Op.unary op x) = some v) : v.oneCell' = true := by
  unfold Op.unary at h
  split at h <;> simp [Op.intArith, Op.intBits, asPure, pure, unsupported, stuck] at h <;> subst h <;> rfl
theorem op_un (q : Hq g w h) (hs : SlotsOk g w s a) {op : UnOp} {t : TypeId} {x : Operand} {y : Opd} (ho : o.op = .unOp op t x) (hx : digOpd x = some y) (hr : RO.run call s h (.un op y) = some (d, h')) : OpOut P g w h a o d h' := by
  have he : execOp a.eval o = (do pure (.value (← Op.unary op (a.eval x)))) := by unfold execOp; rw [ho]
  have h1 := opd_sound hs hx
  simp only [RO.run] at hr
  split at hr
  · rename_i k i hx'
    rw [hx'] at h1
    have h1 := V_int h1
    split at hr
    · rename_i v hv
      simp only [Option.some.injEq, Prod.mk.injEq] at hr
      obtain ⟨rfl, rfl⟩ := hr
      exact OpOut.of he (Out.same q (v := v) (by rw [h1]; exact run_asPure hv) (V.lit (unary_one hv)))
    · cases hr
  · rename_i b hx'
    rw [hx'] at h1
    have h1 := V_bool h1
    split at hr
    · rename_i v hv
      simp only [Option.some.injEq, Prod.mk.injEq] at hr
      obtain ⟨rfl, rfl⟩ := hr
      exact OpOut.of he (Out.same q (v := v) (by rw [h1]; exact run_asPure hv) (V.lit (unary_one hv)))
    · cases hr
  · cases hr

theorem sliceBound_run {x : D} {n y : Nat} {v : Value} {code : BoundsCode} (h : natOf x = some n) (hv : V g w x v) (hn : n ≤ y) : (Instr.sliceBound v y code).run P w = .ok n w := by
  obtain ⟨k, rfl⟩ := natOf_sound h hv
  unfold Instr.sliceBound
  simp [asIntOf, show (n : Int) ≤ y by omega]
/-- A bound that may be lacking. -/
def BOk (g : Gh) (w : World) (s : List D) (a : Act) (x : Option Operand) (y : Option Opd) : Prop :=
  match x, y with
  | none, none => True
  | some x, some y => V g w (y.ev s) (a.eval x)
  | _, _ => False
theorem digOpt_sound (hs : SlotsOk g w s a) {x : Option Operand} {y : Option Opd} (h : digOpt x = some y) : BOk g w s a x y := by
  cases x with
  | none => simp only [digOpt, Option.some.injEq] at h; subst h; trivial
  | some x =>
    simp only [digOpt, Option.map_eq_some_iff] at h
    obtain ⟨z, hz, rfl⟩ := h
    exact opd_sound hs hz
/-- The bounds of a cut. -/
theorem sliceBounds_run {isS : Bool} {len cap l k mm : Nat} {lo hi mx : Option Operand} {lo' hi' mx' : Option Opd} (h1 : BOk g w s a lo lo') (h2 : BOk g w s a hi hi') (h3 : BOk g w s a mx mx')
    (hl : natOr 0 s lo' = some l) (hk : natOr len s hi' = some k) (hm : natOr cap s mx' = some mm) (hmx : mx'.isSome = true → hi'.isSome = true) (hlk : l ≤ k) (hkm : k ≤ mm) (hmc : mm ≤ cap) :
    (Instr.sliceBounds isS len cap (lo.map a.eval) (hi.map a.eval) (mx.map a.eval)).run P w = .ok (l, k, mm) w := by
  unfold Instr.sliceBounds
  have fin : ∀ code : BoundsCode, (match lo.map a.eval with
      | some v => (do let l ← Instr.sliceBound v k code; pure (l, k, mm) : Sem (Nat × Nat × Nat))
      | none => do let l ← pure 0; pure (l, k, mm)).run P w = .ok (l, k, mm) w := by
    intro code
    cases lo <;> cases lo' <;> simp only [BOk] at h1 <;> try exact h1.elim
    · simp only [natOr, Option.some.injEq] at hl; subst hl; rfl
    · simp only [Option.map_some, Sem.run_bind, sliceBound_run hl h1 hlk, Result.andThen_ok, Sem.run_pure]
  cases mx <;> cases mx' <;> simp only [BOk] at h3 <;> try exact h3.elim
  · simp only [natOr, Option.some.injEq] at hm; subst hm
    cases hi <;> cases hi' <;> simp only [BOk] at h2 <;> try exact h2.elim
    · simp only [natOr, Option.some.injEq] at hk; subst hk
      simp only [Option.map_none, Sem.run_bind, Sem.run_pure, Result.andThen_ok]
      exact fin .sliceB
    · simp only [Option.map_none, Option.map_some, Sem.run_bind, Sem.run_pure, Result.andThen_ok, sliceBound_run hk h2 hkm]
      exact fin .sliceB
  · have hh := hmx rfl
    cases hi <;> cases hi' <;> simp only [BOk] at h2 <;> try exact h2.elim
    · cases hh
    · simp only [Option.map_some, Sem.run_bind, Sem.run_pure, Result.andThen_ok, sliceBound_run hm h3 hmc, sliceBound_run hk h2 hkm]
      exact fin .slice3C

theorem op_sls (q : Hq g w h) (hs : SlotsOk g w s a) {t : TypeId} {x : Operand} {lo hi : Option Operand} {x' : Opd} {lo' hi' : Option Opd} (ho : o.op = .slice t x lo hi none) (hu : P.underlying t = some .string)
    (hx : digOpd x = some x') (hlo : digOpt lo = some lo') (hhi : digOpt hi = some hi') (hr : RO.run call s h (.sls x' lo' hi') = some (d, h')) : OpOut P g w h a o d h' := by
  have he : execOp a.eval o = (do pure (.value (← Instr.sliceAt t (a.eval x) (lo.map a.eval) (hi.map a.eval) none))) := by unfold execOp; rw [ho]; rfl
  have h1 := opd_sound hs hx
  simp only [RO.run] at hr
  split at hr
  · rename_i b hb
    rw [hb] at h1
    have h1 := V_str h1
    split at hr
    · rename_i l k hl hk
      split at hr
      · rename_i e hse
        simp only [Option.some.injEq, Prod.mk.injEq] at hr
        obtain ⟨rfl, rfl⟩ := hr
        unfold strSlice at hse
        split at hse
        · rename_i hc
          injection hse with hse; subst hse
          have hb := sliceBounds_run (P := P) (isS := false) (len := b.size) (cap := b.size) (mx := none) (mx' := none) (mm := b.size) (digOpt_sound hs hlo) (digOpt_sound hs hhi) trivial hl hk rfl (fun z => by cases z) hc.1 hc.2 (Nat.le_refl _)
          simp only [Option.map_none] at hb
          refine OpOut.of he (Out.same q (v := .string (b.extract l k)) ?_ (V.lit rfl))
          simp only [Instr.sliceAt, Sem.run_bind, run_underlying hu, Result.andThen_ok, Instr.slice, h1, Option.isSome_none, Bool.false_eq_true, if_false, hb, Sem.run_pure]
        · cases hse
      · cases hr
    · cases hr
  · cases hr

theorem RowI.drop {b es : Nat} : ∀ (k : Nat) {xs : List D} {o : Nat}, RowI g w b es o xs → RowI g w b es (o + k * es) (xs.drop k)
  | 0, xs, o, h => by simpa using h
  | k + 1, [], o, h => trivial
  | k + 1, d :: ds, o, ⟨_, h⟩ => by
    have := RowI.drop k h
    rw [show o + (k + 1) * es = o + es + k * es by rw [Nat.succ_mul]; omega]
    simpa using this
theorem RowI.take {b es : Nat} : ∀ (k : Nat) {xs : List D} {o : Nat}, RowI g w b es o xs → RowI g w b es o (xs.take k)
  | 0, xs, o, h => by simp [RowI]
  | k + 1, [], o, h => by simpa using h
  | k + 1, d :: ds, o, ⟨h1, h⟩ => ⟨h1, RowI.take k h⟩

theorem nil_V {v : Value} (h : V g w nilD v) : v = .slice none 0 0 := (V_lit.1 h).1

theorem op_slc (q : Hq g w h) (hs : SlotsOk g w s a) {t e : TypeId} {es : Nat} {x : Operand} {lo hi mx : Option Operand} {x' : Opd} {lo' hi' mx' : Option Opd} (ho : o.op = .slice t x lo hi mx) (hu : P.underlying t = some (.slice e)) (hes : szOf P e = some es)
    (hx : digOpd x = some x') (hlo : digOpt lo = some lo') (hhi : digOpt hi = some hi') (hmx : digOpt mx = some mx') (hmh : mx'.isSome = true → hi'.isSome = true) (hr : RO.run call s h (.slc es x' lo' hi' mx') = some (d, h')) : OpOut P g w h a o d h' := by
  have he : execOp a.eval o = (do pure (.value (← Instr.sliceAt t (a.eval x) (lo.map a.eval) (hi.map a.eval) (mx.map a.eval)))) := by unfold execOp; rw [ho]
  have h1 := opd_sound hs hx
  simp only [RO.run] at hr
  split at hr
  · rename_i l hi2 mx2 hl hh hm
    split at hr
    · rename_i r hsd
      simp only [Option.some.injEq, Prod.mk.injEq] at hr
      obtain ⟨rfl, rfl⟩ := hr
      -- the bounds, as numbers
      have nat : ∀ (z : Option Opd) (z2 : Option Nat) (dflt : Nat), optNat s z = some z2 → natOr dflt s z = some (z2.getD dflt) ∧ z2.isSome = z.isSome := by
        intro z z2 dflt hz
        cases z with
        | none => simp only [optNat, Option.some.injEq] at hz; subst hz; exact ⟨rfl, rfl⟩
        | some y =>
          simp only [optNat] at hz
          split at hz
          · rename_i n hn
            injection hz with hz; subst hz
            exact ⟨hn, rfl⟩
          · cases hz
      have main : ∀ A len cap k mm, a.eval x = .slice A len cap → k = hi2.getD len → mm = mx2.getD cap → l ≤ k → k ≤ mm → mm ≤ cap →
          (Instr.sliceAt t (a.eval x) (lo.map a.eval) (hi.map a.eval) (mx.map a.eval)).run P w = .ok (.slice (if mm = l then A else A.map (·.add (l * es))) (k - l) (mm - l)) w := by
        intro A len cap k mm hv hk hmm hlk hkm hmc
        have hb := sliceBounds_run (P := P) (isS := true) (len := len) (cap := cap) (digOpt_sound hs hlo) (digOpt_sound hs hhi) (digOpt_sound hs hmx) hl (k := k) (mm := mm) (hk ▸ (nat _ _ _ hh).1) (hmm ▸ (nat _ _ _ hm).1) hmh hlk hkm hmc
        simp only [Instr.sliceAt, Sem.run_bind, run_underlying hu, Result.andThen_ok, Instr.slice, hv, hb, run_sizeOf hes, Sem.run_pure]
      unfold sliceD at hsd
      split at hsd
      · -- nil
        rename_i hy
        rw [hy] at h1
        have hv := nil_V h1
        split at hsd
        · rename_i hc
          obtain ⟨rfl, hc1, hc2⟩ := hc
          injection hsd with hsd; subst hsd
          rw [hy]
          refine OpOut.of he (Out.same q (main none 0 0 0 0 hv hc1.symm hc2.symm (Nat.le_refl _) (Nat.le_refl _) (Nat.le_refl _)) ?_)
          simpa using (V.lit (g := g) (w := w) (v := .slice none 0 0) rfl)
        · cases hsd
      · -- what never changes
        rename_i e' xs tg hy
        rw [hy] at h1
        simp only [V, V1, Cs] at h1
        obtain ⟨b, off, sp, cap, hv, hcap, htg, hrow, hsp⟩ := h1
        injection hv with hv
        simp only at hsd
        split at hsd
        · rename_i hc
          obtain ⟨hc1, hc2, hc3, hc4⟩ := hc
          injection hsd with hsd; subst hsd
          have hxl : ((xs.take (hi2.getD xs.length)).drop l).length = hi2.getD xs.length - l := by simp; omega
          have hrow' : RowI g w b e' (off + l * e') ((xs.take (hi2.getD xs.length)).drop l) := (hrow.take _).drop _
          have hmm : mx2.getD cap ≤ cap ∧ hi2.getD xs.length ≤ mx2.getD cap := by
            cases mx2 with
            | none => simp only [Option.getD_none] at hc2 hc3 ⊢; omega
            | some mm => simp only [Option.getD_some] at hc2 hc3 ⊢; omega
          refine OpOut.of he (Out.same q (main _ _ _ _ _ hv rfl rfl hc1 hmm.2 hmm.1) ?_)
          simp only [V, V1, Cs]
          have hes' : xs = [] ∨ e' = es := by
            simp only [Bool.or_eq_true, List.isEmpty_iff, beq_iff_eq] at hc4; exact hc4
          have htg' : tgOf mx2 tg (hi2.getD xs.length) xs.length = true → mx2.getD cap - l = ((xs.take (hi2.getD xs.length)).drop l).length := by
            intro z
            rw [hxl]
            unfold tgOf at z
            cases mx2 with
            | none =>
              simp only [Bool.and_eq_true, beq_iff_eq] at z
              simp only [Option.getD_none]
              rw [htg z.1, z.2]
            | some mm => simp only [beq_iff_eq] at z; simp only [Option.getD_some]; omega
          by_cases hml : mx2.getD cap = l
          · have hnil : (xs.take (hi2.getD xs.length)).drop l = [] := List.eq_nil_of_length_eq_zero (by rw [hxl]; omega)
            rw [if_pos hml]
            rw [hnil] at htg' hxl ⊢
            refine ⟨b, off, sp, mx2.getD cap - l, by rw [hxl], by simp, htg', trivial, fun hh => absurd rfl hh⟩
          · rw [if_neg hml]
            by_cases hxs : xs = []
            · have hl0 : l = 0 := by rw [hxs] at hc1 hc2 hc3; simp only [List.length_nil] at hc1 hc2 hc3; omega
              refine ⟨b, off + l * e', sp, mx2.getD cap - l, ?_, by rw [hxl]; omega, htg', hrow', fun hh => absurd (by rw [hxs]; simp) hh⟩
              rw [hxl, hl0]; simp [Addr.add]
            · have hs0 := hsp hxs
              subst hs0
              refine ⟨b, off + l * e', none, mx2.getD cap - l, ?_, by rw [hxl]; omega, htg', hrow', fun _ => rfl⟩
              rw [hxl]
              rcases hes' with rfl | rfl
              · exact absurd rfl hxs
              · simp only [Option.map_some, addr_add]
        · cases hsd
      · -- an object's
        rename_i e' id ver off len tg hy
        rw [hy] at h1
        simp only [V, V1, Cs] at h1
        obtain ⟨i, cap, hi0, hie, hv, hlen, hcap, hcap2⟩ := h1
        injection hv with hv
        simp only at hsd
        generalize htop : (if tg then len else match h[id]? with | some ob => if ver = ob.ver then ob.xs.length - off else len | none => len) = top at hsd
        have htop1 : off + top ≤ i.n ∧ top ≤ cap := by
          cases tg with
          | true => simp only [if_true] at htop hcap2; omega
          | false =>
            simp only [Bool.false_eq_true, if_false] at htop hcap2
            have hbase : off + len ≤ i.n ∧ len ≤ cap := ⟨hlen, hcap⟩
            cases hob : h[id]? with
            | none => rw [hob] at htop; simp only at htop; omega
            | some ob =>
              rw [hob] at htop; simp only at htop
              split at htop
              · rename_i hve
                subst hve
                have k := q.obs id ob i hob hi0
                have := k.n; have := k.cap
                omega
              · omega
        split at hsd
        · rename_i hc
          obtain ⟨hc1, hc2, hc3, hc4⟩ := hc
          have hc4 := beq_iff_eq.1 hc4
          subst hc4
          have hmm : mx2.getD cap ≤ cap ∧ hi2.getD len ≤ mx2.getD cap := by
            cases mx2 with
            | none => simp only [Option.getD_none] at hc2 hc3 ⊢; omega
            | some mm => simp only [Option.getD_some] at hc2 hc3 ⊢; omega
          have hrun := main _ _ _ _ _ hv rfl rfl hc1 hmm.2 hmm.1
          generalize htg' : tgOf mx2 tg (hi2.getD len) len = tg' at hsd
          have hcapt : tg' = true → mx2.getD cap - l = hi2.getD len - l := by
            intro z; subst z
            unfold tgOf at htg'
            cases mx2 with
            | none =>
              simp only [Bool.and_eq_true, beq_iff_eq] at htg'
              obtain ⟨rfl, hz⟩ := htg'
              simp only [if_true] at hcap2
              simp only [Option.getD_none]; omega
            | some mm => simp only [beq_iff_eq] at htg'; simp only [Option.getD_some]; omega
          split at hsd
          · rename_i hz
            injection hsd with hsd; subst hsd
            refine OpOut.of he (Out.same q hrun ?_)
            simp only [V, V1, Cs, List.length_nil]
            have hkl : hi2.getD len - l = 0 := by omega
            rw [hkl]
            by_cases hml : mx2.getD cap = l
            · rw [if_pos hml]; exact ⟨_, _, _, _, rfl, Nat.zero_le _, fun z => by rw [hcapt z, hkl], trivial, fun hh => absurd rfl hh⟩
            · rw [if_neg hml]; simp only [Option.map_some, addr_add]; exact ⟨_, _, _, _, rfl, Nat.zero_le _, fun z => by rw [hcapt z, hkl], trivial, fun hh => absurd rfl hh⟩
          · rename_i hz
            split at hsd
            · rename_i hfl
              injection hsd with hsd; subst hsd
              refine OpOut.of he (Out.same q hrun ?_)
              simp only [V, V1, Cs]
              have hlt : mx2.getD cap = l → l = 0 := by intro e1; omega
              have haddr : (if mx2.getD cap = l then some (⟨i.blk, off * e', none⟩ : Addr) else (some (⟨i.blk, off * e', none⟩ : Addr)).map (·.add (l * e'))) = some ⟨i.blk, (off + l) * e', none⟩ := by
                split
                · rename_i e1
                  rw [hlt e1, Nat.add_zero]
                · simp only [Option.map_some, addr_add]
                  rw [Nat.add_mul]
              rw [haddr]
              refine ⟨i, _, hi0, hie, rfl, ?_, by omega, ?_⟩
              · have : hi2.getD len ≤ top := by omega
                omega
              · cases tg' with
                | true => simp only [if_true]; exact hcapt rfl
                | false =>
                  simp only [Bool.false_eq_true, if_false]
                  simp only [Bool.or_false, Bool.and_eq_true, Option.isNone_iff_eq_none, Bool.not_eq_true'] at hfl
                  obtain ⟨rfl, rfl⟩ := hfl
                  simp only [Bool.false_eq_true, if_false] at hcap2
                  simp only [Option.getD_none]
                  omega
            · cases hsd
        · cases hsd
      · cases hsd
    · cases hr
  · cases hr
end
end Go.Rex
