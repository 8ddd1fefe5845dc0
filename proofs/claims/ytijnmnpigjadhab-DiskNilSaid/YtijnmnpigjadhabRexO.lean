import Derived.Test.YtijnmnpigjadhabRexN
/- Rex, part O: elements' places, arrays, conversions, make. -/
set_option linter.unusedVariables false
set_option linter.unusedSimpArgs false
namespace Go.Rex
open Go.RowKit
section
variable {P : Program} {g : Gh} {w : World} {h h' : Hp} {s : List D} {a : Act} {call : CallF} {o : Oper} {d : D} {m : Bool} {ro : RO}

theorem op_sla (q : Hq g w h) (hs : SlotsOk g w s a) {t e : TypeId} {n es : Nat} {x : Operand} {lo hi : Option Operand} {x' : Opd} {lo' hi' : Option Opd} (ho : o.op = .slice t x lo hi none)
    (hu : P.underlying t = some (.array n e) ∨ ∃ t', P.underlying t = some (.pointer t') ∧ P.underlying t' = some (.array n e)) (hes : szOf P e = some es)
    (hx : digOpd x = some x') (hlo : digOpt lo = some lo') (hhi : digOpt hi = some hi') (hr : RO.run call s h (.sla es n x' lo' hi') = some (d, h')) : OpOut P g w h a o d h' := by
  have he : execOp a.eval o = (do pure (.value (← Instr.sliceAt t (a.eval x) (lo.map a.eval) (hi.map a.eval) none))) := by unfold execOp; rw [ho]; rfl
  have h1 := opd_sound hs hx
  simp only [RO.run] at hr
  split at hr
  · rename_i id ver off l k hy hl hk
    split at hr
    · rename_i ob hob
      split at hr
      · rename_i hc
        obtain ⟨hc1, hc2, rfl, rfl, hlk, hkn, hfix⟩ := hc
        rw [hy] at h1
        simp only [V, V1, Cs] at h1
        obtain ⟨i, hi0, hv, _⟩ := h1
        injection hv with hv
        have ok := q.obs id ob i hob hi0
        have hcap : i.cap = n := by rw [ok.fix hfix, ok.n, hc2]
        have hb := sliceBounds_run (P := P) (isS := false) (len := n) (cap := n) (mx := none) (mx' := none) (mm := n) (digOpt_sound hs hlo) (digOpt_sound hs hhi) trivial hl hk rfl (fun z => by cases z) hlk hkn (Nat.le_refl _)
        simp only [Option.map_none] at hb
        have hrun : (Instr.sliceAt t (a.eval x) (lo.map a.eval) (hi.map a.eval) none).run P w = .ok (.slice (some (if n = l then ⟨i.blk, 0, none⟩ else ⟨i.blk, l * es, none⟩)) (k - l) (n - l)) w := by
          rcases hu with hu | ⟨t', hu, hu'⟩
          · simp only [Instr.sliceAt, Sem.run_bind, run_underlying hu, Result.andThen_ok, Instr.sureAddr, hv, hb, run_sizeOf hes, Sem.run_pure, addr_add, Nat.zero_add]
          · simp only [Instr.sliceAt, Sem.run_bind, run_underlying hu, run_underlying hu', Result.andThen_ok, Instr.slice, asAddr, hv, hb, run_sizeOf hes, Sem.run_pure, addr_add, Nat.zero_add]
        split at hr
        · rename_i hz
          simp only [Option.some.injEq, Prod.mk.injEq] at hr
          obtain ⟨rfl, rfl⟩ := hr
          refine OpOut.of he (Out.same q hrun ?_)
          simp only [V, V1, Cs, List.length_nil]
          rw [show k - l = 0 by omega]
          have ht : (k == n) = true → n - l = 0 := fun z => by have := beq_iff_eq.1 z; omega
          split <;> exact ⟨_, _, _, _, rfl, Nat.zero_le _, ht, trivial, fun hh => absurd rfl hh⟩
        · rename_i hz
          simp only [Option.some.injEq, Prod.mk.injEq] at hr
          obtain ⟨rfl, rfl⟩ := hr
          refine OpOut.of he (Out.same q hrun ?_)
          simp only [V, V1, Cs]
          have haddr : (if n = l then (⟨i.blk, 0, none⟩ : Addr) else ⟨i.blk, l * es, none⟩) = ⟨i.blk, l * es, none⟩ := by
            split
            · rename_i e1
              have : l = 0 := by omega
              subst this; simp
            · rfl
          rw [haddr]
          refine ⟨i, n - l, hi0, by rw [ok.es, hc1], rfl, by rw [ok.n, hc2]; omega, by omega, ?_⟩
          split
          · rename_i e1; have := beq_iff_eq.1 e1; omega
          · rw [hcap]
      · cases hr
    · cases hr
  · cases hr

theorem index_run {t e : TypeId} {es n : Nat} {x : Value} {b o' len cap : Nat} {k : IntKind} (hu : P.underlying t = some (.slice e)) (hes : szOf P e = some es) (hn : n < len) :
    (Instr.indexAt t (.slice (some ⟨b, o', none⟩) len cap) (.int k (n : Int))).run P w = .ok (.pointer (some ⟨b, o' + n * es, none⟩)) w := by
  unfold Instr.indexAt
  simp only [Sem.run_bind, asIntOf, Sem.run_pure, Result.andThen_ok, run_underlying hu]
  rw [if_pos ⟨by omega, by omega⟩]
  simp [run_sizeOf hes, addr_add]
theorem op_ia (q : Hq g w h) (hs : SlotsOk g w s a) {t e : TypeId} {es : Nat} {x i : Operand} {x' i' : Opd} (ho : o.op = .indexAddr t x i) (hu : P.underlying t = some (.slice e)) (hes : szOf P e = some es)
    (hx : digOpd x = some x') (hi : digOpd i = some i') (hr : RO.run call s h (.ia es x' i') = some (d, h')) : OpOut P g w h a o d h' := by
  have he : execOp a.eval o = (do pure (.value (← Instr.indexAt t (a.eval x) (a.eval i)))) := by unfold execOp; rw [ho]
  have h1 := opd_sound hs hx
  have h2 := opd_sound hs hi
  simp only [RO.run] at hr
  split at hr
  · rename_i n e' xs tg hn hy
    obtain ⟨k, hk⟩ := natOf_sound hn h2
    rw [hy] at h1
    simp only [V, V1, Cs] at h1
    obtain ⟨b, off, sp, cap, hv, hcap, htg, hrow, hsp⟩ := h1
    injection hv with hv
    split at hr
    · rename_i hee
      subst hee
      split at hr
      · rename_i y hxn
        simp only [Option.some.injEq, Prod.mk.injEq] at hr
        obtain ⟨rfl, rfl⟩ := hr
        have hnl : n < xs.length := (List.getElem?_eq_some_iff.1 hxn).1
        have hs0 := hsp (by intro hh; rw [hh] at hnl; simp at hnl)
        subst hs0
        refine OpOut.of he (Out.same q (by rw [hv, hk]; exact index_run (x := .nilFunc) hu hes hnl) ?_)
        have key : ∀ (xs : List D) (o n : Nat) (y : D), RowI g w b e' o xs → xs[n]? = some y → ∃ c, Cs g w y c ∧ At w b (o + n * e') c ∧ Im g b (o + n * e') c.length := by
          intro xs
          induction xs with
          | nil => intro o n y _ hy; simp at hy
          | cons z xs ih =>
            intro o n y hr hy
            obtain ⟨⟨c, c1, c2, c3, c4⟩, hr⟩ := hr
            cases n with
            | zero => simp at hy; subst hy; exact ⟨c, c1, by simpa using c3, by rw [c2]; simpa using c4⟩
            | succ n =>
              obtain ⟨c, e1, e2, e3⟩ := ih (o + e') n y hr (by simpa using hy)
              refine ⟨c, e1, ?_, ?_⟩ <;> rw [show o + (n + 1) * e' = o + e' + n * e' by rw [Nat.succ_mul]; omega] <;> assumption
        obtain ⟨c, c1, c2, c3⟩ := key xs off n y hrow hxn
        simp only [V, V1, Cs]
        exact ⟨b, _, c, rfl, c1, c2, c3⟩
      · cases hr
    · cases hr
  · rename_i n e' id ver off ln tg hn hy
    obtain ⟨k, hk⟩ := natOf_sound hn h2
    rw [hy] at h1
    simp only [V, V1, Cs] at h1
    obtain ⟨j, cap, hj, hje, hv, hlen, hcap, hcap2⟩ := h1
    injection hv with hv
    split at hr
    · rename_i hc
      obtain ⟨hee, hlt⟩ := hc
      subst hee
      simp only [Option.some.injEq, Prod.mk.injEq] at hr
      obtain ⟨rfl, rfl⟩ := hr
      refine OpOut.of he (Out.same q (by rw [hv, hk]; exact index_run (x := .nilFunc) hu hes hlt) ?_)
      simp only [V, V1, Cs]
      exact ⟨j, hj, by rw [Nat.add_mul], by omega⟩
    · cases hr
  · cases hr

theorem op_iaA (q : Hq g w h) (hs : SlotsOk g w s a) {t e : TypeId} {es n : Nat} {x i : Operand} {x' i' : Opd} (ho : o.op = .indexAddr t x i) (hu : P.underlying t = some (.array n e)) (hes : szOf P e = some es)
    (hx : digOpd x = some x') (hi : digOpd i = some i') (hr : RO.run call s h (.iaA es n x' i') = some (d, h')) : OpOut P g w h a o d h' := by
  have he : execOp a.eval o = (do pure (.value (← Instr.indexAt t (a.eval x) (a.eval i)))) := by unfold execOp; rw [ho]
  have h1 := opd_sound hs hx
  have h2 := opd_sound hs hi
  have hrun : ∀ b o' (j : Nat) k, j < n → (Instr.indexAt t (.pointer (some ⟨b, o', none⟩)) (.int k (j : Int))).run P w = .ok (.pointer (some ⟨b, o' + j * es, none⟩)) w := by
    intro b o' j k hj
    unfold Instr.indexAt
    simp only [Sem.run_bind, asIntOf, Sem.run_pure, Result.andThen_ok, run_underlying hu, Instr.sureAddr]
    rw [if_pos ⟨by omega, by omega⟩]; simp [run_sizeOf hes, addr_add]
  simp only [RO.run] at hr
  split at hr
  · rename_i j id ver off hj hy
    obtain ⟨k, hk⟩ := natOf_sound hj h2
    rw [hy] at h1
    simp only [V, V1, Cs] at h1
    obtain ⟨c, hc, hv, _⟩ := h1
    injection hv with hv
    split at hr
    · rename_i ob hob
      split at hr
      · rename_i hcnd
        obtain ⟨hlt, rfl, rfl, hxs⟩ := hcnd
        simp only [Option.some.injEq, Prod.mk.injEq] at hr
        obtain ⟨rfl, rfl⟩ := hr
        refine OpOut.of he (Out.same q (by rw [hv, hk]; exact hrun _ _ j k hlt) ?_)
        simp only [V, V1, Cs]
        have ok := q.obs id ob c hob hc
        exact ⟨c, hc, by rw [Nat.zero_add], by rw [ok.n, hxs]; exact hlt⟩
      · cases hr
    · cases hr
  · rename_i j id ver off r p hj hy
    obtain ⟨k, hk⟩ := natOf_sound hj h2
    rw [hy] at h1
    simp only [V, V1, Cs] at h1
    obtain ⟨c, hc, hv, hlt⟩ := h1
    injection hv with hv
    split at hr
    · rename_i hjn
      simp only [Option.some.injEq, Prod.mk.injEq] at hr
      obtain ⟨rfl, rfl⟩ := hr
      refine OpOut.of he (Out.same q (by rw [hv, hk]; exact hrun _ _ j k hjn) ?_)
      simp only [V, V1, Cs]
      exact ⟨c, hc, rfl, hlt⟩
    · cases hr
  · rename_i j szs fs hj hy
    obtain ⟨k, hk⟩ := natOf_sound hj h2
    rw [hy] at h1
    simp only [V, V1, Cs] at h1
    obtain ⟨b, off, c, hv, hc, hat, him⟩ := h1
    injection hv with hv
    split at hr
    · rename_i hsz
      subst hsz
      split at hr
      · rename_i f hf
        simp only [Option.some.injEq, Prod.mk.injEq] at hr
        obtain ⟨rfl, rfl⟩ := hr
        have hjn : j < n := by
          have h3 := hc.lens
          have h4 := (List.getElem?_eq_some_iff.1 hf).1
          simp at h3; omega
        obtain ⟨c1, c', c2, rfl, hl, hcf, hcz, _⟩ := AggCs.split hc hf
        rw [List.take_replicate, sumN_rep, Nat.min_eq_left (by omega)] at hl
        refine OpOut.of he (Out.same q (by rw [hv, hk]; exact hrun _ _ j k hjn) ?_)
        simp only [V, V1, Cs]
        refine ⟨b, _, c', rfl, hcf, ?_, ?_⟩
        · rw [← hl]; exact At.sub hat
        · rw [← hl]; exact Im.sub him (by simp)
      · cases hr
    · cases hr
  · cases hr

theorem op_ixS (q : Hq g w h) (hs : SlotsOk g w s a) {t : TypeId} {x i : Operand} {x' i' : Opd} (ho : o.op = .index t x i) (hu : P.underlying t = some .string)
    (hx : digOpd x = some x') (hi : digOpd i = some i') (hr : RO.run call s h (.ixS x' i') = some (d, h')) : OpOut P g w h a o d h' := by
  have he : execOp a.eval o = (do pure (.value (← Instr.index t (a.eval x) (a.eval i)))) := by unfold execOp; rw [ho]
  have h1 := opd_sound hs hx
  have h2 := opd_sound hs hi
  simp only [RO.run] at hr
  split at hr
  · rename_i b n hb hn
    obtain ⟨k, hk⟩ := natOf_sound hn h2
    rw [hb] at h1
    have h1 := V_str h1
    split at hr
    · rename_i c hc
      simp only [Option.some.injEq, Prod.mk.injEq] at hr
      obtain ⟨rfl, rfl⟩ := hr
      refine OpOut.of he (Out.same q (v := .int .u8 c.toNat) ?_ (V.lit rfl))
      have hlt : n < b.size := by have := (List.getElem?_eq_some_iff.1 hc).1; simpa using this
      have hbc : b[n]? = some c := by
        have h3 : b.data[n]? = some c := by simpa using hc
        have hlt' : n < b.data.size := hlt
        have h4 : b.data[n] = c := by rw [Array.getElem?_eq_getElem hlt'] at h3; injection h3
        simp only [getElem?_def, hlt, dif_pos]
        exact congrArg some h4
      simp only [Instr.index, Sem.run_bind, asIntOf, h1, hk, Sem.run_pure, Result.andThen_ok, run_underlying hu]
      rw [if_pos (by omega), Int.toNat_natCast, hbc]
      rfl
    · cases hr
  · cases hr

theorem op_cvi (q : Hq g w h) (hs : SlotsOk g w s a) {t u : TypeId} {j k : IntKind} {x : Operand} {y : Opd} (ho : o.op = .convert t u x) (ht : P.underlying t = some (.int j)) (hu : P.underlying u = some (.int k)) (hx : digOpd x = some y) (hr : RO.run call s h (.cvi k y) = some (d, h')) : OpOut P g w h a o d h' := by
  have he : execOp a.eval o = (do pure (.value (← convert t u (a.eval x)))) := by unfold execOp; rw [ho]
  have h1 := opd_sound hs hx
  simp only [RO.run] at hr
  split at hr
  · rename_i k' n hy
    rw [hy] at h1
    have h1 := V_int h1
    simp only [Option.some.injEq, Prod.mk.injEq] at hr
    obtain ⟨rfl, rfl⟩ := hr
    refine OpOut.of he (Out.same q (v := .int k (k.wrap n)) ?_ (V.lit rfl))
    simp [convert, run_underlying ht, run_underlying hu, h1, Conv.intToInt]
  · cases hr
theorem op_cvs (q : Hq g w h) (hs : SlotsOk g w s a) {t u : TypeId} {x : Operand} {y : Opd} (ho : o.op = .convert t u x) (ht : P.underlying t = some .string) (hu : P.underlying u = some .string) (hx : digOpd x = some y) (hy : ∃ b, y.ev s = .lit (.string b)) : OpOut P g w h a o (y.ev s) h := by
  have he : execOp a.eval o = (do pure (.value (← convert t u (a.eval x)))) := by unfold execOp; rw [ho]
  have h1 := opd_sound hs hx
  obtain ⟨b, hb⟩ := hy
  have h3 := h1
  rw [hb] at h3
  have h3 := V_str h3
  refine OpOut.of he (Out.same q (v := a.eval x) ?_ h1)
  simp [convert, run_underlying ht, run_underlying hu, h3]

/-- Values, one by one. -/
def VL2 (g : Gh) (w : World) : List D → List Value → Prop
  | [], [] => True
  | d :: ds, v :: vs => V g w d v ∧ VL2 g w ds vs
  | _, _ => False
theorem optL_sound (hs : SlotsOk g w s a) : ∀ (l : List Operand) (xs : List Opd), optL digOpd l = some xs → VL2 g w (xs.map fun x => x.ev s) (l.map a.eval) := by
  intro l
  induction l with
  | nil => intro xs h; simp only [optL, Option.some.injEq] at h; subst h; trivial
  | cons x l ih =>
    intro xs h
    simp only [optL] at h
    split at h
    · rename_i b r hb hr
      injection h with h; subst h
      exact ⟨opd_sound hs hb, ih r hr⟩
    · cases h
theorem mmGo_sound (mx : Bool) {k : IntKind} : ∀ (r : List D) (vs : List Value) (i b : Int), VL2 g w r vs → mmGo mx k i r = some b →
    (vs.foldlM (m := Sem) (if mx then Builtin.max2 else Builtin.min2) (.int k i)).run P w = .ok (.int k b) w := by
  intro r
  induction r with
  | nil =>
    intro vs i b hl hf
    cases vs with
    | nil => simp only [mmGo, Option.some.injEq] at hf; subst hf; rfl
    | cons _ _ => exact hl.elim
  | cons y r ih =>
    intro vs i b hl hf
    cases vs with
    | nil => exact hl.elim
    | cons v vs =>
      obtain ⟨e2, hl⟩ := hl
      unfold mmGo at hf
      split at hf
      · rename_i h1; cases h1
      · rename_i b' k' c' r' h1
        injection h1 with h1 h2; subst h1 h2
        split at hf
        · rename_i hk
          subst hk
          have e2 := V_int e2
          subst e2
          have := ih vs _ b hl hf
          simp only [List.foldlM_cons, Sem.run_bind]
          cases mx
          · simp only [Bool.false_eq_true, if_false, Builtin.min2, Sem.run_pure, Result.andThen_ok] at this ⊢; exact this
          · simp only [if_true, Builtin.max2, Sem.run_pure, Result.andThen_ok] at this ⊢; exact this
        · cases hf
      · cases hf
theorem op_mm (q : Hq g w h) (hs : SlotsOk g w s a) {c : Call} {xs : List Opd} (mx : Bool) (ho : o.op = .call c) (hc : c.callee = .builtin (if mx then .max else .min)) (hx : optL digOpd c.args.toList = some xs) (hr : RO.run call s h (.mm mx xs) = some (d, h')) : OpOut P g w h a o d h' := by
  have he : execOp a.eval o = (do pure (.value (← (if mx then Builtin.max_ c.argTypes o.type (c.args.map a.eval) else Builtin.min_ c.argTypes o.type (c.args.map a.eval))))) := by
    cases mx <;> rw [exec_builtin ho hc] <;> simp [builtin]
  have hall := optL_sound hs _ _ hx
  simp only [RO.run] at hr
  generalize hvs : c.args.toList.map a.eval = vs at hall
  generalize hds : (xs.map fun x => x.ev s) = ds at hr hall
  split at hr
  · rename_i k i r
    split at hr
    · rename_i b hb
      simp only [Option.some.injEq, Prod.mk.injEq] at hr
      obtain ⟨rfl, rfl⟩ := hr
      cases vs with
      | nil => exact hall.elim
      | cons v vs =>
        obtain ⟨hv0, hall⟩ := hall
        have hv0 := V_int hv0
        subst hv0
        have := mmGo_sound (P := P) mx r vs i b hall hb
        refine OpOut.of he (Out.same q (v := .int k b) ?_ (V.lit rfl))
        have htl : (c.args.map a.eval).toList = .int k i :: vs := by rw [Array.toList_map, hvs]
        cases mx
        · simp only [Bool.false_eq_true, if_false, Builtin.min_, htl] at this ⊢; exact this
        · simp only [if_true, Builtin.max_, htl] at this ⊢; exact this
    · cases hr
  · cases hr
end
end Go.Rex
