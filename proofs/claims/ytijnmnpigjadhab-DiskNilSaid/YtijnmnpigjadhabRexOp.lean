import Derived.Test.YtijnmnpigjadhabRexLd
import Derived.Tactics
import Derived.IntWalk
import Derived.Laws.Strings
/- Rex, what operations give. -/
set_option linter.unusedVariables false
namespace Go.Rex
open Go.RowKit Go.IntWalk
variable {h : Hp} {k : IntKind} {a b n : Int} {p q : Bool} {x y : D}

/-- An equation that simp is to use as a proof, not by unfolding. -/
theorem nrfl {α : Sort _} {a b : α} (h : a = b) : a = b := h
/-- A text. -/
def S (l : List UInt8) : D := .lit (.string ⟨⟨l⟩⟩)
theorem S_def (l : List UInt8) : D.lit (.string ⟨⟨l⟩⟩) = S l := rfl
theorem S_mk (b : ByteArray) : D.lit (.string b) = S b.data.toList := rfl

/-! ### Plain operations -/
@[go_sem] theorem o_mv : op h (.mv (.c x)) = some (x, h) := nrfl rfl
@[go_sem] theorem o_pick : op h (.pick (.c (.lit (.bool p))) (.c x) (.c y)) = some (if p then x else y, h) := nrfl rfl
@[go_sem] theorem o_boxp (hx : x.isTup = false) : op h (.box false (.c x)) = some (.pv x, h) := by simp [op, RO.run, Opd.ev, hx]
@[go_sem] theorem o_boxm (hx : x.isTup = false) (hs : 0 < x.sz) : op h (.box true (.c x)) = some (.ptr h.length 0 0 [0], newOb h x.sz [x]) := by simp [op, RO.run, Opd.ev, hx, hs]
@[go_sem] theorem o_ldpv {ag : Bool} {s : Nat} (hx : x.fits ag s = true) : op h (.ld ag s (.c (.pv x))) = some (x, h) := by simp [op, RO.run, Opd.ev, loadAt, hx]
theorem o_ld {ag : Bool} {s : Nat} (hl : loadAt h x = some y) (hx : y.fits ag s = true) : op h (.ld ag s (.c x)) = some (y, h) := by simp [op, RO.run, Opd.ev, hl, hx]
theorem o_st {s : Nat} {h' : Hp} (hy : y.isTup = false) (hs : storeAt h s y x = some h') : op h (.st s (.c x) (.c y)) = some (und, h') := by simp [op, RO.run, Opd.ev, hs, hy]
@[go_sem] theorem o_nck_pv : op h (.nck (.c (.pv x))) = some (.pv x, h) := nrfl rfl
@[go_sem] theorem o_nck_ptr {i v o : Nat} {l : List Nat} : op h (.nck (.c (.ptr i v o l))) = some (.ptr i v o l, h) := nrfl rfl
@[go_sem] theorem o_nck_fn {f m : Nat} {l : List D} : op h (.nck (.c (.fn f m l))) = some (.fn f m l, h) := nrfl rfl
/-! ### Numbers -/
@[go_sem] theorem o_add : op h (.bin .add (.c (.lit (.int k a))) (.c (.lit (.int k b)))) = some (.lit (.int k (k.wrap (a + b))), h) := by simp [op, RO.run, Opd.ev, asPure, binOp, Op.intArith, Pure.pure]
@[go_sem] theorem o_sub : op h (.bin .sub (.c (.lit (.int k a))) (.c (.lit (.int k b)))) = some (.lit (.int k (k.wrap (a - b))), h) := by simp [op, RO.run, Opd.ev, asPure, binOp, Op.intArith, Pure.pure]
@[go_sem] theorem o_mul : op h (.bin .mul (.c (.lit (.int k a))) (.c (.lit (.int k b)))) = some (.lit (.int k (k.wrap (a * b))), h) := by simp [op, RO.run, Opd.ev, asPure, binOp, Op.intArith, Pure.pure]
@[go_sem] theorem o_quo (hb : b ≠ 0) : op h (.bin .quo (.c (.lit (.int k a))) (.c (.lit (.int k b)))) = some (.lit (.int k (k.wrap (a.tdiv b))), h) := by simp [op, RO.run, Opd.ev, asPure, binOp, Op.intDiv, hb, Pure.pure]
@[go_sem] theorem o_rem (hb : b ≠ 0) : op h (.bin .rem (.c (.lit (.int k a))) (.c (.lit (.int k b)))) = some (.lit (.int k (a.tmod b)), h) := by simp [op, RO.run, Opd.ev, asPure, binOp, Op.intDiv, hb, Pure.pure]
@[go_sem] theorem o_eql : op h (.bin .eql (.c (.lit (.int k a))) (.c (.lit (.int k b)))) = some (.lit (.bool (decide (a = b))), h) := by simp [op, RO.run, Opd.ev, asPure, binOp, Op.intCmp, Pure.pure]; rfl
@[go_sem] theorem o_neq : op h (.bin .neq (.c (.lit (.int k a))) (.c (.lit (.int k b)))) = some (.lit (.bool (!decide (a = b))), h) := by simp [op, RO.run, Opd.ev, asPure, binOp, Op.intCmp, Pure.pure]; rfl
@[go_sem] theorem o_lss : op h (.bin .lss (.c (.lit (.int k a))) (.c (.lit (.int k b)))) = some (.lit (.bool (decide (a < b))), h) := by simp [op, RO.run, Opd.ev, asPure, binOp, Op.intCmp, Pure.pure]
@[go_sem] theorem o_leq : op h (.bin .leq (.c (.lit (.int k a))) (.c (.lit (.int k b)))) = some (.lit (.bool (decide (a ≤ b))), h) := by simp [op, RO.run, Opd.ev, asPure, binOp, Op.intCmp, Pure.pure]
@[go_sem] theorem o_gtr : op h (.bin .gtr (.c (.lit (.int k a))) (.c (.lit (.int k b)))) = some (.lit (.bool (decide (b < a))), h) := by simp [op, RO.run, Opd.ev, asPure, binOp, Op.intCmp, Pure.pure]
@[go_sem] theorem o_geq : op h (.bin .geq (.c (.lit (.int k a))) (.c (.lit (.int k b)))) = some (.lit (.bool (decide (b ≤ a))), h) := by simp [op, RO.run, Opd.ev, asPure, binOp, Op.intCmp, Pure.pure]
@[go_sem] theorem o_neg : op h (.un .neg (.c (.lit (.int k a)))) = some (.lit (.int k (k.wrap (0 - a))), h) := by simp [op, RO.run, Opd.ev, asPure, Op.unary, Op.intArith, Pure.pure]
@[go_sem] theorem o_not : op h (.un .not (.c (.lit (.bool p)))) = some (.lit (.bool (!p)), h) := by simp [op, RO.run, Opd.ev, asPure, Op.unary, Pure.pure]
@[go_sem] theorem o_cvi {k' : IntKind} : op h (.cvi k' (.c (.lit (.int k a)))) = some (.lit (.int k' (k'.wrap a)), h) := nrfl rfl
theorem w64 (h1 : -9223372036854775808 ≤ n) (h2 : n ≤ 9223372036854775807) : IntKind.wrap .i64 n = n := i64_in n ⟨h1, h2⟩
theorem wu8 (h1 : 0 ≤ n) (h2 : n ≤ 255) : IntKind.wrap .u8 n = n := u8_in n ⟨h1, h2⟩
theorem wu32 (h1 : 0 ≤ n) (h2 : n ≤ 4294967295) : IntKind.wrap .u32 n = n := u32_in n ⟨h1, h2⟩
theorem wu64 (h1 : 0 ≤ n) (h2 : n ≤ 18446744073709551615) : IntKind.wrap .u64 n = n := u64_in n ⟨h1, h2⟩
@[go_sem] theorem o_mm1 {mx : Bool} : op h (.mm mx [.c (.lit (.int k a)), .c (.lit (.int k b))]) = some (.lit (.int k (if mx then max a b else min a b)), h) := by
  cases mx <;> simp only [op, RO.run, Opd.ev, List.map_cons, List.map_nil, mmGo, if_true]
  · congr 4; split <;> omega
  · congr 4; split <;> omega
/-! ### Equality of other things -/
@[go_sem] theorem o_eqb {r : Bool} : op h (.eq p .bool (.c (.lit (.bool q))) (.c (.lit (.bool r)))) = some (.lit (.bool (decide (q = r) != p)), h) := nrfl rfl
theorem o_eq {e : EqT} (he : eqD e x y = some q) : op h (.eq p e (.c x) (.c y)) = some (.lit (.bool (q != p)), h) := by simp [op, RO.run, Opd.ev, he]
@[go_sem] theorem o_eqp1 : op h (.eq p .ptr (.c (.lit (.pointer none))) (.c (.lit (.pointer none)))) = some (.lit (.bool (true != p)), h) := nrfl rfl
@[go_sem] theorem o_eqp2 : op h (.eq p .ptr (.c (.pv x)) (.c (.lit (.pointer none)))) = some (.lit (.bool (false != p)), h) := nrfl rfl
@[go_sem] theorem o_eqp3 {i v o : Nat} {l : List Nat} : op h (.eq p .ptr (.c (.ptr i v o l)) (.c (.lit (.pointer none)))) = some (.lit (.bool (false != p)), h) := nrfl rfl
/-! ### Texts -/
theorem ba_eq {l m : List UInt8} : ((⟨⟨l⟩⟩ : ByteArray) = ⟨⟨m⟩⟩) ↔ l = m := by
  constructor
  · intro e; injection e with e; injection e
  · intro e; rw [e]
theorem ba_toList (l : List UInt8) : (⟨⟨l⟩⟩ : ByteArray).toList = l := ByteArray.toList_eq _
@[go_sem] theorem o_seql {l m : List UInt8} : op h (.bin .eql (.c (S l)) (.c (S m))) = some (.lit (.bool (decide (l = m))), h) := by
  simp [op, RO.run, Opd.ev, S, asPure, binOp, Op.stringOp, Pure.pure]; rw [Bool.eq_iff_iff]; simp
@[go_sem] theorem o_sneq {l m : List UInt8} : op h (.bin .neq (.c (S l)) (.c (S m))) = some (.lit (.bool (!decide (l = m))), h) := by
  simp [op, RO.run, Opd.ev, S, asPure, binOp, Op.stringOp, Pure.pure]; rw [Bool.eq_iff_iff]; simp
theorem ba_append (l m : List UInt8) : (⟨⟨l⟩⟩ : ByteArray) ++ ⟨⟨m⟩⟩ = ⟨⟨l ++ m⟩⟩ := by
  have : ((⟨⟨l⟩⟩ : ByteArray) ++ ⟨⟨m⟩⟩).data = (⟨⟨l ++ m⟩⟩ : ByteArray).data := by simp
  exact congrArg ByteArray.mk this
theorem ba_size (l : List UInt8) : (⟨⟨l⟩⟩ : ByteArray).size = l.length := rfl
theorem ba_extract (l : List UInt8) (i j : Nat) : (⟨⟨l⟩⟩ : ByteArray).extract i j = ⟨⟨(l.take j).drop i⟩⟩ := by
  have : ((⟨⟨l⟩⟩ : ByteArray).extract i j).data = (⟨⟨(l.take j).drop i⟩⟩ : ByteArray).data := by
    rw [ByteArray.data_extract]
    apply Array.ext'
    rw [Array.toList_extract, List.extract_eq_take_drop, List.drop_take]
  exact congrArg ByteArray.mk this
@[go_sem] theorem o_sadd {l m : List UInt8} (hs : l.length + m.length ≤ 9223372036854775807) : op h (.bin .add (.c (S l)) (.c (S m))) = some (S (l ++ m), h) := by
  have : ¬ (((l.length + m.length : Nat) : Int) > IntKind.i64.max) := by
    have : IntKind.i64.max = 9223372036854775807 := by decide
    rw [this]; omega
  simp only [op, RO.run, Opd.ev, S, asPure, binOp, Op.stringOp, Pure.pure, ba_size, ba_append]
  rw [if_neg this]
@[go_sem] theorem o_slen {l : List UInt8} : op h (.len true (.c (S l))) = some (.lit (.int .i64 l.length), h) := nrfl rfl
theorem o_sidx {l : List UInt8} {i : Nat} {c : UInt8} (hc : l[i]? = some c) : op h (.ixS (.c (S l)) (.c (.lit (.int k i)))) = some (.lit (.int .u8 c.toNat), h) := by
  simp [op, RO.run, Opd.ev, S, natOf, hc]
@[go_sem] theorem o_sls {l : List UInt8} {i j : Int} (h1 : 0 ≤ i) (h2 : i ≤ j) (h3 : j ≤ l.length) : op h (.sls (.c (S l)) (some (.c (.lit (.int k i)))) (some (.c (.lit (.int k j))))) = some (S ((l.take j.toNat).drop i.toNat), h) := by
  have e : i.toNat ≤ j.toNat ∧ j.toNat ≤ l.length := by omega
  simp [op, RO.run, Opd.ev, S, natOr, natOf, h1, Int.le_trans h1 h2, strSlice, ba_size, ba_extract, e.1, e.2]
@[go_sem] theorem o_sls_lo {l : List UInt8} {i : Int} (h1 : 0 ≤ i) (h2 : i ≤ l.length) : op h (.sls (.c (S l)) (some (.c (.lit (.int k i)))) none) = some (S (l.drop i.toNat), h) := by
  have e : i.toNat ≤ l.length := by omega
  simp [op, RO.run, Opd.ev, S, natOr, natOf, h1, strSlice, ba_size, ba_extract, e]
@[go_sem] theorem o_sls_hi {l : List UInt8} {j : Int} (h1 : 0 ≤ j) (h3 : j ≤ l.length) : op h (.sls (.c (S l)) none (some (.c (.lit (.int k j))))) = some (S (l.take j.toNat), h) := by
  have e : j.toNat ≤ l.length := by omega
  simp [op, RO.run, Opd.ev, S, natOr, natOf, h1, strSlice, ba_size, ba_extract, e]
@[go_sem] theorem o_cvs {l : List UInt8} : op h (.cvs (.c (S l))) = some (S l, h) := nrfl rfl
/-! ### Lists that don't change -/
/-- A list that does not change: nil, or not; with just its room, or not. -/
def slD (es : Nat) (nl tg : Bool) (xs : List D) : D := if nl && xs.isEmpty then nilD else .sl es xs tg
variable {es : Nat} {nl tg : Bool} {xs : List D}
theorem nilD_slD (es : Nat) (tg : Bool) : nilD = slD es true tg [] := rfl
@[go_sem] theorem o_len : op h (.len false (.c (slD es nl tg xs))) = some (.lit (.int .i64 xs.length), h) := by
  unfold slD
  split
  · rename_i c; simp at c; obtain ⟨_, rfl⟩ := c; rfl
  · rfl
@[go_sem] theorem o_len_nil : op h (.len false (.c nilD)) = some (.lit (.int .i64 0), h) := nrfl rfl
@[go_sem] theorem o_len_mo {e id ver off ln : Nat} {tg : Bool} : op h (.len false (.c (.mo e id ver off ln tg))) = some (.lit (.int .i64 ln), h) := nrfl rfl
theorem elems_slD : elemsOf h es (slD es nl tg xs) = some xs := by
  unfold slD
  split
  · rename_i c; simp at c; obtain ⟨_, rfl⟩ := c; rfl
  · unfold elemsOf; simp
theorem o_ia {i : Nat} {d : D} (hd : xs[i]? = some d) : op h (.ia es (.c (slD es nl tg xs)) (.c (.lit (.int k i)))) = some (.pv d, h) := by
  have : (nl && xs.isEmpty) = false := by cases xs <;> simp at hd ⊢
  simp [op, RO.run, Opd.ev, natOf, slD, this, hd]
@[go_sem] theorem o_eqnil : op h (.eq p .nilS (.c (slD es nl tg xs)) (.c nilD)) = some (.lit (.bool ((nl && xs.isEmpty) != p)), h) := by
  unfold slD
  split
  · rename_i c; rw [c]; rfl
  · rename_i c; rw [Bool.not_eq_true] at c; rw [c]; rfl
@[go_sem] theorem tup_slD : (slD es nl tg xs).isTup = false := by unfold slD; split <;> rfl
@[go_sem] theorem sz_slD : (slD es nl tg xs).sz = 1 := by unfold slD; split <;> rfl
@[go_sem] theorem fits_slD : (slD es nl tg xs).fits false 1 = true := by unfold slD; split <;> rfl
theorem flat_slD (hx : flatL xs = true) : (slD es nl tg xs).flat = true := by unfold slD; split <;> simp [D.flat, nilD, hx]
@[go_sem] theorem tup_lit {v : Value} : (D.lit v).isTup = false := nrfl rfl
@[go_sem] theorem sz_lit {v : Value} : (D.lit v).sz = 1 := nrfl rfl
@[go_sem] theorem fits_lit {v : Value} : (D.lit v).fits false 1 = true := nrfl rfl
@[go_sem] theorem tup_S {l : List UInt8} : (S l).isTup = false := nrfl rfl
@[go_sem] theorem sz_S {l : List UInt8} : (S l).sz = 1 := nrfl rfl
@[go_sem] theorem fits_S {l : List UInt8} : (S l).fits false 1 = true := nrfl rfl
@[go_sem] theorem flat_lit {v : Value} : (D.lit v).flat = true := nrfl rfl
@[go_sem] theorem flat_S {l : List UInt8} : (S l).flat = true := nrfl rfl
@[go_sem] theorem flatL_nil : flatL [] = true := nrfl rfl
@[go_sem] theorem flatL_cons {d : D} {l : List D} : flatL (d :: l) = (d.flat && flatL l) := nrfl rfl
@[go_sem] theorem flat_agg {s : List Nat} {l : List D} : (D.agg s l).flat = flatL l := nrfl rfl
@[go_sem] theorem flat_pv : (D.pv x).flat = x.flat := nrfl rfl
theorem flatL_all : ∀ {l : List D}, flatL l = true ↔ ∀ d ∈ l, d.flat = true
  | [] => by simp [flatL]
  | d :: l => by simp [flatL, flatL_all]
/-! ### What comes behind is left alone till it is reached -/
theorem bind_cong {α β : Type} {x y : Option α} {f : α → Option β} (h : x = y) : x.bind f = y.bind f := by rw [h]
theorem cnd_cong {α : Type} {c d : D} {x y : Option α} (h : c = d) : cnd c x y = cnd d x y := by rw [h]
theorem ite_cong {α : Type} {c d : Prop} [Decidable c] [Decidable d] {x y : α} (h : c ↔ d) : (if c then x else y) = if d then x else y := by simp [h]
@[go_sem] theorem bindS {α β : Type} {a : α} {f : α → Option β} : (some a).bind f = f a := nrfl rfl
@[go_sem] theorem bindN {α β : Type} {f : α → Option β} : (none : Option α).bind f = none := nrfl rfl
/-! ### Branches, steps that are done at times -/
@[go_sem] theorem cnd_bool {α : Type} {x y : Option α} : cnd (.lit (.bool p)) x y = if p then x else y := by cases p <;> rfl
@[go_sem] theorem grd_bool {x : Option (D × Hp)} : grd (.lit (.bool p)) q x h = if p = q then x else some (und, h) := by cases p <;> cases q <;> rfl
@[go_sem] theorem callD_fn {call : CallF} {f m : Nat} {l args : List D} : callD call (.fn f m l) args h = call f (l.take m ++ args ++ l.drop m) h := nrfl rfl
@[go_sem] theorem o_ext {ds : List D} {i : Nat} {d : D} (hd : ds[i]? = some d) : op h (.ext (.c (.tup ds)) i) = some (d, h) := by simp [op, RO.run, Opd.ev, hd]
/-! ### Results -/
@[go_sem] theorem resV_nil : resV h [] = some [] := nrfl rfl
@[go_sem] theorem resV_v {l : List RV} (hx : x.isTup = false) : resV h (.v x :: l) = (resV h l).bind fun r => some (x :: r) := by
  simp only [resV]; cases resV h l <;> simp [hx]
theorem resV_cell {l : List RV} {ag : Bool} {s : Nat} (hl : loadAt h x = some y) (hx : y.fits ag s = true) : resV h (.cell x ag s :: l) = (resV h l).bind fun r => some (y :: r) := by
  simp only [resV, hl]; cases resV h l <;> simp [hx]
@[go_sem] theorem fin_def {l : List RV} : fin l h = (resV h l).bind fun r => some (r, h) := nrfl rfl
end Go.Rex
