import Derived.Test.YtijnmnpigjadhabRexGl
import Derived.WalkKit
import Derived.ProofKit
import Derived.OpenShut
import Derived.ShutString
import Derived.ChangeOld
import Derived.Below
import Derived.SizedLaws
import Derived.Carry
/- Rex, a row out of a law's abstract run. -/
set_option linter.unusedVariables false
namespace Go.Rex
open Go.ChangeShapes Go.WideShapes Go.ChangeAt Go.RowKit

/-- All that is there as a call begins never changes. -/
def gh0 (W : World) : Gh := { inc := fun _ _ => none, imm := fun b o => ∃ v, W.cell? ⟨b, o, none⟩ = some v, lo := W.heap.size }
theorem hq0 (W : World) : Hq (gh0 W) W [] where
  obs := fun id ob i h => by simp at h
  top := fun id ob ver h => by simp at h
  cur := fun id ob ver i h => by simp at h
  new := fun id ver h => rfl
  apart := fun id id' ver ver' i i' h1 h2 => by cases h2
  old := fun id ver i h => by cases h
  imm := fun b o h => by
    obtain ⟨v, hv⟩ := h
    unfold World.cell? at hv
    simp only at hv
    split at hv <;> (try contradiction)
    rename_i c e fr hc
    exact (Array.getElem?_eq_some_iff.1 hc).1
  lo := Nat.le_refl _
theorem law_calls {P : Program} {A : Ann} {F : FuncId → Option RFn} {R : Prim} (hm : P.follows .mixedOrders = true) (hF : ∀ f rf, F f = some rf → ∃ fn, P.funcs[f]? = some fn ∧ digFn P A f fn = some rf) (hR : CallOk P R) (hRs : ScalOk A R)
    {f : FuncId} {fn : Func} {rf : RFn} (hf : P.funcs[f]? = some fn) (hFf : F f = some rf) {ds : List D} (hrun : ∃ h', axW F R f ds [] = some (.lit (.bool true), h')) {W : World} {vs : List Value} (hv : VL2 (gh0 W) W ds vs) :
    Calls P f vs.toArray W fun e W' => e = .returned (.bool true) ∧ Below W.heap.size W W' := by
  obtain ⟨h', hr⟩ := hrun
  obtain ⟨n, hn⟩ := (axW_iff F R).1 hr
  have := (axFn_ok hm hF hR hRs n).1 f ds [] _ _ hn (gh0 W) W vs (hq0 W) hv
  rcases this with ⟨v, w', h1, _⟩ | ⟨_, h2⟩
  · exfalso
    obtain ⟨fn', hfn', hd⟩ := hF f rf hFf
    rw [hf] at hfn'; injection hfn' with hfn'; subst hfn'
    unfold digFn at hd
    split at hd <;> (try contradiction)
    rename_i hname
    split at hd <;> (try contradiction)
    rename_i c hbody
    unfold callFunc at h1
    simp only [Sem.run_bind, run_program, Result.andThen_ok, hf, hbody] at h1
    simp [hname] at h1
  · refine Calls.mono h2 (fun e w' he => ?_)
    cases e with
    | returned v =>
      obtain ⟨g', h1, h2, h3⟩ := he
      exact ⟨by rw [(V_lit.1 h1).1], h3.below⟩
    | panicked _ => exact he.elim
    | outgrown => exact he.elim

section
variable {H : Type} {enc : TypeId × Value → H} {P : Program} {W : World} {spare : Nat → Bool} {held : Bool}
theorem arg_V {n : Nat} {t : TypeId} {T : Ty} {v : Value} {r : Reach} {b0 base : Nat} {dw : DataW H} {ps : List MemPlace} (ht : tyOf P n t = some T) (hval : Value.okWide P W r b0 t v) (h : DataW.Trod enc P W base spare held t v dw ps) :
    ∃ d, Shp T d ∧ V (gh0 W) W d v := by
  obtain ⟨fuel, hf⟩ := h
  obtain ⟨d, h1, h2⟩ := trod_D (g := gh0 W) (fun b o v hv => ⟨v, hv⟩) n fuel t T _ _ ht hf
  refine ⟨d, h1, ?_⟩
  have hlit : ∀ x, d = .lit x → v.cells.toList = [v] → V (gh0 W) W d v := by
    intro x hd hc
    subst hd
    rw [hc] at h2
    exact V_lit.2 (by simpa [Cs] using h2)
  cases n with
  | zero => simp [tyOf] at ht
  | succ n =>
    simp only [tyOf] at ht
    unfold Value.okWide at hval
    split at ht
    · rename_i hu
      injection ht with ht; subst ht
      rw [hu] at hval
      obtain ⟨b, rfl⟩ := h1
      refine hlit _ rfl ?_
      unfold Cell.okWide at hval
      rw [hu] at hval
      cases v <;> first | rfl | (simp [Cell.ok, hu] at hval)
    · rename_i k hu
      injection ht with ht; subst ht
      rw [hu] at hval
      obtain ⟨b, rfl, _⟩ := h1
      refine hlit _ rfl ?_
      unfold Cell.okWide at hval
      rw [hu] at hval
      cases v <;> first | rfl | (simp [Cell.ok, hu] at hval)
    · rename_i hu
      injection ht with ht; subst ht
      rw [hu] at hval
      obtain ⟨b, rfl, _⟩ := h1
      refine hlit _ rfl ?_
      unfold Cell.okWide at hval
      rw [hu] at hval
      cases v <;> first | rfl | (simp [Cell.ok, hu] at hval)
    · rename_i e hu
      split at ht <;> (try contradiction)
      split at ht <;> (try contradiction)
      injection ht with ht; subst ht
      rw [hu] at hval
      obtain ⟨nl, xs, rfl, _⟩ := h1
      have hc : v.cells.toList = [v] := by
        unfold Cell.okWide at hval
        rw [hu] at hval
        cases v <;> first | rfl | (simp [Cell.ok, hu] at hval)
      rw [hc] at h2
      unfold slD at h2 ⊢
      split at h2
      · rename_i c; rw [if_pos c]; exact h2
      · rename_i c; rw [if_neg c]; exact h2
    · rename_i fs hu
      split at ht <;> (try contradiction)
      split at ht <;> (try contradiction)
      injection ht with ht; subst ht
      rw [hu] at hval
      obtain ⟨ds, rfl, _⟩ := h1
      obtain ⟨cs, rfl, _⟩ := hval
      exact ⟨cs.toList, by simp, h2⟩
    · rename_i m e hu
      split at ht <;> (try contradiction)
      split at ht <;> (try contradiction)
      injection ht with ht; subst ht
      rw [hu] at hval
      obtain ⟨ds, rfl, _⟩ := h1
      obtain ⟨cs, rfl, _⟩ := hval
      exact ⟨cs.toList, by simp, h2⟩
    · cases ht
theorem args_V {n : Nat} {r : Reach} {b0 base : Nat} : ∀ {ts : List TypeId} {vs : List Value} {dws : List (DataW H)} {ps : List MemPlace} {Ts : List Ty}, DataW.TrodAll enc P W base spare held ts vs dws ps →
    (∀ (j : Nat) t v, ts[j]? = some t → vs[j]? = some v → Value.okWide P W r b0 t v) → optL (tyOf P n) ts = some Ts → ∃ ds, ShpL Ts ds ∧ VL2 (gh0 W) W ds vs
  | [], vs, dws, ps, Ts, h, _, ht => by
    obtain ⟨rfl, _, _⟩ := trodAll_nil h
    simp only [optL, Option.some.injEq] at ht; subst ht
    exact ⟨[], rfl, trivial⟩
  | t :: ts, vs, dws, ps, Ts, h, hval, ht => by
    obtain ⟨v, vs', d, ds', p, q, rfl, rfl, rfl, h1, h2⟩ := trodAll_cons h
    simp only [optL] at ht
    split at ht <;> (try contradiction)
    rename_i T r hT hr
    injection ht with ht; subst ht
    obtain ⟨x, hx1, hx2⟩ := arg_V hT (hval 0 t v rfl rfl) h1
    obtain ⟨xs, hy1, hy2⟩ := args_V h2 (fun j t v h3 h4 => hval (j + 1) t v h3 h4) hr
    exact ⟨x :: xs, ⟨x, xs, rfl, hx1, hy1⟩, hx2, hy2⟩
theorem args_lt {base : Nat} : ∀ {ts : List TypeId} {vs : List Value} {dws : List (DataW H)} {ps : List MemPlace}, DataW.TrodAll enc P W base spare held ts vs dws ps → ∀ x ∈ ps, x.block < W.heap.size
  | [], vs, dws, ps, h => by
    obtain ⟨_, _, rfl⟩ := trodAll_nil h
    intro x hx; cases hx
  | t :: ts, vs, dws, ps, h => by
    obtain ⟨v, vs', d, ds', p, q, rfl, rfl, rfl, ⟨m, h1⟩, h2⟩ := trodAll_cons h
    intro x hx
    rcases List.mem_append.1 hx with hx | hx
    · exact DataW.trod_lt m _ _ _ h1 x hx
    · exact args_lt h2 x hx
theorem args_back (hl : laidOutB P = true) {W' : World} (bel : Below W.heap.size W W') : ∀ {ts : List TypeId} {vs : List Value} {dws : List (DataW H)} {ps : List MemPlace}, ts.all (fun t => P.readableRec t && decide (t < P.types.size)) = true → DataW.TrodAll enc P W 0 (fun _ => true) true ts vs dws ps →
    DataW.TrodAll enc P W' 0 (fun b => decide (b < W.heap.size)) true ts vs dws ps
  | [], vs, dws, ps, _, h => by
    obtain ⟨rfl, rfl, rfl⟩ := trodAll_nil h
    rfl
  | t :: ts, vs, dws, ps, ht, h => by
    obtain ⟨v, vs', d, ds', p, q, rfl, rfl, rfl, ⟨m, h1⟩, h2⟩ := trodAll_cons h
    simp only [List.all_cons, Bool.and_eq_true, decide_eq_true_eq] at ht
    exact trodAll_cons_mk (Below.trod hl ht.1.1 ht.1.2 ⟨m, h1⟩ bel (fun x hx => DataW.trod_lt m _ _ _ h1 x hx)) (args_back hl bel ht.2 h2)
end
end Go.Rex
