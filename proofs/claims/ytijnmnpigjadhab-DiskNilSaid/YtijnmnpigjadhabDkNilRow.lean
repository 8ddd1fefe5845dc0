/- DiskNil: whatever is done with a disk that there is not, or that New did not make, errors are answered, and nothing. For every input, without conditions. -/
import Derived.Test.YtijnmnpigjadhabRows
import Derived.Test.YtijnmnpigjadhabDkNil
set_option linter.unusedVariables false
set_option linter.unusedSimpArgs false
set_option maxRecDepth 100000
namespace Go.Proofs.Ytijnmnpigjadhab.diskNil
open Go.ChangeShapes Go.WideShapes Go.ChangeAt Go.RowKit
open Go.Rex Go.Dk
theorem own : ownKnob Try.prog.godebug = none := by kernel_rfl
theorem laidOut : laidOutB Try.prog = true := by kernel_rfl
def T : Ty := .st [1, 1, 1, 1, 1, 1] [.int .i64, .str, .str, .int .i64, .sl 1 (.int .u8), .sl 1 .bool]
theorem tys : optL (tyOf Try.prog 8) Try.f4.params.toList = some [T] := by kernel_rfl
theorem rows : Try.f4.params.toList.all (fun t => Try.prog.readableRec t && decide (t < Try.prog.types.size)) = true := by kernel_rfl
theorem run (ds : List D) (h : ShpL [T] ds) : ∃ h', axW Dk.tab.get Dk.R 4 ds [] = some (.lit (.bool true), h') := by
  obtain ⟨d, r, rfl, hd, hr⟩ := h
  have hr : r = [] := hr
  subst hr
  obtain ⟨fs, rfl, hf⟩ := hd
  obtain ⟨_, r1, rfl, ⟨k, rfl, _⟩, hf⟩ := hf
  obtain ⟨_, r2, rfl, ⟨l, rfl, _⟩, hf⟩ := hf
  obtain ⟨_, r3, rfl, ⟨m, rfl, _⟩, hf⟩ := hf
  obtain ⟨_, r4, rfl, ⟨n, rfl, _⟩, hf⟩ := hf
  obtain ⟨b, r5, rfl, hb, hf⟩ := hf
  obtain ⟨bits, r6, rfl, hbits, hf⟩ := hf
  have hf : r6 = [] := hf
  subst hf
  have h1 := shp_flat _ _ hb
  have h2 := shp_flat _ _ hbits
  obtain ⟨_, _, rfl, _⟩ := hb
  obtain ⟨_, _, rfl, _⟩ := hbits
  exact Dk.law k n l m h1.2 fits_slD fits_slD h1.1 h2.1
theorem lifted (os : Os) (started : os.Started) (H : Type) (enc : TypeId × Value → H) :
    ReturnsInHanded {} Try.checked os 4 .any (Rows.diskNilSpec.pre6 enc Try.prog Try.f4 Rows.diskNilRow.domain false) (Rows.diskNilSpec.post enc Try.prog Try.f4 false true false false) := by
  refine returnsInHanded_of_change_sized (C := Try.checked) own started (by kernel_rfl) Try.func4
    (ChangeSpec.witness6 (enc := enc) (C := Try.checked) false ⟨#[], #[.agg #[.int .i64 0, .string ByteArray.empty, .string ByteArray.empty, .int .i64 0, .slice none 0 0, .slice none 0 0]], []⟩ 8 (by kernel_rfl) (by kernel_rfl) (by kernel_rfl) (by kernel_rfl)) ?_
  intro W base args ds gs before hval0 hW hcnd hsz0 _
  have hval : ∀ (j : Nat) t v, Try.f4.params[j]? = some t → args[j]? = some v → Value.okWide Try.prog W .any base t v := hval0
  have hW' := hW
  obtain ⟨p, q, hA0, hV, rfl, hfz, hnd⟩ := hW
  have hA : DataW.TrodAll enc Try.prog W 0 (fun _ => true) true Try.f4.params.toList args.toList ds p := hA0
  obtain ⟨rfl, rfl⟩ := trodVars_none hV
  obtain ⟨d0, rfl⟩ : ∃ d0, ds = [d0] := by
    have hA1 := hA
    rw [Try.params4] at hA1
    obtain ⟨_, _, d0, _, _, _, _, rfl, _, _, r0⟩ := trodAll_cons hA1
    obtain ⟨_, rfl, _⟩ := trodAll_nil r0
    exact ⟨d0, rfl⟩
  obtain ⟨xs, hs, hv⟩ := args_V hA (fun j t v h1 h2 => hval j t v (by simpa using h1) (by simpa using h2)) tys
  have hc := law_calls mixed (fun f rf h => Tab.get_all Dk.tab_all f rf h) (cmpPrim_ok (k := 99) Try.func99 (by kernel_rfl) (by kernel_rfl) (by kernel_rfl) (by kernel_rfl)) (cmpPrim_scal Dk.ann 99) Try.func4 (rf := a4.fn) (by kernel_rfl) (run xs hs) hv
  rw [Array.toArray_toList] at hc
  refine hc.mono fun e W' ⟨he, bel⟩ => ?_
  subst he
  exact ⟨_, rfl, _, _, _, [], _, [], hW', trodAll_mk1 (shut_bool Try.underlying4 _), args_back laidOut bel rows hA, rfl, bel.frame _, fun h => by cases h⟩
theorem over : Rows.diskNilRow.holds Try.pinned (OpenSpec.ofChange Rows.diskNilSpec) :=
  OpenClaim.holds_of_wide 4 Try.f4 rfl rfl rfl rfl rfl rfl rfl ⟨rfl, rfl, rfl, rfl, rfl⟩ rfl rfl rfl rfl rfl (by kernel_rfl) Try.func4 (by kernel_rfl)
    (of_decide_eq_true (by kernel_rfl)) (by unfold Func.isWrapper; first | (rw [if_pos (by decide +kernel)]; kernel_rfl) | (rw [if_neg (by decide +kernel)]; exact ⟨rfl, rfl⟩))
    (fun os started H enc _ => lifted os started H enc)
theorem proved : Rows.DiskNilSaid := over
end Go.Proofs.Ytijnmnpigjadhab.diskNil
namespace Go.Proofs.Ytijnmnpigjadhab
/-- The row, under a short name, for the claim. -/
theorem diskNil_holds : Rows.DiskNilSaid := diskNil.proved
#print axioms diskNil_holds
end Go.Proofs.Ytijnmnpigjadhab
