import Derived.Test.YtijnmnpigjadhabRexZD
import Derived.Lib.Bytealg
set_option linter.unusedVariables false
/- Rex, primitives: functions that the model gives. -/
namespace Go.Rex
open Go.Lib
/-- The comparison of two texts, which the model gives. -/
def cmpPrim (k : FuncId) : Prim := fun f args h =>
  if f = k then
    match args with
    | [.lit (.string a), .lit (.string b)] => some (.lit (.int .i64 (compareBytes a.data.toList b.data.toList)), h)
    | _ => none
  else none
theorem run_extern {P : Program} {f : FuncId} {fn : Func} {e : Array Value → Sem Value} {vs : Array Value} {w w' : World} {v : Value} (hf : P.funcs[f]? = some fn) (hn : (fn.name == "runtime.NumGoroutine") = false) (hb : fn.body = none)
    (h1 : Extern.findNext fn = none) (h2 : Extern.find fn = some e) (hr : (e vs).run P w = .ok v w') : (callFunc f vs).run P w = .ok (.value v) w' := by
  have hn2 : ¬ fn.name = "runtime.NumGoroutine" := by simpa using hn
  unfold callFunc
  simp [hf, hn2, hb, h1, h2, hr]
theorem cmpPrim_ok {P : Program} {k : FuncId} {fn : Func} (hf : P.funcs[k]? = some fn) (hn : (fn.name == "runtime.NumGoroutine") = false) (hb : fn.body = none) (h1 : Extern.findNext fn = none) (h2 : Extern.find fn = some Extern.BytealgCompare.compare) : CallOk P (cmpPrim k) := by
  intro f args h d h' hr g w vs q hv
  unfold cmpPrim at hr
  split at hr
  · rename_i hk
    subst hk
    split at hr
    · rename_i a b
      simp only [Option.some.injEq, Prod.mk.injEq] at hr
      obtain ⟨rfl, rfl⟩ := hr
      match vs, hv with
      | [x, y], ⟨hx, hy, _⟩ =>
        have hx := V_str hx
        have hy := V_str hy
        subst hx hy
        exact .inl ⟨_, w, run_extern hf hn hb h1 h2 (run_compareString a b w), g, V.lit rfl, q, Ext.refl _ _ _⟩
    · cases hr
  · cases hr
theorem cmpPrim_scal (A : Ann) (k : FuncId) : ScalOk A (cmpPrim k) := by
  intro f args h d h' _ hr
  unfold cmpPrim at hr
  split at hr
  · split at hr
    · simp only [Option.some.injEq, Prod.mk.injEq] at hr; exact hr.2.symm
    · cases hr
  · cases hr

/-- A table of functions. -/
inductive Tab where
  | nil
  | node (l : Tab) (k : Nat) (v : RFn) (r : Tab)
def Tab.get : Tab → Nat → Option RFn
  | .nil, _ => none
  | .node l k v r, f => if f = k then some v else if f < k then l.get f else r.get f
def Tab.All (Q : Nat → RFn → Prop) : Tab → Prop
  | .nil => True
  | .node l k v r => l.All Q ∧ Q k v ∧ r.All Q
theorem Tab.get_all {Q : Nat → RFn → Prop} : ∀ {t : Tab}, t.All Q → ∀ (f : Nat) (v : RFn), t.get f = some v → Q f v
  | .nil, _, f, v, h => by simp [Tab.get] at h
  | .node l k u r, ⟨h1, h2, h3⟩, f, v, h => by
    simp only [Tab.get] at h
    split at h
    · rename_i e; injection h with h; subst e h; exact h2
    · split at h
      · exact Tab.get_all h1 f v h
      · exact Tab.get_all h3 f v h
end Go.Rex
