import Derived.Test.YtijnmnpigjadhabRexLc
import Derived.Test.YtijnmnpigjadhabRexB
import Derived.KernelRfl
/- Rex, words that are printed. -/
set_option linter.unusedVariables false
namespace Go.Rex
def noCall : CallF := fun _ _ _ => none
/-- A call of a function value. -/
def callD (call : CallF) (f : D) (args : List D) (h : Hp) : Option (D × Hp) :=
  match f with
  | .fn g n caps => call g (caps.take n ++ args ++ caps.drop n) h
  | _ => none
def sm (d : D) (x : Option (D × Hp)) : Bool :=
  match x with
  | some (d', _) => D.same d d'
  | none => false
def wnt (c : D) (b : Bool) : Bool :=
  match c with
  | .lit (.bool t) => t == b
  | _ => false
theorem loop_text {c : Cx} {L : Nat} {b : AC} {k : Ex → St → Option (List D × Hp)} {s : List D} {h : Hp} {t : Option (List D × Hp)} (h1 : clrL L s = s) (h2 : cpsA c.call c.lp b ⟨s, h⟩ (againK c.lp L b k) = t) : c.lp L b k ⟨s, h⟩ = t := by
  rw [c.round L b k s h h1, h2]
end Go.Rex
