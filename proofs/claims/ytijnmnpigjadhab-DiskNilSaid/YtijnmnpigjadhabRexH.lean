import Derived.Test.YtijnmnpigjadhabRexG
import Derived.Laws.Entries
/- Rex, part H: single operations. -/
set_option linter.unusedVariables false
set_option linter.unusedSimpArgs false
namespace Go.Rex
open Go.RowKit

/-- What an operation of the machine comes to. -/
def Out (P : Program) (g : Gh) (w : World) (h : Hp) (S : Sem Value) (d : D) (h' : Hp) : Prop :=
  ∃ v w' g', S.run P w = .ok v w' ∧ V g' w' d v ∧ Hq g' w' h' ∧ Ext g w h g' w' h'
theorem Out.same {P : Program} {g : Gh} {w : World} {h : Hp} (q : Hq g w h) {S : Sem Value} {d : D} {v : Value} (hr : S.run P w = .ok v w) (hv : V g w d v) : Out P g w h S d h :=
  ⟨v, w, g, hr, hv, q, Ext.refl _ _ _⟩

theorem V_lit {g : Gh} {w : World} {v u : Value} : V g w (.lit v) u ↔ u = v ∧ v.oneCell' = true := by
  simp only [V, V1, Cs]
  constructor
  · rintro ⟨h, h1⟩; injection h with h; exact ⟨h, h1⟩
  · rintro ⟨rfl, h1⟩; exact ⟨rfl, h1⟩
theorem V.lit {g : Gh} {w : World} {v : Value} (h : v.oneCell' = true) : V g w (.lit v) v := V_lit.2 ⟨rfl, h⟩

/-! ### Zero values -/
theorem valEq_eq {a b : Value} (h : valEq a b = true) : a = b ∧ a.oneCell' = true := by
  unfold valEq at h
  split at h
  · simp at h; obtain ⟨rfl, rfl⟩ := h; exact ⟨rfl, rfl⟩
  · simp at h; subst h; exact ⟨rfl, rfl⟩
  · simp at h; subst h; exact ⟨rfl, rfl⟩
  · simp at h; obtain ⟨rfl, rfl⟩ := h; exact ⟨rfl, rfl⟩
  · exact ⟨rfl, rfl⟩
  · exact ⟨rfl, rfl⟩
  · cases h
mutual
theorem takeZ_sound {g : Gh} {w : World} : ∀ (d : D) (l r : List Value), takeZ d l = some r → ∃ c, l = c ++ r ∧ Cs g w d c
  | .lit a, v :: l, r, h => by
    simp only [takeZ] at h
    split at h
    · rename_i he
      injection h with h; subst h
      obtain ⟨rfl, h1⟩ := valEq_eq he
      exact ⟨[a], rfl, rfl, h1⟩
    · cases h
  | .lit a, [], r, h => by simp [takeZ] at h
  | .agg szs fs, l, r, h => by
    simp only [takeZ] at h
    exact takeZL_sound szs fs l r h
  | .tup _, l, r, h => by simp [takeZ] at h
  | .sl .., l, r, h => by simp [takeZ] at h
  | .pv _, l, r, h => by simp [takeZ] at h
  | .mo .., l, r, h => by simp [takeZ] at h
  | .ptr .., l, r, h => by simp [takeZ] at h
  | .fn .., l, r, h => by simp [takeZ] at h
theorem takeZL_sound {g : Gh} {w : World} : ∀ (szs : List Nat) (fs : List D) (l r : List Value), takeZL szs fs l = some r → ∃ c, l = c ++ r ∧ AggCs g w szs fs c
  | [], [], l, r, h => by simp only [takeZL, Option.some.injEq] at h; subst h; exact ⟨[], rfl, rfl⟩
  | n :: szs, f :: fs, l, r, h => by
    simp only [takeZL] at h
    cases hq : takeZ f l with
    | none => simp [hq] at h
    | some r1 =>
      simp only [hq] at h
      split at h
      · rename_i hl
        obtain ⟨c1, rfl, h1⟩ := takeZ_sound (g := g) (w := w) f l r1 hq
        obtain ⟨c2, rfl, h2⟩ := takeZL_sound (g := g) (w := w) szs fs r1 r h
        refine ⟨c1 ++ c2, by simp, c1, c2, rfl, h1, ?_, h2⟩
        simp at hl; omega
      · cases h
  | [], _ :: _, l, r, h => by simp [takeZL] at h
  | _ :: _, [], l, r, h => by simp [takeZL] at h
end
theorem zeroOf_sound {P : Program} {t : TypeId} {d : D} (h : zeroOf P t = some d) : ∃ v i, P.info? t = some i ∧ i.zero = some v ∧ ∀ g w, V1 g w d v := by
  unfold zeroOf at h
  split at h
  · rename_i d' v hd hv
    split at h
    · rename_i hf
      injection h with h; subst h
      obtain ⟨i, hi, hz⟩ := Option.bind_eq_some_iff.1 hv
      refine ⟨v, i, hi, hz, fun g w => ?_⟩
      have lone : ∀ d : D, (∀ szs fs, d ≠ .agg szs fs) → doneZ (takeZ d [v]) = true → V1 g w d v := by
        intro d hna hf
        cases hq : takeZ d [v] with
        | none => simp [hq, doneZ] at hf
        | some r =>
          simp [hq, doneZ] at hf; subst hf
          obtain ⟨c, hc, h1⟩ := takeZ_sound (g := g) (w := w) d _ _ hq
          simp at hc; subst hc
          cases d with
          | agg szs fs => exact absurd rfl (hna szs fs)
          | _ => exact h1
      cases d' with
      | agg szs fs =>
        cases v with
        | agg cs =>
          simp only [zeroFits] at hf
          cases hq : takeZL szs fs cs.toList with
          | none => simp [hq, doneZ] at hf
          | some r =>
            simp [hq, doneZ] at hf; subst hf
            obtain ⟨c, hc, h1⟩ := takeZL_sound (g := g) (w := w) szs fs _ _ hq
            simp at hc
            exact ⟨c, by rw [← hc], h1⟩
        | _ => simp [zeroFits] at hf
      | _ => exact lone _ (by intro _ _ e; cases e) (by simpa [zeroFits] using hf)
    · cases h
  · cases h
theorem run_zeroValue {P : Program} {w : World} {t : TypeId} {v : Value} {i : TypeInfo} (h : P.info? t = some i) (hz : i.zero = some v) : (zeroValue t).run P w = .ok v w := by
  simp [zeroValue, typeInfo, h, hz]

/-! ### A new block -/
theorem below_push (w : World) (o : Obj) : Below w.heap.size w { w with heap := w.heap.push o } := (Below.refl _ w).alloc (Nat.le_refl _) o
theorem cell_push (w : World) (c : Array Value) (t : TypeId) (fr : Nat × Nat) (o : Nat) : ({ w with heap := w.heap.push (.cells c t fr) } : World).cell? ⟨w.heap.size, o, none⟩ = c[o]? := by
  simp [World.cell?]
theorem At_push (w : World) (c : List Value) (t : TypeId) (fr : Nat × Nat) : At { w with heap := w.heap.push (.cells c.toArray t fr) } w.heap.size 0 c := by
  intro j v hv
  rw [Nat.zero_add, cell_push]
  simpa using hv
/-- A row made of cells that never change. -/
theorem Hq.fresh {g : Gh} {w : World} {h : Hp} (q : Hq g w h) (o : Obj) :
    let g' := g.addImm fun b _ => b = w.heap.size
    let w' : World := { w with heap := w.heap.push o }
    Hq g' w' h ∧ Ext g w h g' w' h := by
  intro g' w'
  exact q.grow (below_push w o) _ (fun b o' hb => by subst hb; simp [w'])

theorem addInc_here (g : Gh) (id ver : Nat) (i : Inc) : (g.addInc id ver i).inc id ver = some i := by simp [Gh.addInc]

theorem box_sound {P : Program} {g : Gh} {w : World} {h h' : Hp} (q : Hq g w h) {s : List D} {call : FuncId → List D → Hp → Option (D × Hp)} {m : Bool} {x : Opd} {d : D} {t : TypeId} {v : Value}
    (hr : RO.run call s h (.box m x) = some (d, h')) (hv : V g w (x.ev s) v) : Out P g w h (Instr.box t v) d h' := by
  simp only [RO.run] at hr
  generalize x.ev s = y at hr hv
  split at hr
  · cases hr
  · rename_i hnt
    have hnt : ∀ l, y ≠ .tup l := fun l e => by subst e; simp [D.isTup] at hnt
    obtain ⟨c, hc, hcells⟩ := (hv.v1 hnt).cells
    have hrun : (Instr.box t v).run P w = .ok (.pointer (some ⟨w.heap.size, 0, none⟩)) { w with heap := w.heap.push (.cells v.cells t) } := by
      simp [Instr.box, newVar, newRow]
    rw [hcells] at hrun
    split at hr
    · split at hr
      · rename_i hpos
        simp only [Option.some.injEq, Prod.mk.injEq] at hr
        obtain ⟨rfl, rfl⟩ := hr
        have hb := below_push w (.cells c.toArray t)
        have hcl := Cs.size _ _ hc
        have hl : Le g w g { w with heap := w.heap.push (.cells c.toArray t) } := Le.of_below q.imm hb
        obtain ⟨q', e'⟩ := q.make hb w.heap.size (Nat.le_refl _) (by simp) y.sz 1 [y] hpos ⟨c.toArray, t, (0, 0), by simp, by simp [hcl], by simp⟩ (Nat.le_refl _)
          ⟨⟨c, Cs.le hl y c hc, hcl, At_push w c t _⟩, trivial⟩
        refine ⟨_, _, _, hrun, ?_, q', e'⟩
        simp only [V, V1, Cs]
        exact ⟨_, addInc_here _ _ _ _, rfl, Nat.one_pos⟩
      · cases hr
    · simp only [Option.some.injEq, Prod.mk.injEq] at hr
      obtain ⟨rfl, rfl⟩ := hr
      obtain ⟨q', e'⟩ := q.fresh (.cells c.toArray t)
      refine ⟨_, _, _, hrun, ?_, q', e'⟩
      simp only [V, V1, Cs]
      exact ⟨w.heap.size, 0, c, rfl, Cs.le e'.le y c hc, At_push w c t _, fun j _ => .inr rfl⟩
end Go.Rex
