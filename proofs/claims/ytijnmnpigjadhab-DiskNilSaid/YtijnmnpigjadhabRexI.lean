import Derived.Test.YtijnmnpigjadhabRexH
/- Rex, part I: records and literals. -/
set_option linter.unusedVariables false
set_option linter.unusedSimpArgs false
namespace Go.Rex
open Go.RowKit

theorem cut_at {α : Type} (L : List α) (n : Nat) (h : n < L.length) : ∃ a x b, L = a ++ x :: b ∧ a.length = n :=
  ⟨L.take n, L[n], L.drop (n + 1), by rw [← List.drop_eq_getElem_cons h, List.take_append_drop], by simp; omega⟩
theorem splice : ∀ (l : List Value) (k off : Nat) (cells : Array Value), off + k + l.length ≤ cells.size →
    ((l.zipIdx k).foldl (fun cs (x : Value × Nat) => cs.setIfInBounds (off + x.2) x.1) cells).toList = cells.toList.take (off + k) ++ l ++ cells.toList.drop (off + k + l.length)
  | [], k, off, cells, _ => by simp
  | v :: l, k, off, cells, h => by
    simp only [List.zipIdx_cons, List.foldl_cons]
    rw [splice l (k + 1) off (cells.setIfInBounds (off + k) v) (by simp at h ⊢; omega)]
    simp only [Array.toList_setIfInBounds, List.length_cons]
    obtain ⟨a, x, b, e, hn⟩ := cut_at cells.toList (off + k) (by simp at h ⊢; omega)
    rw [e, ← hn]
    have e1 : off + (k + 1) = a.length + 1 := by omega
    rw [e1]
    simp [List.take_append, List.drop_append, List.take_of_length_le, List.drop_of_length_le, Nat.add_sub_cancel_left, show a.length + 1 + l.length - a.length = l.length + 1 by omega, show a.length + (l.length + 1) - a.length = l.length + 1 by omega]
    omega

/-- The parts of a literal, by what they are. -/
def PartsOk (g : Gh) (w : World) (s : List D) : List (Nat × Opd) → List (Nat × Value) → Prop
  | [], [] => True
  | (i, x) :: ps, (j, v) :: vs => i = j ∧ V g w (x.ev s) v ∧ PartsOk g w s ps vs
  | _, _ => False
theorem AggCs.place {g : Gh} {w : World} {szs : List Nat} {fs : List D} {c : List Value} {i : Nat} (h : AggCs g w szs fs c) (hi : i < szs.length) : ∃ f, fs[i]? = some f := by
  have := h.lens
  exact ⟨fs[i], by simp [← this, hi]⟩
theorem fill_sound {g : Gh} {w : World} {s : List D} {szs : List Nat} (place : Nat → Option (Nat × Nat)) (hp : ∀ i n, szs[i]? = some n → place i = some (sumN (szs.take i), n)) :
    ∀ (ps : List (Nat × Opd)) (vs : List (Nat × Value)) (z fs : List D) (cells : Array Value), AggCs g w szs z cells.toList → PartsOk g w s ps vs → fillD szs s z ps = some fs →
      ∃ cs, Instr.fill place cells vs = some cs ∧ AggCs g w szs fs cs.toList
  | [], [], z, fs, cells, h, _, hf => by simp only [fillD, Option.some.injEq] at hf; subst hf; exact ⟨cells, rfl, h⟩
  | (i, x) :: ps, (j, v) :: vs, z, fs, cells, h, ⟨hij, hv, hps⟩, hf => by
    subst hij
    simp only [fillD] at hf
    split at hf
    · rename_i hc
      obtain ⟨hsz, hnt⟩ := hc
      have hi : i < szs.length := (List.getElem?_eq_some_iff.1 hsz).1
      obtain ⟨f, hfi⟩ := h.place hi
      obtain ⟨c1, c', c2, hcells, hlen, hcf, hz, hset⟩ := h.split hfi
      obtain ⟨c, hc, hvc⟩ := (hv.v1 (fun l e => by rw [e] at hnt; simp [D.isTup] at hnt)).cells
      have hcl := Cs.size _ _ hc
      have hlc : c.length = c'.length := by rw [hsz] at hz; injection hz with hz; omega
      have hsize : cells.size = c1.length + c'.length + c2.length := by
        have := congrArg List.length hcells; simp at this; omega
      obtain ⟨cs, h1, h2⟩ := fill_sound place hp ps vs (z.set i (x.ev s)) fs (v.cells.zipIdx.foldl (fun cs (x : Value × Nat) => cs.setIfInBounds (sumN (szs.take i) + x.2) x.1) cells)
        (by
          rw [hvc, ← Array.foldl_toList]
          have e : (c.toArray.zipIdx).toList = c.zipIdx 0 := by simp
          rw [e, splice c 0 _ cells (by omega), Nat.add_zero, ← hlen, hcells]
          have := hset (x.ev s) c hc hlc
          have e2 : (c1 ++ c' ++ c2).take c1.length = c1 := by simp
          have e3 : (c1 ++ c' ++ c2).drop (c1.length + c.length) = c2 := by
            rw [hlc, ← List.length_append, List.drop_left]
          rw [e2, e3]
          exact this) hps hf
      refine ⟨cs, ?_, h2⟩
      simp only [Instr.fill, hp i _ hsz]
      have hvs : v.cells.size = (x.ev s).sz := by rw [hvc]; simpa only [List.size_toArray] using hcl
      have hcond : ¬ (v.cells.size ≠ (x.ev s).sz ∨ sumN (szs.take i) + v.cells.size > cells.size) := by
        rw [hvs]; rw [hsz] at hz; injection hz with hz; omega
      rw [if_neg (by simp only [Bool.or_eq_true, decide_eq_true_eq]; exact hcond)]
      exact h1
    · cases hf
  | [], _ :: _, _, _, _, _, h, _ => h.elim
  | _ :: _, [], _, _, _, _, h, _ => h.elim

/-! ### Rows of one value -/
theorem rep_cells (c : Array Value) : ∀ n : Nat, ((Array.range (n * c.size)).map (fun i => c[i % c.size]!)).toList = (List.replicate n c.toList).flatten
  | 0 => by simp
  | n + 1 => by
    have ih := rep_cells c n
    rw [List.replicate_succ, List.flatten_cons, ← ih, Nat.succ_mul, Nat.add_comm]
    simp only [Array.toList_map, Array.toList_range, List.range_add, List.map_append, List.map_map]
    congr 1
    · apply List.ext_getElem
      · simp
      · intro i h1 h2
        have hi : i < c.size := by simpa using h2
        simp [Nat.mod_eq_of_lt hi, hi]
    · apply List.map_congr_left
      intro i _
      simp
theorem AggCs.rep {g : Gh} {w : World} {z : D} {c : List Value} (h : Cs g w z c) : ∀ n : Nat, AggCs g w (List.replicate n c.length) (List.replicate n z) (List.replicate n c).flatten
  | 0 => rfl
  | n + 1 => ⟨c, (List.replicate n c).flatten, by simp [List.replicate_succ], h, rfl, AggCs.rep h n⟩
theorem sumN_rep (n k : Nat) : sumN (List.replicate n k) = n * k := by
  induction n with
  | zero => simp [sumN]
  | succ n ih => rw [List.replicate_succ, sumN, ih, Nat.succ_mul]; omega

theorem partsOk_of {g : Gh} {w : World} {s : List D} {ρ : Operand → Value} (hρ : ∀ x y, digOpd x = some y → V g w (y.ev s) (ρ x)) :
    ∀ (l : List (Nat × Operand)) (ps : List (Nat × Opd)), digParts l = some ps → PartsOk g w s ps (l.map fun p => (p.1, ρ p.2))
  | [], ps, h => by simp only [digParts, optL, Option.some.injEq] at h; subst h; trivial
  | p :: l, ps, h => by
    simp only [digParts, optL] at h
    split at h
    · rename_i b r hb hr
      injection h with h; subst h
      cases hx : digOpd p.2 with
      | none => simp [hx] at hb
      | some x =>
        simp [hx] at hb; subst hb
        exact ⟨rfl, hρ _ _ hx, partsOk_of hρ l r (by simpa [digParts] using hr)⟩
    · cases h
end Go.Rex
