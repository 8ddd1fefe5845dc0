import Derived.Test.YtijnmnpigjadhabRexD
/- Rex, part E: objects that are written. -/
set_option linter.unusedVariables false
namespace Go.Rex
open Go.RowKit

/-- What a store into one block does. -/
structure Wrote (w w' : World) (B o1 o2 : Nat) : Prop where
  os : w'.os = w.os
  tape : w'.tape = w.tape
  output : w'.output = w.output
  size : w'.heap.size = w.heap.size
  block : ∀ k, k ≠ B → w'.heap[k]? = w.heap[k]?
  cell : ∀ o, ¬ (o1 ≤ o ∧ o < o2) → w'.cell? ⟨B, o, none⟩ = w.cell? ⟨B, o, none⟩
  form : ∀ c e fr, w.heap[B]? = some (.cells c e fr) → ∃ c', w'.heap[B]? = some (.cells c' e fr) ∧ c'.size = c.size

theorem Wrote.refl (w : World) (B o1 o2 : Nat) : Wrote w w B o1 o2 := ⟨rfl, rfl, rfl, rfl, fun _ _ => rfl, fun _ _ => rfl, fun c e fr h => ⟨c, h, rfl⟩⟩
theorem Wrote.one (w : World) (B o : Nat) (v : Value) : Wrote w (w.setCell ⟨B, o, none⟩ v) B o (o + 1) where
  os := rfl
  tape := rfl
  output := rfl
  size := by simp [World.setCell]
  block := fun k hk => Below.heap_setCell _ _ _ _ hk
  cell := fun o' h => World.cell?_setCell_other _ _ _ _ (by simp; omega)
  form := fun c e fr h => by
    refine ⟨c.setIfInBounds o v, ?_, by simp⟩
    simp only [World.setCell, Array.getElem?_modify, if_true, h]; simp
theorem Wrote.trans {w w1 w2 : World} {B a b c : Nat} (h : Wrote w w1 B a b) (k : Wrote w1 w2 B b c) (hab : a ≤ b) (hbc : b ≤ c) : Wrote w w2 B a c where
  os := k.os.trans h.os
  tape := k.tape.trans h.tape
  output := k.output.trans h.output
  size := k.size.trans h.size
  block := fun x hx => (k.block x hx).trans (h.block x hx)
  cell := fun o ho => (k.cell o (by omega)).trans (h.cell o (by omega))
  form := fun x e fr hx => by
    obtain ⟨c1, h1, s1⟩ := h.form x e fr hx
    obtain ⟨c2, h2, s2⟩ := k.form c1 e fr h1
    exact ⟨c2, h2, s2.trans s1⟩
theorem Wrote.many (B : Nat) : ∀ (vs : List Value) (w : World) (o : Nat), Wrote w (w.setCells B o vs) B o (o + vs.length)
  | [], w, o => Wrote.refl w B o _
  | v :: r, w, o => by
    have := Wrote.many B r (w.setCell ⟨B, o, none⟩ v) (o + 1)
    rw [World.setCells, List.length_cons, show o + (r.length + 1) = o + 1 + r.length by omega]
    exact (Wrote.one w B o v).trans this (by omega) (by omega)

theorem Wrote.le {g : Gh} {w w' : World} {B o1 o2 : Nat} (h : Wrote w w' B o1 o2) (hn : ∀ o, o1 ≤ o → o < o2 → ¬ g.imm B o) : Le g w g w' :=
  ⟨fun _ _ _ x => x, fun _ _ x => x, fun b o x => by
    by_cases hb : b = B
    · subst hb
      refine h.cell o (fun ⟨h1, h2⟩ => hn o h1 h2 x)
    · exact World.cell?_of_block (w := w) (h.block b hb)⟩
theorem Wrote.below {w w' : World} {B o1 o2 L : Nat} (h : Wrote w w' B o1 o2) (hL : L ≤ B) : Below L w w' := ⟨h.os, h.tape, h.output, Nat.le_of_eq h.size.symm, fun k hk => h.block k (by omega)⟩
theorem Wrote.out {w w' : World} {B o1 o2 : Nat} (h : Wrote w w' B o1 o2) {b : Nat} (hb : b ≠ B) (o : Nat) : w'.cell? ⟨b, o, none⟩ = w.cell? ⟨b, o, none⟩ := World.cell?_of_block (w := w) (h.block b hb)

theorem getElem?_set_id {α : Type} {l : List α} {i : Nat} {a b : α} (h : l[i]? = some a) : (l.set i b)[i]? = some b := by
  have := (List.getElem?_eq_some_iff.1 h).1
  simp [this]

/-- The elements of an object are written over. -/
theorem Hq.over {g : Gh} {w w' : World} {h : Hp} (q : Hq g w h) {id : Nat} {ob : Ob} {i : Inc} (h1 : h[id]? = some ob) (h2 : g.inc id ob.ver = some i) {o1 o2 : Nat}
    (hw : Wrote w w' i.blk o1 o2) (ho : o2 ≤ i.cap * ob.es) (hf : ob.frz = false) (xs : List D) (hx : xs.length = ob.xs.length) (hr : RowM g w' i.blk ob.es 0 xs) :
    Hq g w' (h.set id { ob with xs := xs, minv := ob.ver }) ∧ Ext g w h g w' (h.set id { ob with xs := xs, minv := ob.ver }) := by
  have k := q.obs id ob i h1 h2
  have hl : Le g w g w' := hw.le (fun o _ hlt => k.free hf o (by omega))
  have hid : id < h.length := (List.getElem?_eq_some_iff.1 h1).1
  have get : ∀ (j : Nat) (o : Ob), (h.set id { ob with xs := xs, minv := ob.ver })[j]? = some o → (j = id ∧ o = { ob with xs := xs, minv := ob.ver }) ∨ (j ≠ id ∧ h[j]? = some o) := by
    intro j o x
    by_cases e : j = id
    · subst e; rw [getElem?_set_id h1] at x; injection x with x; exact .inl ⟨rfl, x.symm⟩
    · rw [List.getElem?_set_ne (by omega)] at x; exact .inr ⟨e, x⟩
  refine ⟨⟨?_, ?_, ?_, ?_, q.apart, fun a v i x => by rw [hw.size]; exact q.old a v i x, fun b o x => by rw [hw.size]; exact q.imm b o x, by rw [hw.size]; exact q.lo⟩,
    ⟨hl, rfl, hw.below k.lo, fun b o x => .inl x, by simp, fun a ha hn => ?_⟩⟩
  · intro j o i' x y
    rcases get j o x with ⟨rfl, rfl⟩ | ⟨hne, x⟩
    · simp only at y
      rw [h2] at y; injection y with y; subst y
      obtain ⟨c, e, fr, hb, hc, hfr⟩ := k.blk
      obtain ⟨c', hb', hs⟩ := hw.form c e fr hb
      refine ⟨k.es, k.pos, by simpa [hx] using k.n, k.cap, k.lo, Nat.le_refl _, ⟨c', e, fr, hb', by rw [hs]; exact hc, hfr⟩, k.fix, k.tail, k.free, fun ver hv1 hv2 => ?_, fun ver k' hv1 hv2 hk' => by
        simp only at hv1 hv2
        have := k.mv
        exact k.los ver k' (by omega) hv2 hk'⟩
      simp only at hv1 hv2
      obtain rfl : ver = ob.ver := by omega
      refine ⟨i, h2, k.es, Nat.le_refl _, ?_⟩
      simp only
      rw [List.take_of_length_le (by rw [hx, ← k.n]; exact Nat.le_refl _)]
      exact hr
    · have hb := q.apart j id _ _ _ _ hne y h2
      exact (q.obs j o i' x y).keep hl rfl (hw.block _ hb) (fun _ z => z) (fun ver k' hk' => hw.out (q.apart j id _ _ _ _ hne hk' h2))
  · intro j o ver x y
    rcases get j o x with ⟨rfl, rfl⟩ | ⟨hne, x⟩
    · exact q.top _ ob ver h1 y
    · exact q.top j o ver x y
  · intro j o ver i' x y
    rcases get j o x with ⟨rfl, rfl⟩ | ⟨hne, x⟩
    · exact ⟨i, h2⟩
    · exact q.cur j o ver i' x y
  · intro j ver x; exact q.new j ver (by simpa using x)
  · refine ⟨?_, hn⟩
    rw [List.getElem?_set_ne (fun e => ?_)]
    subst e
    rw [hn] at h2; cases h2

/-- An object grows: in its place, or in a new block. -/
theorem Hq.more {g : Gh} {w w' : World} {h : Hp} (q : Hq g w h) {id : Nat} {ob : Ob} {i : Inc} (h1 : h[id]? = some ob) (h2 : g.inc id ob.ver = some i) (B cap : Nat) (ys : List D)
    (hcap : ob.xs.length + ys.length ≤ cap)
    (hw : (B = i.blk ∧ cap = i.cap ∧ Wrote w w' i.blk (i.n * ob.es) ((i.n + ys.length) * ob.es)) ∨ (w.heap.size ≤ B ∧ B < w'.heap.size ∧ Below w.heap.size w w' ∧ ∃ c e fr, w'.heap[B]? = some (.cells c e fr) ∧ cap * ob.es ≤ c.size ∧ ∀ o, o < cap * ob.es → ¬ (fr.1 ≤ o ∧ o < fr.2)))
    (hr : RowM g w' B ob.es 0 (ob.xs ++ ys)) (m : Nat) (hm : m = ob.minv ∨ m = ob.ver + 1) :
    let g' := g.addInc id (ob.ver + 1) ⟨ob.es, B, cap, ob.xs.length + ys.length⟩
    let h' := h.set id { ob with xs := ob.xs ++ ys, ver := ob.ver + 1, minv := m, fix := false }
    Hq g' w' h' ∧ Ext g w h g' w' h' := by
  intro g' h'
  have k := q.obs id ob i h1 h2
  have hn0 : g.inc id (ob.ver + 1) = none := q.top id ob _ h1 (Nat.lt_succ_self _)
  have hid : id < h.length := (List.getElem?_eq_some_iff.1 h1).1
  have hle : i.cap * ob.es ≤ i.cap * ob.es := Nat.le_refl _
  have hl0 : Le g w g w' := by
    rcases hw with ⟨rfl, rfl, hw⟩ | ⟨hB, hB', hb, _⟩
    · refine hw.le (fun o ho1 ho2 => k.tail o ho1 (Nat.lt_of_lt_of_le ho2 ?_))
      exact Nat.mul_le_mul_right _ (by rw [k.n]; exact hcap)
    · exact Le.of_below q.imm hb
  have inc0 : ∀ a v x, g.inc a v = some x → g'.inc a v = some x := by
    intro a v x hx
    show (if a = id ∧ v = ob.ver + 1 then some _ else g.inc a v) = some x
    rw [if_neg (by rintro ⟨rfl, rfl⟩; rw [hn0] at hx; cases hx)]; exact hx
  have hl : Le g w g' w' := ⟨inc0, fun _ _ x => x, hl0.cell⟩
  have here : g'.inc id (ob.ver + 1) = some ⟨ob.es, B, cap, ob.xs.length + ys.length⟩ := by show (if _ then _ else _) = _; rw [if_pos ⟨rfl, rfl⟩]
  have inc' : ∀ a v x, g'.inc a v = some x → (a = id ∧ v = ob.ver + 1 ∧ x = ⟨ob.es, B, cap, ob.xs.length + ys.length⟩) ∨ g.inc a v = some x := by
    intro a v x hx
    change (if a = id ∧ v = ob.ver + 1 then some _ else g.inc a v) = some x at hx
    split at hx
    · rename_i e; injection hx with hx; exact .inl ⟨e.1, e.2, hx.symm⟩
    · exact .inr hx
  have get : ∀ (j : Nat) (o : Ob), h'[j]? = some o → (j = id ∧ o = { ob with xs := ob.xs ++ ys, ver := ob.ver + 1, minv := m, fix := false }) ∨ (j ≠ id ∧ h[j]? = some o) := by
    intro j o x
    by_cases e : j = id
    · subst e; rw [getElem?_set_id h1] at x; injection x with x; exact .inl ⟨rfl, x.symm⟩
    · rw [List.getElem?_set_ne (by omega)] at x; exact .inr ⟨e, x⟩
  have hsize : w.heap.size ≤ w'.heap.size := by
    rcases hw with ⟨_, _, hw⟩ | ⟨_, _, hb, _⟩
    · exact Nat.le_of_eq hw.size.symm
    · exact hb.size
  have hBlt : B < w'.heap.size := by
    rcases hw with ⟨rfl, _, hw⟩ | ⟨_, hB', _⟩
    · rw [hw.size]; exact q.old _ _ _ h2
    · exact hB'
  have other : ∀ a v x, a ≠ id → g.inc a v = some x → x.blk ≠ B := by
    intro a v x hne hx
    rcases hw with ⟨rfl, _, _⟩ | ⟨hB, _⟩
    · exact q.apart _ _ _ _ _ _ hne hx h2
    · have := q.old _ _ _ hx; omega
  have cellOf : ∀ a v x, a ≠ id → g.inc a v = some x → ∀ o, w'.cell? ⟨x.blk, o, none⟩ = w.cell? ⟨x.blk, o, none⟩ := by
    intro a v x hne hx o
    rcases hw with ⟨rfl, _, hw⟩ | ⟨hB, _, hb, _⟩
    · exact hw.out (other a v x hne hx) o
    · exact cell_of_below hb (q.old _ _ _ hx) o
  have blkOf : ∀ a v x, a ≠ id → g.inc a v = some x → w'.heap[x.blk]? = w.heap[x.blk]? := by
    intro a v x hne hx
    rcases hw with ⟨rfl, _, hw⟩ | ⟨hB, _, hb, _⟩
    · exact hw.block _ (other a v x hne hx)
    · exact hb.block _ (q.old _ _ _ hx)
  have himB : ∀ o, w.heap.size ≤ B → ¬ g.imm B o := fun o hB x => by have := q.imm _ _ x; omega
  refine ⟨⟨?_, ?_, ?_, ?_, ?_, ?_, fun b o x => Nat.lt_of_lt_of_le (q.imm b o x) hsize, Nat.le_trans q.lo hsize⟩, ⟨hl, rfl, ?_, fun b o x => .inl x, by simp [h'], ?_⟩⟩
  · intro j o i' x y
    rcases get j o x with ⟨rfl, rfl⟩ | ⟨hne, x⟩
    · simp only at y
      rw [here] at y; injection y with y; subst y
      refine ⟨rfl, k.pos, by simp, hcap, ?_, ?_, ?_, (fun z => by cases z), ?_, ?_, ?_, fun ver k' hv1 hv2 hk' => ?_⟩
      · rcases hw with ⟨rfl, _, _⟩ | ⟨hB, _⟩
        · exact k.lo
        · exact Nat.le_trans q.lo hB
      · have := k.mv; simp only; omega
      · rcases hw with ⟨rfl, rfl, hw⟩ | ⟨_, _, _, hb⟩
        · obtain ⟨c, e, fr, hb, hc, hfr⟩ := k.blk
          obtain ⟨c', hb', hs⟩ := hw.form c e fr hb
          exact ⟨c', e, fr, hb', by rw [hs]; exact hc, hfr⟩
        · exact hb
      · intro o ho1 ho2
        rcases hw with ⟨rfl, rfl, hw⟩ | ⟨hB, _⟩
        · refine k.tail o (Nat.le_trans (Nat.mul_le_mul_right _ ?_) ho1) ho2
          rw [k.n]; exact Nat.le_add_right _ _
        · exact himB o hB
      · intro hf o ho
        rcases hw with ⟨rfl, rfl, hw⟩ | ⟨hB, _⟩
        · exact k.free hf o ho
        · exact himB o hB
      · intro ver hv1 hv2
        simp only at hv1 hv2
        by_cases e : ver = ob.ver + 1
        · subst e
          refine ⟨_, here, rfl, Nat.le_refl _, ?_⟩
          simp only
          rw [List.take_of_length_le (by simp)]
          exact RowM.keep (w := w') ⟨inc0, fun _ _ x => x, fun _ _ _ => rfl⟩ _ _ _ _ (fun _ _ => rfl) hr
        · have hv3 : ob.minv ≤ ver := by rcases hm with rfl | rfl <;> omega
          obtain ⟨k', hk', he, hn, hrow⟩ := k.incs ver hv3 (by omega)
          refine ⟨k', inc0 _ _ _ hk', he, ?_, ?_⟩
          · simp only; rw [k.n] at hn; omega
          · simp only
            rw [List.take_append_of_le_length (by rw [← k.n]; exact hn)]
            refine RowM.keep hl _ _ _ _ (fun o ho => ?_) hrow
            rcases hw with ⟨rfl, rfl, hw⟩ | ⟨hB, _, hb, _⟩
            · by_cases hbk : k'.blk = i.blk
              · rw [hbk]
                refine hw.cell _ (fun hc => ?_)
                simp only [List.length_take] at ho
                have : min k'.n ob.xs.length * ob.es ≤ i.n * ob.es := Nat.mul_le_mul_right _ (by omega)
                omega
              · exact hw.out hbk _
            · exact cell_of_below hb (q.old _ _ _ hk') _
      · simp only at hv1 hv2
        rcases inc' _ _ _ hk' with ⟨_, _, rfl⟩ | hk'
        · rcases hw with ⟨rfl, _, _⟩ | ⟨hB, _⟩
          · exact k.lo
          · exact Nat.le_trans q.lo hB
        · have hle2 : ver ≤ ob.ver := by
            rcases Nat.lt_or_ge ob.ver ver with h | h
            · rw [q.top _ ob ver h1 h] at hk'; cases hk'
            · exact h
          exact k.los ver k' (by rcases hm with rfl | rfl <;> omega) hle2 hk'
    · rcases inc' _ _ _ y with ⟨e, _⟩ | y
      · exact absurd e hne
      · exact (q.obs j o i' x y).keep hl rfl (blkOf _ _ _ hne y) (fun _ z => z) (fun ver k' hk' => cellOf j ver k' hne hk')
  · intro j o ver x y
    rcases get j o x with ⟨rfl, rfl⟩ | ⟨hne, x⟩
    · simp only at y
      show (if j = j ∧ ver = ob.ver + 1 then some _ else g.inc j ver) = none
      rw [if_neg (by omega)]; exact q.top _ ob ver h1 (by omega)
    · show (if j = id ∧ ver = ob.ver + 1 then some _ else g.inc j ver) = none
      rw [if_neg (by omega)]; exact q.top j o ver x y
  · intro j o ver i' x y
    rcases get j o x with ⟨rfl, rfl⟩ | ⟨hne, x⟩
    · exact ⟨_, here⟩
    · rcases inc' _ _ _ y with ⟨e, _⟩ | y
      · exact absurd e hne
      · obtain ⟨j', hj⟩ := q.cur j o ver i' x y
        exact ⟨j', inc0 _ _ _ hj⟩
  · intro j ver x
    have x' : h.length ≤ j := by simpa [h'] using x
    show (if j = id ∧ ver = ob.ver + 1 then some _ else g.inc j ver) = none
    rw [if_neg (by omega)]; exact q.new j ver x'
  · intro a a' v v' x x' hne hx hx'
    rcases inc' _ _ _ hx with ⟨e, _, rfl⟩ | hx <;> rcases inc' _ _ _ hx' with ⟨e', _, rfl⟩ | hx'
    · omega
    · exact fun z => other a' v' x' (by omega) hx' z.symm
    · exact other a v x (by omega) hx
    · exact q.apart _ _ _ _ _ _ hne hx hx'
  · intro a v x hx
    rcases inc' _ _ _ hx with ⟨_, _, rfl⟩ | hx
    · exact hBlt
    · exact Nat.lt_of_lt_of_le (q.old _ _ _ hx) hsize
  · rcases hw with ⟨rfl, _, hw⟩ | ⟨_, _, hb, _⟩
    · exact hw.below k.lo
    · exact hb.mono q.lo
  · intro a ha hn
    have hne : a ≠ id := fun e => by subst e; rw [hn] at h2; cases h2
    refine ⟨?_, fun ver => ?_⟩
    · show (h.set id _)[a]? = _
      rw [List.getElem?_set_ne (fun e => hne e.symm)]
    · show (if a = id ∧ ver = ob.ver + 1 then some _ else g.inc a ver) = none
      rw [if_neg (by omega)]; exact hn ver
end Go.Rex
