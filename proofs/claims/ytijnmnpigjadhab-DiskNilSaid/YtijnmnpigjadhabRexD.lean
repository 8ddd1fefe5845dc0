import Derived.Test.YtijnmnpigjadhabRexC
/- Rex, part D: the objects in memory, and what operations do to them. -/
set_option linter.unusedVariables false
namespace Go.Rex
open Go.RowKit

/-- One object: it stands in its block, which nothing else uses. -/
structure ObOk (g : Gh) (w : World) (id : Nat) (ob : Ob) (i : Inc) : Prop where
  es : i.es = ob.es
  pos : 0 < ob.es
  n : i.n = ob.xs.length
  cap : i.n ≤ i.cap
  lo : g.lo ≤ i.blk
  mv : ob.minv ≤ ob.ver
  blk : ∃ c e fr, w.heap[i.blk]? = some (.cells c e fr) ∧ i.cap * ob.es ≤ c.size ∧ ∀ o, o < i.cap * ob.es → ¬ (fr.1 ≤ o ∧ o < fr.2)
  fix : ob.fix = true → i.cap = i.n
  tail : ∀ o, i.n * ob.es ≤ o → o < i.cap * ob.es → ¬ g.imm i.blk o
  free : ob.frz = false → ∀ o, o < i.cap * ob.es → ¬ g.imm i.blk o
  incs : ∀ ver, ob.minv ≤ ver → ver ≤ ob.ver → ∃ k, g.inc id ver = some k ∧ k.es = ob.es ∧ k.n ≤ i.n ∧ RowM g w k.blk ob.es 0 (ob.xs.take k.n)
  los : ∀ ver k, ob.minv ≤ ver → ver ≤ ob.ver → g.inc id ver = some k → g.lo ≤ k.blk

structure Hq (g : Gh) (w : World) (h : Hp) : Prop where
  obs : ∀ id ob i, h[id]? = some ob → g.inc id ob.ver = some i → ObOk g w id ob i
  top : ∀ id ob ver, h[id]? = some ob → ob.ver < ver → g.inc id ver = none
  cur : ∀ id ob ver i, h[id]? = some ob → g.inc id ver = some i → ∃ j, g.inc id ob.ver = some j
  new : ∀ id ver, h.length ≤ id → g.inc id ver = none
  apart : ∀ id id' ver ver' i i', id ≠ id' → g.inc id ver = some i → g.inc id' ver' = some i' → i.blk ≠ i'.blk
  old : ∀ id ver i, g.inc id ver = some i → i.blk < w.heap.size
  imm : ∀ b o, g.imm b o → b < w.heap.size
  lo : g.lo ≤ w.heap.size

/-- What a step may do. -/
structure Ext (g : Gh) (w : World) (h : Hp) (g' : Gh) (w' : World) (h' : Hp) : Prop where
  le : Le g w g' w'
  lo : g'.lo = g.lo
  below : Below g.lo w w'
  imm : ∀ b o, g'.imm b o → g.imm b o ∨ g.lo ≤ b
  len : h.length ≤ h'.length
  rest : ∀ id, id < h.length → (∀ ver, g.inc id ver = none) → h'[id]? = h[id]? ∧ ∀ ver, g'.inc id ver = none

theorem Ext.refl (g : Gh) (w : World) (h : Hp) : Ext g w h g w h := ⟨Le.refl _ _, rfl, Below.refl _ _, fun _ _ x => .inl x, Nat.le_refl _, fun _ _ x => ⟨rfl, x⟩⟩
theorem Ext.trans {g g1 g2 : Gh} {w w1 w2 : World} {h h1 h2 : Hp} (a : Ext g w h g1 w1 h1) (b : Ext g1 w1 h1 g2 w2 h2) : Ext g w h g2 w2 h2 :=
  ⟨a.le.trans b.le, b.lo.trans a.lo, a.below.trans (a.lo ▸ b.below), fun x o i => (b.imm x o i).elim (a.imm x o) (fun k => .inr (a.lo ▸ k)), Nat.le_trans a.len b.len, fun id hid hn => by
    obtain ⟨e1, n1⟩ := a.rest id hid hn
    obtain ⟨e2, n2⟩ := b.rest id (Nat.lt_of_lt_of_le hid a.len) n1
    exact ⟨e2.trans e1, n2⟩⟩

/-! ### The blocks that were there stand as they stood -/
theorem cell_of_below {B : Nat} {w w' : World} (hb : Below B w w') {b : Nat} (h : b < B) (o : Nat) : w'.cell? ⟨b, o, none⟩ = w.cell? ⟨b, o, none⟩ := hb.cell (p := ⟨b, o, none⟩) h
theorem Le.of_below {g : Gh} {w w' : World} (hi : ∀ b o, g.imm b o → b < w.heap.size) (hb : Below w.heap.size w w') : Le g w g w' :=
  ⟨fun _ _ _ h => h, fun _ _ h => h, fun b o h => cell_of_below hb (hi b o h) o⟩

/-- More cells that never change: new ones. -/
def Gh.addImm (g : Gh) (S : Nat → Nat → Prop) : Gh := { g with imm := fun b o => g.imm b o ∨ S b o }
/-- A new object. -/
def Gh.addInc (g : Gh) (id ver : Nat) (i : Inc) : Gh := { g with inc := fun a v => if a = id ∧ v = ver then some i else g.inc a v }

theorem ObOk.keep {g g' : Gh} {w w' : World} {id : Nat} {ob : Ob} {i : Inc} (h : ObOk g w id ob i) (hl : Le g w g' w') (hlo : g'.lo = g.lo)
    (hb : w'.heap[i.blk]? = w.heap[i.blk]?) (him : ∀ o, g'.imm i.blk o → g.imm i.blk o)
    (hcell : ∀ ver k, g.inc id ver = some k → ∀ o, w'.cell? ⟨k.blk, o, none⟩ = w.cell? ⟨k.blk, o, none⟩) : ObOk g' w' id ob i where
  es := h.es
  pos := h.pos
  n := h.n
  cap := h.cap
  lo := hlo ▸ h.lo
  mv := h.mv
  blk := by rw [hb]; exact h.blk
  fix := h.fix
  tail := fun o h1 h2 h3 => h.tail o h1 h2 (him o h3)
  free := fun hf o h1 h2 => h.free hf o h1 (him o h2)
  incs := fun ver h1 h2 => by
    obtain ⟨k, hk, he, hn, hr⟩ := h.incs ver h1 h2
    exact ⟨k, hl.inc _ _ _ hk, he, hn, RowM.keep hl _ _ _ _ (fun j _ => hcell ver k hk _) hr⟩
  los := fun ver k h1 h2 hk => by
    obtain ⟨k0, hk0, _⟩ := h.incs ver h1 h2
    rw [hl.inc _ _ _ hk0] at hk
    injection hk with hk; subst hk
    rw [hlo]; exact h.los ver k0 h1 h2 hk0

theorem Hq.grow {g : Gh} {w w' : World} {h : Hp} (q : Hq g w h) (hb : Below w.heap.size w w') (S : Nat → Nat → Prop) (hS : ∀ b o, S b o → w.heap.size ≤ b ∧ b < w'.heap.size) :
    Hq (g.addImm S) w' h ∧ Ext g w h (g.addImm S) w' h := by
  have hl : Le g w (g.addImm S) w' := ⟨fun _ _ _ x => x, fun _ _ x => .inl x, fun b o x => cell_of_below hb (q.imm b o x) o⟩
  refine ⟨⟨fun id ob i h1 h2 => ?_, q.top, q.cur, q.new, q.apart, fun id ver i x => Nat.lt_of_lt_of_le (q.old id ver i x) hb.size, fun b o x => ?_, Nat.le_trans q.lo hb.size⟩,
    ⟨hl, rfl, hb.mono q.lo, fun b o x => x.elim .inl (fun y => .inr (Nat.le_trans q.lo (hS b o y).1)), Nat.le_refl _, fun _ _ x => ⟨rfl, x⟩⟩⟩
  · have hlt := q.old id _ i h2
    refine (q.obs id ob i h1 h2).keep hl rfl (hb.block _ hlt) (fun o x => x.elim _root_.id (fun y => absurd (hS _ _ y).1 (by omega))) (fun ver k hk o => cell_of_below hb (q.old id ver k hk) o)
  · exact x.elim (fun y => Nat.lt_of_lt_of_le (q.imm b o y) hb.size) (fun y => (hS b o y).2)

theorem addImm_none (g : Gh) : g.addImm (fun _ _ => False) = g := by
  unfold Gh.addImm
  simp only [or_false]
theorem Hq.below {g : Gh} {w w' : World} {h : Hp} (q : Hq g w h) (hb : Below w.heap.size w w') : Hq g w' h ∧ Ext g w h g w' h := by
  have := q.grow hb (fun _ _ => False) (fun _ _ x => x.elim)
  rwa [addImm_none] at this

/-! ### A new object in a new block -/
theorem Hq.makeF {g : Gh} {w w' : World} {h : Hp} (q : Hq g w h) (hb : Below w.heap.size w w') (B : Nat) (hB : w.heap.size ≤ B) (hB' : B < w'.heap.size) (es cap : Nat) (xs : List D) (hes : 0 < es) (fz fx : Bool) (hfx : fx = true → cap = xs.length)
    (hblk : ∃ c e fr, w'.heap[B]? = some (.cells c e fr) ∧ cap * es ≤ c.size ∧ ∀ o, o < cap * es → ¬ (fr.1 ≤ o ∧ o < fr.2)) (hcap : xs.length ≤ cap)
    (hrow : RowM g w' B es 0 xs) :
    let g' := g.addInc h.length 0 ⟨es, B, cap, xs.length⟩
    Hq g' w' (h ++ [⟨es, xs, 0, 0, fz, fx⟩]) ∧ Ext g w h g' w' (h ++ [⟨es, xs, 0, 0, fz, fx⟩]) := by
  intro g'
  have hnone : ∀ ver, g.inc h.length ver = none := fun ver => q.new _ _ (Nat.le_refl _)
  have hl : Le g w g' w' := ⟨fun id ver i x => by
      show (if id = h.length ∧ ver = 0 then some _ else g.inc id ver) = some i
      rw [if_neg (by rintro ⟨rfl, _⟩; rw [hnone] at x; cases x)]; exact x, fun _ _ x => x, fun b o x => cell_of_below hb (q.imm b o x) o⟩
  have inc' : ∀ id ver i, g'.inc id ver = some i → (id = h.length ∧ ver = 0 ∧ i = ⟨es, B, cap, xs.length⟩) ∨ g.inc id ver = some i := by
    intro id ver i x
    change (if id = h.length ∧ ver = 0 then some _ else g.inc id ver) = some i at x
    split at x
    · rename_i e; injection x with x; exact .inl ⟨e.1, e.2, x.symm⟩
    · exact .inr x
  have here : g'.inc h.length 0 = some ⟨es, B, cap, xs.length⟩ := by show (if _ then _ else _) = _; rw [if_pos ⟨rfl, rfl⟩]
  have hbB : ∀ id ver i, g.inc id ver = some i → i.blk ≠ B := fun id ver i x => by have := q.old id ver i x; omega
  have imB : ∀ o, ¬ g.imm B o := fun o x => by have := q.imm _ _ x; omega
  have get : ∀ (id : Nat) (ob : Ob), (h ++ [⟨es, xs, 0, 0, fz, fx⟩])[id]? = some ob → (id < h.length ∧ h[id]? = some ob) ∨ (id = h.length ∧ ob = ⟨es, xs, 0, 0, fz, fx⟩) := by
    intro id ob x
    by_cases hid : id < h.length
    · rw [List.getElem?_append_left hid] at x; exact .inl ⟨hid, x⟩
    · rw [List.getElem?_append_right (by omega)] at x
      have hlt := (List.getElem?_eq_some_iff.1 x).1
      simp at hlt
      have : id = h.length := by omega
      subst this
      simp at x
      exact .inr ⟨rfl, x.symm⟩
  refine ⟨⟨?_, ?_, ?_, ?_, ?_, ?_, ?_, Nat.le_trans q.lo hb.size⟩, ⟨hl, rfl, hb.mono q.lo, fun b o x => .inl x, by simp, ?_⟩⟩
  · intro id ob i h1 h2
    rcases get id ob h1 with ⟨hid, h1⟩ | ⟨rfl, rfl⟩
    · rcases inc' _ _ _ h2 with ⟨e, _⟩ | h2
      · omega
      · have hlt := q.old id _ i h2
        exact (q.obs id ob i h1 h2).keep hl rfl (hb.block _ hlt) (fun o x => x) (fun ver k hk o => cell_of_below hb (q.old id ver k hk) o)
    · rcases inc' _ _ _ h2 with ⟨_, _, rfl⟩ | h2
      · refine ⟨rfl, hes, rfl, hcap, Nat.le_trans q.lo hB, Nat.le_refl _, hblk, hfx, fun o _ _ => imB o, fun _ o _ => imB o, fun ver _ hv => ?_, fun ver k _ _ hk => by
          rcases inc' _ _ _ hk with ⟨_, _, rfl⟩ | hk
          · exact Nat.le_trans q.lo hB
          · rw [hnone] at hk; cases hk⟩
        obtain rfl : ver = 0 := by simpa using hv
        refine ⟨_, here, rfl, Nat.le_refl _, ?_⟩
        simp only [List.take_length]
        exact RowM.keep (w := w') ⟨hl.inc, fun _ _ x => x, fun _ _ _ => rfl⟩ _ _ _ _ (fun _ _ => rfl) hrow
      · rw [hnone] at h2; cases h2
  · intro id ob ver h1 h2
    rcases get id ob h1 with ⟨hid, h1⟩ | ⟨rfl, rfl⟩
    · show (if id = h.length ∧ ver = 0 then some _ else g.inc id ver) = none
      rw [if_neg (by omega)]; exact q.top id ob ver h1 h2
    · show (if h.length = h.length ∧ ver = 0 then some _ else g.inc h.length ver) = none
      simp only at h2
      rw [if_neg (by omega)]; exact hnone ver
  · intro id ob ver i h1 h2
    rcases get id ob h1 with ⟨hid, h1⟩ | ⟨rfl, rfl⟩
    · rcases inc' _ _ _ h2 with ⟨e, _⟩ | h2
      · omega
      · obtain ⟨j, hj⟩ := q.cur id ob ver i h1 h2
        exact ⟨j, hl.inc _ _ _ hj⟩
    · exact ⟨_, here⟩
  · intro id ver hid
    show (if id = h.length ∧ ver = 0 then some _ else g.inc id ver) = none
    simp at hid
    rw [if_neg (by omega)]
    exact q.new id ver (by omega)
  · intro id id' ver ver' i i' hne h1 h2
    rcases inc' _ _ _ h1 with ⟨e1, _, rfl⟩ | h1 <;> rcases inc' _ _ _ h2 with ⟨e2, _, rfl⟩ | h2
    · omega
    · exact fun e => hbB _ _ _ h2 e.symm
    · exact hbB _ _ _ h1
    · exact q.apart _ _ _ _ _ _ hne h1 h2
  · intro id ver i h1
    rcases inc' _ _ _ h1 with ⟨_, _, rfl⟩ | h1
    · exact hB'
    · exact Nat.lt_of_lt_of_le (q.old _ _ _ h1) hb.size
  · exact fun b o x => Nat.lt_of_lt_of_le (q.imm b o x) hb.size
  · intro id hid hn
    refine ⟨?_, fun ver => ?_⟩
    · rw [List.getElem?_append_left hid]
    · show (if id = h.length ∧ ver = 0 then some _ else g.inc id ver) = none
      rw [if_neg (by omega)]; exact hn ver
theorem Hq.make {g : Gh} {w w' : World} {h : Hp} (q : Hq g w h) (hb : Below w.heap.size w w') (B : Nat) (hB : w.heap.size ≤ B) (hB' : B < w'.heap.size) (es cap : Nat) (xs : List D) (hes : 0 < es)
    (hblk : ∃ c e fr, w'.heap[B]? = some (.cells c e fr) ∧ cap * es ≤ c.size ∧ ∀ o, o < cap * es → ¬ (fr.1 ≤ o ∧ o < fr.2)) (hcap : xs.length ≤ cap)
    (hrow : RowM g w' B es 0 xs) :
    let g' := g.addInc h.length 0 ⟨es, B, cap, xs.length⟩
    Hq g' w' (newOb h es xs) ∧ Ext g w h g' w' (newOb h es xs) :=
  q.makeF hb B hB hB' es cap xs hes false false (fun e => by cases e) hblk hcap hrow
end Go.Rex
