import Derived.Test.YtijnmnpigjadhabRexB
/- Rex, part C: how plain data stand in memory. -/
set_option linter.unusedVariables false
namespace Go.Rex

/-- Where a row stands: its block, for how many elements it has room, how many of them its views may see. -/
structure Inc where
  es : Nat
  blk : Nat
  cap : Nat
  n : Nat

structure Gh where
  inc : Nat → Nat → Option Inc
  imm : Nat → Nat → Prop
  lo : Nat

def At (w : World) (b o : Nat) (c : List Value) : Prop := ∀ j v, c[j]? = some v → w.cell? ⟨b, o + j, none⟩ = some v
def Im (g : Gh) (b o n : Nat) : Prop := ∀ j, j < n → g.imm b (o + j)

mutual
/-- The cells that a datum has in memory. -/
def Cs (g : Gh) (w : World) : D → List Value → Prop
  | .lit v, cs => cs = [v] ∧ v.oneCell' = true
  | .agg szs fs, cs => AggCs g w szs fs cs
  | .tup _, _ => False
  | .sl es xs tg, cs => ∃ b o sp cap, cs = [.slice (some ⟨b, o, sp⟩) xs.length cap] ∧ xs.length ≤ cap ∧ (tg = true → cap = xs.length) ∧ RowI g w b es o xs ∧ (xs ≠ [] → sp = none)
  | .pv d, cs => ∃ b o c, cs = [.pointer (some ⟨b, o, none⟩)] ∧ Cs g w d c ∧ At w b o c ∧ Im g b o c.length
  | .mo es id ver off len tg, cs => ∃ i cap, g.inc id ver = some i ∧ i.es = es ∧ cs = [.slice (some ⟨i.blk, off * es, none⟩) len cap] ∧ off + len ≤ i.n ∧ len ≤ cap ∧ cap = (if tg then len else i.cap - off)
  | .ptr id ver off path, cs => ∃ i, g.inc id ver = some i ∧ cs = [.pointer (some ⟨i.blk, off, none⟩)] ∧ (match path with | [] => off = 0 | j :: _ => j < i.n)
  | .fn f n caps, cs => ∃ ps vs, cs = [.func (.func f) ps.toArray vs.toArray] ∧ ps.length = n ∧ CapCs g w caps (ps ++ vs)
def AggCs (g : Gh) (w : World) : List Nat → List D → List Value → Prop
  | [], [], cs => cs = []
  | n :: szs, d :: ds, cs => ∃ c1 c2, cs = c1 ++ c2 ∧ Cs g w d c1 ∧ c1.length = n ∧ AggCs g w szs ds c2
  | _, _, _ => False
def RowI (g : Gh) (w : World) (b es : Nat) : Nat → List D → Prop
  | _, [] => True
  | o, d :: ds => (∃ c, Cs g w d c ∧ c.length = es ∧ At w b o c ∧ Im g b o es) ∧ RowI g w b es (o + es) ds
def CapCs (g : Gh) (w : World) : List D → List Value → Prop
  | [], vs => vs = []
  | d :: ds, vs => ∃ v r, vs = v :: r ∧ d.isPtr = true ∧ Cs g w d [v] ∧ CapCs g w ds r
end

def isAggD : D → Bool
  | .agg .. => true
  | _ => false
/-- A value that is no tuple. -/
def V1 (g : Gh) (w : World) (d : D) (v : Value) : Prop :=
  match d with
  | .agg szs fs => ∃ c, v = .agg c.toArray ∧ Cs g w (.agg szs fs) c
  | d => Cs g w d [v]
def VL (g : Gh) (w : World) : List D → List Value → Prop
  | [], vs => vs = []
  | d :: ds, vs => ∃ v r, vs = v :: r ∧ V1 g w d v ∧ VL g w ds r
def V (g : Gh) (w : World) (d : D) (v : Value) : Prop :=
  match d with
  | .tup ds => ∃ vs, v = .tuple vs.toArray ∧ VL g w ds vs
  | d => V1 g w d v

/-- The elements of a row, wherever they stand. -/
def RowM (g : Gh) (w : World) (b es : Nat) : Nat → List D → Prop
  | _, [] => True
  | o, d :: ds => (∃ c, Cs g w d c ∧ c.length = es ∧ At w b o c) ∧ RowM g w b es (o + es) ds

/-! ### More is known, nothing has turned -/
structure Le (g : Gh) (w : World) (g' : Gh) (w' : World) : Prop where
  inc : ∀ id ver i, g.inc id ver = some i → g'.inc id ver = some i
  imm : ∀ b o, g.imm b o → g'.imm b o
  cell : ∀ b o, g.imm b o → w'.cell? ⟨b, o, none⟩ = w.cell? ⟨b, o, none⟩

theorem Le.refl (g : Gh) (w : World) : Le g w g w := ⟨fun _ _ _ h => h, fun _ _ h => h, fun _ _ _ => rfl⟩
theorem Le.trans {g g1 g2 : Gh} {w w1 w2 : World} (h : Le g w g1 w1) (k : Le g1 w1 g2 w2) : Le g w g2 w2 :=
  ⟨fun _ _ _ x => k.inc _ _ _ (h.inc _ _ _ x), fun _ _ x => k.imm _ _ (h.imm _ _ x), fun _ _ x => (k.cell _ _ (h.imm _ _ x)).trans (h.cell _ _ x)⟩

theorem At.le {g g' : Gh} {w w' : World} (h : Le g w g' w') {b o : Nat} {c : List Value} (hi : Im g b o c.length) (ha : At w b o c) : At w' b o c := by
  intro j v hv
  have hj : j < c.length := (List.getElem?_eq_some_iff.1 hv).1
  rw [h.cell _ _ (hi j hj)]
  exact ha j v hv
theorem Im.le {g g' : Gh} {w w' : World} (h : Le g w g' w') {b o n : Nat} (hi : Im g b o n) : Im g' b o n := fun j hj => h.imm _ _ (hi j hj)

mutual
theorem Cs.le {g g' : Gh} {w w' : World} (h : Le g w g' w') : ∀ (d : D) (cs : List Value), Cs g w d cs → Cs g' w' d cs
  | .lit _, _, x => x
  | .agg szs fs, cs, x => AggCs.le h szs fs cs x
  | .tup _, _, x => x
  | .sl es xs tg, cs, ⟨b, o, sp, cap, h1, h2, h3, h4, h5⟩ => ⟨b, o, sp, cap, h1, h2, h3, RowI.le h b es o xs h4, h5⟩
  | .pv d, cs, ⟨b, o, c, h1, h2, h3, h4⟩ => ⟨b, o, c, h1, Cs.le h d c h2, h3.le h h4, h4.le h⟩
  | .mo .., cs, ⟨i, cap, h1, h2⟩ => ⟨i, cap, h.inc _ _ _ h1, h2⟩
  | .ptr .., cs, ⟨i, h1, h2⟩ => ⟨i, h.inc _ _ _ h1, h2⟩
  | .fn f n caps, cs, ⟨ps, vs, h1, hn, h2⟩ => ⟨ps, vs, h1, hn, CapCs.le h caps _ h2⟩
theorem AggCs.le {g g' : Gh} {w w' : World} (h : Le g w g' w') : ∀ (szs : List Nat) (ds : List D) (cs : List Value), AggCs g w szs ds cs → AggCs g' w' szs ds cs
  | [], [], _, x => x
  | n :: szs, d :: ds, cs, ⟨c1, c2, h1, h2, h3, h4⟩ => ⟨c1, c2, h1, Cs.le h d c1 h2, h3, AggCs.le h szs ds c2 h4⟩
  | [], _ :: _, _, x => x
  | _ :: _, [], _, x => x
theorem RowI.le {g g' : Gh} {w w' : World} (h : Le g w g' w') (b es : Nat) : ∀ (o : Nat) (ds : List D), RowI g w b es o ds → RowI g' w' b es o ds
  | _, [], _ => trivial
  | o, d :: ds, ⟨⟨c, h1, h2, h3, h4⟩, h5⟩ => ⟨⟨c, Cs.le h d c h1, h2, h3.le h (h2 ▸ h4), h4.le h⟩, RowI.le h b es (o + es) ds h5⟩
theorem CapCs.le {g g' : Gh} {w w' : World} (h : Le g w g' w') : ∀ (ds : List D) (vs : List Value), CapCs g w ds vs → CapCs g' w' ds vs
  | [], _, x => x
  | d :: ds, vs, ⟨v, r, h1, hp, h2, h3⟩ => ⟨v, r, h1, hp, Cs.le h d [v] h2, CapCs.le h ds r h3⟩
end

theorem V1.le {g g' : Gh} {w w' : World} (h : Le g w g' w') {d : D} {v : Value} (x : V1 g w d v) : V1 g' w' d v := by
  cases d <;> simp only [V1] at x ⊢ <;> first | exact Cs.le h _ _ x | (obtain ⟨c, rfl, hc⟩ := x; exact ⟨c, rfl, Cs.le h _ _ hc⟩)
theorem VL.le {g g' : Gh} {w w' : World} (h : Le g w g' w') : ∀ {ds : List D} {vs : List Value}, VL g w ds vs → VL g' w' ds vs
  | [], _, x => x
  | _ :: _, _, ⟨v, r, h1, h2, h3⟩ => ⟨v, r, h1, h2.le h, VL.le h h3⟩
theorem V.le {g g' : Gh} {w w' : World} (h : Le g w g' w') {d : D} {v : Value} (x : V g w d v) : V g' w' d v := by
  cases d with
  | tup ds => obtain ⟨vs, rfl, hv⟩ := x; exact ⟨vs, rfl, hv.le h⟩
  | _ => simp only [V] at x ⊢; exact V1.le h x

/-- A row's elements, where its cells haven't turned. -/
theorem RowM.keep {g g' : Gh} {w w' : World} (h : Le g w g' w') (b es : Nat) : ∀ (o : Nat) (ds : List D), (∀ j, j < ds.length * es → w'.cell? ⟨b, o + j, none⟩ = w.cell? ⟨b, o + j, none⟩) → RowM g w b es o ds → RowM g' w' b es o ds
  | _, [], _, _ => trivial
  | o, d :: ds, hc, ⟨⟨c, h1, h2, h3⟩, h4⟩ => by
    refine ⟨⟨c, Cs.le h d c h1, h2, fun j v hv => ?_⟩, RowM.keep h b es (o + es) ds (fun j hj => ?_) h4⟩
    · have hj : j < c.length := (List.getElem?_eq_some_iff.1 hv).1
      rw [hc j (by simp only [List.length_cons, Nat.succ_mul]; omega)]
      exact h3 j v hv
    · have := hc (es + j) (by simp only [List.length_cons, Nat.succ_mul]; omega)
      rwa [show o + es + j = o + (es + j) by omega]

/-! ### Sizes -/
mutual
theorem Cs.size {g : Gh} {w : World} : ∀ (d : D) (cs : List Value), Cs g w d cs → cs.length = d.sz
  | .lit _, _, ⟨h, _⟩ => by rw [h]; rfl
  | .agg szs fs, cs, x => AggCs.size szs fs cs x
  | .tup _, _, x => x.elim
  | .sl .., cs, ⟨_, _, _, _, h, _⟩ => by rw [h]; rfl
  | .pv _, cs, ⟨_, _, _, h, _⟩ => by rw [h]; rfl
  | .mo .., cs, ⟨_, _, _, _, h, _⟩ => by rw [h]; rfl
  | .ptr .., cs, ⟨_, _, h, _⟩ => by rw [h]; rfl
  | .fn .., cs, ⟨_, _, h, _⟩ => by rw [h]; rfl
theorem AggCs.size {g : Gh} {w : World} : ∀ (szs : List Nat) (ds : List D) (cs : List Value), AggCs g w szs ds cs → cs.length = sumN szs
  | [], [], _, x => by rw [x]; rfl
  | n :: szs, d :: ds, cs, ⟨c1, c2, h1, _, h3, h4⟩ => by rw [h1, List.length_append, h3, AggCs.size szs ds c2 h4]; rfl
  | [], _ :: _, _, x => x.elim
  | _ :: _, [], _, x => x.elim
end
theorem AggCs.lens {g : Gh} {w : World} : ∀ {szs : List Nat} {ds : List D} {cs : List Value}, AggCs g w szs ds cs → szs.length = ds.length
  | [], [], _, _ => rfl
  | _ :: _, _ :: _, _, ⟨_, _, _, _, _, h⟩ => by simp [h.lens]
  | [], _ :: _, _, x => x.elim
  | _ :: _, [], _, x => x.elim
-- Each cell is the value of one.
mutual
theorem Cs.one {g : Gh} {w : World} : ∀ (d : D) (cs : List Value), Cs g w d cs → ∀ v ∈ cs, v.oneCell' = true
  | .lit _, _, ⟨h, h1⟩ => by intro v hv; rw [h] at hv; simp at hv; rw [hv]; exact h1
  | .agg szs fs, cs, x => AggCs.one szs fs cs x
  | .tup _, _, x => x.elim
  | .sl .., cs, ⟨_, _, _, _, h, _⟩ => by intro v hv; rw [h] at hv; simp at hv; rw [hv]; rfl
  | .pv _, cs, ⟨_, _, _, h, _⟩ => by intro v hv; rw [h] at hv; simp at hv; rw [hv]; rfl
  | .mo .., cs, ⟨_, _, _, _, h, _⟩ => by intro v hv; rw [h] at hv; simp at hv; rw [hv]; rfl
  | .ptr .., cs, ⟨_, _, h, _⟩ => by intro v hv; rw [h] at hv; simp at hv; rw [hv]; rfl
  | .fn .., cs, ⟨_, _, h, _⟩ => by intro v hv; rw [h] at hv; simp at hv; rw [hv]; rfl
theorem AggCs.one {g : Gh} {w : World} : ∀ (szs : List Nat) (ds : List D) (cs : List Value), AggCs g w szs ds cs → ∀ v ∈ cs, v.oneCell' = true
  | [], [], _, x => by intro v hv; rw [x] at hv; cases hv
  | n :: szs, d :: ds, cs, ⟨c1, c2, h1, h2, _, h4⟩ => by
    intro v hv
    rw [h1, List.mem_append] at hv
    exact hv.elim (Cs.one d c1 h2 v) (AggCs.one szs ds c2 h4 v)
  | [], _ :: _, _, x => x.elim
  | _ :: _, [], _, x => x.elim
end
end Go.Rex
