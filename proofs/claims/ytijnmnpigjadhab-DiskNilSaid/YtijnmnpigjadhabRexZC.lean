import Derived.Test.YtijnmnpigjadhabRexZB
/- Rex, part ZC: what a told object becomes; an object that is handed over. -/
set_option linter.unusedVariables false
set_option linter.unusedSimpArgs false
namespace Go.Rex
open Go.RowKit Go.Lib

section
variable {g gt : Gh} {w : World}

-- What a value leads to is there.
mutual
theorem ids_inc : ∀ (d : D) (cs : List Value), Cs g w d cs → ∀ i ∈ D.ids d, ∃ ver k, g.inc i ver = some k
  | .lit _, _, _, i, hi => by simp [D.ids] at hi
  | .agg szs fs, cs, x, i, hi => ids_inc_agg szs fs cs x i (by simpa [D.ids] using hi)
  | .tup _, _, x, _, _ => x.elim
  | .sl es xs tg, cs, ⟨b, o, sp, cap, h1, h2, h3, h4, _⟩, i, hi => ids_inc_row b es o xs h4 i (by simpa [D.ids] using hi)
  | .pv d, cs, ⟨b, o, c, h1, h2, h3, h4⟩, i, hi => ids_inc d c h2 i (by simpa [D.ids] using hi)
  | .mo .., cs, ⟨k, cap, h1, _⟩, i, hi => by simp [D.ids] at hi; subst hi; exact ⟨_, k, h1⟩
  | .ptr .., cs, ⟨k, h1, _⟩, i, hi => by simp [D.ids] at hi; subst hi; exact ⟨_, k, h1⟩
  | .fn f n caps, cs, ⟨ps, vs, h1, hn, h2⟩, i, hi => ids_inc_cap caps _ h2 i (by simpa [D.ids] using hi)
theorem ids_inc_agg : ∀ (szs : List Nat) (ds : List D) (cs : List Value), AggCs g w szs ds cs → ∀ i ∈ idsL ds, ∃ ver k, g.inc i ver = some k
  | [], [], _, _, i, hi => by simp [idsL] at hi
  | n :: szs, d :: ds, cs, ⟨c1, c2, h1, h2, h3, h4⟩, i, hi => by
    simp only [idsL, List.mem_append] at hi
    exact hi.elim (ids_inc d c1 h2 i) (ids_inc_agg szs ds c2 h4 i)
  | [], _ :: _, _, x, _, _ => x.elim
  | _ :: _, [], _, x, _, _ => x.elim
theorem ids_inc_row (b es : Nat) : ∀ (o : Nat) (ds : List D), RowI g w b es o ds → ∀ i ∈ idsL ds, ∃ ver k, g.inc i ver = some k
  | _, [], _, i, hi => by simp [idsL] at hi
  | o, d :: ds, ⟨⟨c, h1, _⟩, h5⟩, i, hi => by
    simp only [idsL, List.mem_append] at hi
    exact hi.elim (ids_inc d c h1 i) (ids_inc_row b es (o + es) ds h5 i)
theorem ids_inc_cap : ∀ (ds : List D) (vs : List Value), CapCs g w ds vs → ∀ i ∈ idsL ds, ∃ ver k, g.inc i ver = some k
  | [], _, _, i, hi => by simp [idsL] at hi
  | d :: ds, vs, ⟨v, r, h1, hp, h2, h3⟩, i, hi => by
    simp only [idsL, List.mem_append] at hi
    exact hi.elim (ids_inc d [v] h2 i) (ids_inc_cap ds r h3 i)
end
theorem ids_inc_rowM {b es : Nat} : ∀ {o : Nat} {ds : List D}, RowM g w b es o ds → ∀ i ∈ idsL ds, ∃ ver k, g.inc i ver = some k
  | _, [], _, i, hi => by simp [idsL] at hi
  | o, d :: ds, ⟨⟨c, h1, _⟩, h5⟩, i, hi => by
    simp only [idsL, List.mem_append] at hi
    exact hi.elim (ids_inc d c h1 i) (ids_inc_rowM h5 i)
theorem ids_inc_VL : ∀ {ds : List D} {vs : List Value}, VL g w ds vs → ∀ i ∈ idsL ds, ∃ ver k, g.inc i ver = some k
  | [], _, _, i, hi => by simp [idsL] at hi
  | d :: ds, vs, ⟨v, r, _, h1, h2⟩, i, hi => by
    simp only [idsL, List.mem_append] at hi
    refine hi.elim (fun hi => ?_) (ids_inc_VL h2 i)
    obtain ⟨c, hc, _⟩ := h1.cells
    exact ids_inc d c hc i hi
theorem ids_inc_V {d : D} {v : Value} (h : V g w d v) : ∀ i ∈ D.ids d, ∃ ver k, g.inc i ver = some k := by
  by_cases ht : ∃ l, d = .tup l
  · obtain ⟨l, rfl⟩ := ht
    obtain ⟨vs, _, hv⟩ := h
    intro i hi
    exact ids_inc_VL hv i (by simpa [D.ids] using hi)
  · obtain ⟨c, hc, _⟩ := (h.v1 (fun l e => ht ⟨l, e⟩)).cells
    exact ids_inc d c hc
theorem reach_inc {h : Hp} (q : Hq g w h) : ∀ (n : Nat) (L : List D), (∀ i ∈ idsL L, ∃ ver k, g.inc i ver = some k) → ∀ i ∈ reach h n L, ∃ ver k, g.inc i ver = some k
  | 0, L, _, i, hi => by simp [reach] at hi
  | n + 1, L, hL, i, hi => by
    rw [reach, List.mem_append, List.mem_flatMap] at hi
    rcases hi with hi | ⟨j, hj, hi⟩
    · exact hL i hi
    · split at hi
      · rename_i ob ho
        obtain ⟨ver, k, hk⟩ := hL j hj
        obtain ⟨c, hc⟩ := q.cur j ob ver k ho hk
        have ok := q.obs j ob c ho hc
        obtain ⟨k', hk', _, _, hr⟩ := ok.incs ob.ver ok.mv (Nat.le_refl _)
        rw [hc] at hk'; injection hk' with hk'; subst hk'
        rw [List.take_of_length_le (by rw [ok.n]; exact Nat.le_refl _)] at hr
        exact reach_inc q n ob.xs (ids_inc_rowM hr) i hi
      · cases hi

/-! ### Freezing -/
theorem frzGo_get (l : List Nat) : ∀ (h : Hp) (k i : Nat), (frzGo l k h)[i]? = (h[i]?).map fun ob => if l.contains (k + i) then { ob with frz := true } else ob
  | [], k, i => by simp [frzGo]
  | ob :: h, k, 0 => by simp [frzGo]
  | ob :: h, k, i + 1 => by
    simp only [frzGo, List.getElem?_cons_succ]
    rw [frzGo_get l h (k + 1) i, show k + 1 + i = k + (i + 1) by omega]
theorem frzIds_get (h : Hp) (l : List Nat) (i : Nat) : (frzIds h l)[i]? = (h[i]?).map fun ob => if l.contains i then { ob with frz := true } else ob := by
  unfold frzIds
  rw [frzGo_get, Nat.zero_add]
theorem frzIds_length (h : Hp) (l : List Nat) : (frzIds h l).length = h.length := by
  have : ∀ (h : Hp) (k : Nat), (frzGo l k h).length = h.length := by
    intro h
    induction h with
    | nil => intro k; rfl
    | cons ob h ih => intro k; simp [frzGo, ih]
  exact this h 0

/-- The cells of these objects' rows. -/
def Told (g : Gh) (h : Hp) (R : List Nat) (b o : Nat) : Prop := ∃ id, id ∈ R ∧ ∃ ob ver k, h[id]? = some ob ∧ ob.minv ≤ ver ∧ ver ≤ ob.ver ∧ g.inc id ver = some k ∧ b = k.blk ∧ o < k.n * k.es
theorem Hq.freeze {h : Hp} (q : Hq g w h) {R : List Nat} (hR : ∀ i ∈ R, ∃ ver k, g.inc i ver = some k) : Hq (g.addImm (Told g h R)) w (frzIds h R) ∧ Ext g w h (g.addImm (Told g h R)) w (frzIds h R) := by
  have hl : Le g w (g.addImm (Told g h R)) w := ⟨fun _ _ _ x => x, fun _ _ x => .inl x, fun _ _ _ => rfl⟩
  have get : ∀ (id : Nat) (ob : Ob), (frzIds h R)[id]? = some ob → ∃ o0, h[id]? = some o0 ∧ ob.es = o0.es ∧ ob.xs = o0.xs ∧ ob.ver = o0.ver ∧ ob.minv = o0.minv ∧ ob.fix = o0.fix ∧ (ob.frz = false → o0.frz = false ∧ id ∉ R) := by
    intro id ob x
    rw [frzIds_get, Option.map_eq_some_iff] at x
    obtain ⟨o0, h0, rfl⟩ := x
    refine ⟨o0, h0, ?_⟩
    split
    · exact ⟨rfl, rfl, rfl, rfl, rfl, fun e => by cases e⟩
    · rename_i hc
      exact ⟨rfl, rfl, rfl, rfl, rfl, fun e => ⟨e, by simpa using hc⟩⟩
  have told : ∀ id ob i o, h[id]? = some ob → g.inc id ob.ver = some i → Told g h R i.blk o → id ∈ R ∧ o < i.n * ob.es := by
    rintro id ob i o h1 h2 ⟨id2, hid2, ob2, ver, k, k1, k2, k3, k4, k5, k6⟩
    have : id2 = id := by
      by_cases e : id2 = id
      · exact e
      · exact absurd k5.symm (q.apart id2 id _ _ _ _ e k4 h2)
    subst this
    rw [h1] at k1; injection k1 with k1; subst k1
    obtain ⟨k', hk', e1, e2, _⟩ := (q.obs _ ob i h1 h2).incs ver k2 k3
    rw [k4] at hk'; injection hk' with hk'; subst hk'
    refine ⟨hid2, Nat.lt_of_lt_of_le k6 ?_⟩
    rw [e1]; exact Nat.mul_le_mul_right _ e2
  refine ⟨⟨?_, ?_, ?_, ?_, q.apart, q.old, ?_, q.lo⟩, ⟨hl, rfl, Below.refl _ _, ?_, by rw [frzIds_length]; exact Nat.le_refl _, ?_⟩⟩
  · intro id ob i h1 h2
    obtain ⟨o0, g0, e1, e2, e3, e4, e5, e6⟩ := get id ob h1
    rw [e3] at h2
    have ok := q.obs id o0 i g0 h2
    refine ⟨by rw [e1]; exact ok.es, by rw [e1]; exact ok.pos, by rw [e2]; exact ok.n, ok.cap, ok.lo, by rw [e3, e4]; exact ok.mv, by rw [e1]; exact ok.blk, by rw [e5]; exact ok.fix, ?_, ?_, ?_, ?_⟩
    · intro o h3 h4 h5
      rw [e1] at h3 h4
      rcases h5 with h5 | h5
      · exact ok.tail o h3 h4 h5
      · have := (told id o0 i o g0 h2 h5).2; omega
    · intro hf o h3 h5
      obtain ⟨f1, f2⟩ := e6 hf
      rw [e1] at h3
      rcases h5 with h5 | h5
      · exact ok.free f1 o h3 h5
      · exact f2 (told id o0 i o g0 h2 h5).1
    · intro ver h3 h4
      rw [e4] at h3; rw [e3] at h4
      obtain ⟨k, hk, k1, k2, k3⟩ := ok.incs ver h3 h4
      exact ⟨k, hk, by rw [e1]; exact k1, k2, by rw [e1, e2]; exact RowM.keep hl _ _ _ _ (fun _ _ => rfl) k3⟩
    · intro ver k h3 h4 hk
      rw [e4] at h3; rw [e3] at h4
      exact ok.los ver k h3 h4 hk
  · intro id ob ver h1 h2
    obtain ⟨o0, g0, _, _, e3, _⟩ := get id ob h1
    rw [e3] at h2; exact q.top id o0 ver g0 h2
  · intro id ob ver i h1 h2
    obtain ⟨o0, g0, _, _, e3, _⟩ := get id ob h1
    rw [e3]; exact q.cur id o0 ver i g0 h2
  · intro id ver h1
    rw [frzIds_length] at h1
    exact q.new id ver h1
  · rintro b o (x | ⟨_, _, _, _, k, _, _, _, k4, k5, _⟩)
    · exact q.imm b o x
    · rw [k5]; exact q.old _ _ _ k4
  · rintro b o (x | ⟨id, _, ob, ver, k, k1, k2, k3, k4, k5, _⟩)
    · exact .inl x
    · obtain ⟨i, hi⟩ := q.cur id ob ver k k1 k4
      rw [k5]; exact .inr ((q.obs id ob i k1 hi).los ver k k2 k3 k4)
  · intro id hid hn
    refine ⟨?_, hn⟩
    rw [frzIds_get]
    have : R.contains id = false := by
      cases hc : R.contains id with
      | false => rfl
      | true =>
        obtain ⟨ver, k, hk⟩ := hR id (by simpa using hc)
        rw [hn] at hk; cases hk
    have hm : id ∉ R := by simpa using this
    cases h[id]? <;> simp [hm]

/-- A row that is there becomes an object. -/
theorem Hq.take {h : Hp} (q : Hq g w h) (B es cap : Nat) (xs : List D) (hes : 0 < es) (fz : Bool) (hB : B < w.heap.size) (hlo : g.lo ≤ B) (hap : ∀ id ver i, g.inc id ver = some i → i.blk ≠ B)
    (hblk : ∃ c e fr, w.heap[B]? = some (.cells c e fr) ∧ cap * es ≤ c.size ∧ ∀ o, o < cap * es → ¬ (fr.1 ≤ o ∧ o < fr.2)) (hcap : xs.length ≤ cap)
    (htail : ∀ o, xs.length * es ≤ o → o < cap * es → ¬ g.imm B o) (hfree : fz = false → ∀ o, o < cap * es → ¬ g.imm B o) (hrow : RowM g w B es 0 xs) :
    let g' := g.addInc h.length 0 ⟨es, B, cap, xs.length⟩
    Hq g' w (h ++ [⟨es, xs, 0, 0, fz, false⟩]) ∧ Ext g w h g' w (h ++ [⟨es, xs, 0, 0, fz, false⟩]) := by
  intro g'
  have hnone : ∀ ver, g.inc h.length ver = none := fun ver => q.new _ _ (Nat.le_refl _)
  have hl : Le g w g' w := ⟨fun id ver i x => by
      show (if id = h.length ∧ ver = 0 then some _ else g.inc id ver) = some i
      rw [if_neg (by rintro ⟨rfl, _⟩; rw [hnone] at x; cases x)]; exact x, fun _ _ x => x, fun _ _ _ => rfl⟩
  have inc' : ∀ id ver i, g'.inc id ver = some i → (id = h.length ∧ ver = 0 ∧ i = ⟨es, B, cap, xs.length⟩) ∨ g.inc id ver = some i := by
    intro id ver i x
    change (if id = h.length ∧ ver = 0 then some _ else g.inc id ver) = some i at x
    split at x
    · rename_i e; injection x with x; exact .inl ⟨e.1, e.2, x.symm⟩
    · exact .inr x
  have here : g'.inc h.length 0 = some ⟨es, B, cap, xs.length⟩ := by show (if _ then _ else _) = _; rw [if_pos ⟨rfl, rfl⟩]
  have get : ∀ (id : Nat) (ob : Ob), (h ++ [⟨es, xs, 0, 0, fz, false⟩])[id]? = some ob → (id < h.length ∧ h[id]? = some ob) ∨ (id = h.length ∧ ob = ⟨es, xs, 0, 0, fz, false⟩) := by
    intro id ob x
    by_cases hid : id < h.length
    · rw [List.getElem?_append_left hid] at x; exact .inl ⟨hid, x⟩
    · rw [List.getElem?_append_right (by omega)] at x
      have hlt := (List.getElem?_eq_some_iff.1 x).1
      simp at hlt
      have : id = h.length := by omega
      subst this
      simp at x
      exact .inr ⟨rfl, x.symm⟩
  refine ⟨⟨?_, ?_, ?_, ?_, ?_, ?_, q.imm, q.lo⟩, ⟨hl, rfl, Below.refl _ _, fun b o x => .inl x, by simp, ?_⟩⟩
  · intro id ob i h1 h2
    rcases get id ob h1 with ⟨hid, h1⟩ | ⟨rfl, rfl⟩
    · rcases inc' _ _ _ h2 with ⟨e, _⟩ | h2
      · omega
      · exact (q.obs id ob i h1 h2).keep hl rfl rfl (fun o x => x) (fun _ _ _ _ => rfl)
    · rcases inc' _ _ _ h2 with ⟨_, _, rfl⟩ | h2
      · refine ⟨rfl, hes, rfl, hcap, hlo, Nat.le_refl _, hblk, (fun e => by cases e), htail, hfree, fun ver _ hv => ?_, fun ver k _ _ hk => ?_⟩
        · obtain rfl : ver = 0 := by simpa using hv
          refine ⟨_, here, rfl, Nat.le_refl _, ?_⟩
          simp only [List.take_length]
          exact RowM.keep hl _ _ _ _ (fun _ _ => rfl) hrow
        · rcases inc' _ _ _ hk with ⟨_, _, rfl⟩ | hk
          · exact hlo
          · rw [hnone] at hk; cases hk
      · rw [hnone] at h2; cases h2
  · intro id ob ver h1 h2
    rcases get id ob h1 with ⟨hid, h1⟩ | ⟨rfl, rfl⟩
    · show (if id = h.length ∧ ver = 0 then some _ else g.inc id ver) = none
      rw [if_neg (by omega)]; exact q.top id ob ver h1 h2
    · show (if h.length = h.length ∧ ver = 0 then some _ else g.inc h.length ver) = none
      simp only at h2
      rw [if_neg (by omega)]; exact hnone ver
  · intro id ob ver i h1 h2
    rcases get id ob h1 with ⟨hid, h1⟩ | ⟨rfl, rfl⟩
    · rcases inc' _ _ _ h2 with ⟨e, _⟩ | h2
      · omega
      · obtain ⟨j, hj⟩ := q.cur id ob ver i h1 h2
        exact ⟨j, hl.inc _ _ _ hj⟩
    · exact ⟨_, here⟩
  · intro id ver hid
    show (if id = h.length ∧ ver = 0 then some _ else g.inc id ver) = none
    simp at hid
    rw [if_neg (by omega)]
    exact q.new id ver (by omega)
  · intro id id' ver ver' i i' hne h1 h2
    rcases inc' _ _ _ h1 with ⟨e1, _, rfl⟩ | h1 <;> rcases inc' _ _ _ h2 with ⟨e2, _, rfl⟩ | h2
    · omega
    · exact fun e => hap _ _ _ h2 e.symm
    · exact hap _ _ _ h1
    · exact q.apart _ _ _ _ _ _ hne h1 h2
  · intro id ver i h1
    rcases inc' _ _ _ h1 with ⟨_, _, rfl⟩ | h1
    · exact hB
    · exact q.old _ _ _ h1
  · intro id hid hn
    refine ⟨?_, fun ver => ?_⟩
    · rw [List.getElem?_append_left hid]
    · show (if id = h.length ∧ ver = 0 then some _ else g.inc id ver) = none
      rw [if_neg (by omega)]; exact hn ver
end
end Go.Rex
