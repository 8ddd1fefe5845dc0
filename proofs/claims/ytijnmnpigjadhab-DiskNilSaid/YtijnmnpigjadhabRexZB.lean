import Derived.Test.YtijnmnpigjadhabRexZA
/- Rex, part ZB: telling a value as it stands. -/
set_option linter.unusedVariables false
set_option linter.unusedSimpArgs false
namespace Go.Rex
open Go.RowKit Go.Lib

section
variable {g gt : Gh} {w : World}

-- What leads to no object is told by what never changes.
mutual
theorem Cs.flat (him : ∀ b o, g.imm b o → gt.imm b o) : ∀ (d : D) (cs : List Value), d.flat = true → Cs g w d cs → Cs gt w d cs
  | .lit _, _, _, x => x
  | .agg szs fs, cs, hf, x => AggCs.flat him szs fs cs (by simpa [D.flat] using hf) x
  | .tup _, _, _, x => x
  | .sl es xs tg, cs, hf, ⟨b, o, sp, cap, h1, h2, h3, h4, h5⟩ => ⟨b, o, sp, cap, h1, h2, h3, RowI.flat him b es o xs (by simpa [D.flat] using hf) h4, h5⟩
  | .pv d, cs, hf, ⟨b, o, c, h1, h2, h3, h4⟩ => ⟨b, o, c, h1, Cs.flat him d c (by simpa [D.flat] using hf) h2, h3, fun j hj => him _ _ (h4 j hj)⟩
  | .mo .., cs, hf, _ => by simp [D.flat] at hf
  | .ptr .., cs, hf, _ => by simp [D.flat] at hf
  | .fn f n caps, cs, hf, ⟨ps, vs, h1, hn, h2⟩ => ⟨ps, vs, h1, hn, CapCs.flat him caps _ (by simpa [D.flat] using hf) h2⟩
theorem AggCs.flat (him : ∀ b o, g.imm b o → gt.imm b o) : ∀ (szs : List Nat) (ds : List D) (cs : List Value), flatL ds = true → AggCs g w szs ds cs → AggCs gt w szs ds cs
  | [], [], _, _, x => x
  | n :: szs, d :: ds, cs, hf, ⟨c1, c2, h1, h2, h3, h4⟩ => by
    simp only [flatL, Bool.and_eq_true] at hf
    exact ⟨c1, c2, h1, Cs.flat him d c1 hf.1 h2, h3, AggCs.flat him szs ds c2 hf.2 h4⟩
  | [], _ :: _, _, _, x => x
  | _ :: _, [], _, _, x => x
theorem RowI.flat (him : ∀ b o, g.imm b o → gt.imm b o) (b es : Nat) : ∀ (o : Nat) (ds : List D), flatL ds = true → RowI g w b es o ds → RowI gt w b es o ds
  | _, [], _, _ => trivial
  | o, d :: ds, hf, ⟨⟨c, h1, h2, h3, h4⟩, h5⟩ => by
    simp only [flatL, Bool.and_eq_true] at hf
    exact ⟨⟨c, Cs.flat him d c hf.1 h1, h2, h3, fun j hj => him _ _ (h4 j hj)⟩, RowI.flat him b es (o + es) ds hf.2 h5⟩
theorem CapCs.flat (him : ∀ b o, g.imm b o → gt.imm b o) : ∀ (ds : List D) (vs : List Value), flatL ds = true → CapCs g w ds vs → CapCs gt w ds vs
  | [], _, _, x => x
  | d :: ds, vs, hf, ⟨v, r, h1, hp, h2, h3⟩ => by
    simp only [flatL, Bool.and_eq_true] at hf
    exact ⟨v, r, h1, hp, Cs.flat him d [v] hf.1 h2, CapCs.flat him ds r hf.2 h3⟩
end
theorem V1.flat (him : ∀ b o, g.imm b o → gt.imm b o) {d : D} {v : Value} (hf : d.flat = true) (x : V1 g w d v) : V1 gt w d v := by
  cases d <;> simp only [V1] at x ⊢ <;> first | exact Cs.flat him _ _ hf x | (obtain ⟨c, rfl, hc⟩ := x; exact ⟨c, rfl, Cs.flat him _ _ hf hc⟩)
theorem VL.flat (him : ∀ b o, g.imm b o → gt.imm b o) : ∀ {ds : List D} {vs : List Value}, flatL ds = true → VL g w ds vs → VL gt w ds vs
  | [], _, _, x => x
  | _ :: _, _, hf, ⟨v, r, h1, h2, h3⟩ => by
    simp only [flatL, Bool.and_eq_true] at hf
    exact ⟨v, r, h1, h2.flat him hf.1, VL.flat him hf.2 h3⟩
theorem V.flat (him : ∀ b o, g.imm b o → gt.imm b o) {d : D} {v : Value} (hf : d.flat = true) (x : V g w d v) : V gt w d v := by
  cases d with
  | tup ds => obtain ⟨vs, rfl, hv⟩ := x; exact ⟨vs, rfl, hv.flat him (by simpa [D.flat] using hf)⟩
  | _ => simp only [V] at x ⊢; exact V1.flat him hf x

def D.isNode : D → Bool
  | .mo .. => true
  | .ptr .. => true
  | _ => false
/-- What is put in the place of objects tells them. -/
def NodeOk (g gt : Gh) (w : World) (gf : D → Option D) (S : List Nat) : Prop :=
  ∀ x x' cs, (∀ i ∈ D.ids x, i ∈ S) → x.isNode = true → Cs g w x cs → gf x = some x' → Cs gt w x' cs ∧ (x.isPtr = true → x'.isPtr = true)

mutual
theorem mapIds_sound {gf : D → Option D} {S : List Nat} (him : ∀ b o, g.imm b o → gt.imm b o) (hn : NodeOk g gt w gf S) : ∀ (d d' : D) (cs : List Value), (∀ i ∈ D.ids d, i ∈ S) → Cs g w d cs → D.mapIds gf d = some d' → Cs gt w d' cs ∧ (d.isPtr = true → d'.isPtr = true)
  | .lit v, d', cs, _, x, h => by
    simp only [D.mapIds, Option.some.injEq] at h; subst h
    exact ⟨x, id⟩
  | .agg szs fs, d', cs, hi, x, h => by
    simp only [D.mapIds] at h
    split at h <;> (try contradiction)
    rename_i r hr
    injection h with h; subst h
    exact ⟨mapIds_agg him hn szs fs r cs (by simpa [D.ids] using hi) x hr, by simp [D.isPtr]⟩
  | .tup _, d', cs, _, x, h => x.elim
  | .sl es xs tg, d', cs, hi, ⟨b, o, sp, cap, h1, h2, h3, h4, h5⟩, h => by
    simp only [D.mapIds] at h
    split at h <;> (try contradiction)
    rename_i r hr
    injection h with h; subst h
    obtain ⟨k1, k2⟩ := mapIds_row him hn b es o xs r (by simpa [D.ids] using hi) h4 hr
    exact ⟨⟨b, o, sp, cap, by rw [k2]; exact h1, by rw [k2]; exact h2, by rw [k2]; exact h3, k1, fun hr => h5 (fun hx => hr (List.eq_nil_of_length_eq_zero (by rw [k2, hx]; rfl)))⟩, by simp [D.isPtr]⟩
  | .pv d, d', cs, hi, ⟨b, o, c, h1, h2, h3, h4⟩, h => by
    simp only [D.mapIds] at h
    split at h <;> (try contradiction)
    rename_i r hr
    injection h with h; subst h
    obtain ⟨k1, _⟩ := mapIds_sound him hn d r c (by simpa [D.ids] using hi) h2 hr
    exact ⟨⟨b, o, c, h1, k1, h3, fun j hj => him _ _ (h4 j hj)⟩, by simp [D.isPtr]⟩
  | .mo .., d', cs, hi, x, h => by
    simp only [D.mapIds] at h
    exact hn _ _ _ hi rfl x h
  | .ptr .., d', cs, hi, x, h => by
    simp only [D.mapIds] at h
    exact hn _ _ _ hi rfl x h
  | .fn f n caps, d', cs, hi, ⟨ps, vs, h1, hn', h2⟩, h => by
    simp only [D.mapIds] at h
    split at h <;> (try contradiction)
    rename_i r hr
    injection h with h; subst h
    exact ⟨⟨ps, vs, h1, hn', mapIds_cap him hn caps r _ (by simpa [D.ids] using hi) h2 hr⟩, by simp [D.isPtr]⟩
theorem mapIds_agg {gf : D → Option D} {S : List Nat} (him : ∀ b o, g.imm b o → gt.imm b o) (hn : NodeOk g gt w gf S) : ∀ (szs : List Nat) (ds ds' : List D) (cs : List Value), (∀ i ∈ idsL ds, i ∈ S) → AggCs g w szs ds cs → mapIdsL gf ds = some ds' → AggCs gt w szs ds' cs
  | [], [], ds', cs, _, x, h => by simp only [mapIdsL, Option.some.injEq] at h; subst h; exact x
  | n :: szs, d :: ds, ds', cs, hi, ⟨c1, c2, h1, h2, h3, h4⟩, h => by
    simp only [mapIdsL] at h
    split at h <;> (try contradiction)
    rename_i r rs hr hrs
    injection h with h; subst h
    simp only [idsL, List.mem_append] at hi
    exact ⟨c1, c2, h1, (mapIds_sound him hn d r c1 (fun i hx => hi i (.inl hx)) h2 hr).1, h3, mapIds_agg him hn szs ds rs c2 (fun i hx => hi i (.inr hx)) h4 hrs⟩
  | [], _ :: _, _, _, _, x, _ => x.elim
  | _ :: _, [], _, _, _, x, _ => x.elim
theorem mapIds_row {gf : D → Option D} {S : List Nat} (him : ∀ b o, g.imm b o → gt.imm b o) (hn : NodeOk g gt w gf S) (b es : Nat) : ∀ (o : Nat) (ds ds' : List D), (∀ i ∈ idsL ds, i ∈ S) → RowI g w b es o ds → mapIdsL gf ds = some ds' → RowI gt w b es o ds' ∧ ds'.length = ds.length
  | o, [], ds', _, x, h => by simp only [mapIdsL, Option.some.injEq] at h; subst h; exact ⟨trivial, rfl⟩
  | o, d :: ds, ds', hi, ⟨⟨c, h1, h2, h3, h4⟩, h5⟩, h => by
    simp only [mapIdsL] at h
    split at h <;> (try contradiction)
    rename_i r rs hr hrs
    injection h with h; subst h
    simp only [idsL, List.mem_append] at hi
    obtain ⟨k1, k2⟩ := mapIds_row him hn b es (o + es) ds rs (fun i hx => hi i (.inr hx)) h5 hrs
    exact ⟨⟨⟨c, (mapIds_sound him hn d r c (fun i hx => hi i (.inl hx)) h1 hr).1, h2, h3, fun j hj => him _ _ (h4 j hj)⟩, k1⟩, by simp [k2]⟩
theorem mapIds_cap {gf : D → Option D} {S : List Nat} (him : ∀ b o, g.imm b o → gt.imm b o) (hn : NodeOk g gt w gf S) : ∀ (ds ds' : List D) (vs : List Value), (∀ i ∈ idsL ds, i ∈ S) → CapCs g w ds vs → mapIdsL gf ds = some ds' → CapCs gt w ds' vs
  | [], ds', vs, _, x, h => by simp only [mapIdsL, Option.some.injEq] at h; subst h; exact x
  | d :: ds, ds', vs, hi, ⟨v, r, h1, hp, h2, h3⟩, h => by
    simp only [mapIdsL] at h
    split at h <;> (try contradiction)
    rename_i r' rs hr hrs
    injection h with h; subst h
    simp only [idsL, List.mem_append] at hi
    obtain ⟨k1, k2⟩ := mapIds_sound him hn d r' [v] (fun i hx => hi i (.inl hx)) h2 hr
    exact ⟨v, r, h1, k2 hp, k1, mapIds_cap him hn ds rs r (fun i hx => hi i (.inr hx)) h3 hrs⟩
end
/-- A row, wherever it stands, if its cells do not change any more. -/
theorem mapIds_rowM {gf : D → Option D} {S : List Nat} (him : ∀ b o, g.imm b o → gt.imm b o) (hn : NodeOk g gt w gf S) (b es : Nat) : ∀ (o : Nat) (ds ds' : List D), (∀ i ∈ idsL ds, i ∈ S) → RowM g w b es o ds → mapIdsL gf ds = some ds' → (∀ j, j < ds.length * es → gt.imm b (o + j)) → RowI gt w b es o ds' ∧ ds'.length = ds.length
  | o, [], ds', _, x, h, _ => by simp only [mapIdsL, Option.some.injEq] at h; subst h; exact ⟨trivial, rfl⟩
  | o, d :: ds, ds', hi, ⟨⟨c, h1, h2, h3⟩, h5⟩, h, hj => by
    simp only [mapIdsL] at h
    split at h <;> (try contradiction)
    rename_i r rs hr hrs
    injection h with h; subst h
    simp only [idsL, List.mem_append] at hi
    obtain ⟨k1, k2⟩ := mapIds_rowM him hn b es (o + es) ds rs (fun i hx => hi i (.inr hx)) h5 hrs (fun j hjj => by
      have := hj (es + j) (by simp only [List.length_cons, Nat.succ_mul]; omega)
      rwa [show o + (es + j) = o + es + j by omega] at this)
    exact ⟨⟨⟨c, (mapIds_sound him hn d r c (fun i hx => hi i (.inl hx)) h1 hr).1, h2, h3, fun j hjj => hj j (by simp only [List.length_cons, Nat.succ_mul]; omega)⟩, k1⟩, by simp [k2]⟩

/-! ### Objects that are told -/
/-- What is told of these objects does not change any more. -/
structure Seen (g gt : Gh) (h : Hp) (R : List Nat) : Prop where
  imm : ∀ b o, g.imm b o → gt.imm b o
  row : ∀ id, id ∈ R → ∀ ob ver k, h[id]? = some ob → ob.minv ≤ ver → ver ≤ ob.ver → g.inc id ver = some k → ∀ o, o < k.n * k.es → gt.imm k.blk o

theorem ids_getPath : ∀ (p : List Nat) {x r : D} {o : Nat}, getPath x p = some (r, o) → ∀ i ∈ D.ids r, i ∈ D.ids x
  | [], x, r, o, h, i, hi => by
    cases x <;> simp only [getPath, Option.some.injEq, Prod.mk.injEq] at h <;> rw [h.1] <;> exact hi
  | j :: p, x, r, o, h, i, hi => by
    cases x with
    | agg szs fs =>
      simp only [getPath] at h
      cases hf : fs[j]? with
      | none => simp [hf] at h
      | some f =>
        simp only [hf] at h
        cases hg : getPath f p with
        | none => simp [hg] at h
        | some q =>
          obtain ⟨r', o'⟩ := q
          simp only [hg, Option.some.injEq, Prod.mk.injEq] at h
          obtain ⟨rfl, rfl⟩ := h
          have := ids_getPath p hg i hi
          simp only [D.ids]
          have hm := List.mem_of_getElem? hf
          clear hf hg
          induction fs with
          | nil => cases hm
          | cons y fs ih =>
            simp only [idsL, List.mem_append]
            rcases List.mem_cons.1 hm with rfl | hm
            · exact .inl this
            · exact .inr (ih hm)
    | _ => simp [getPath] at h
theorem idsL_mem {l : List D} {x : D} (hx : x ∈ l) {i : Nat} (hi : i ∈ D.ids x) : i ∈ idsL l := by
  induction l with
  | nil => cases hx
  | cons y l ih =>
    simp only [idsL, List.mem_append]
    rcases List.mem_cons.1 hx with rfl | hx
    · exact .inl hi
    · exact .inr (ih hx)
theorem mem_idsL {l : List D} {i : Nat} (hi : i ∈ idsL l) : ∃ x ∈ l, i ∈ D.ids x := by
  induction l with
  | nil => simp [idsL] at hi
  | cons y l ih =>
    simp only [idsL, List.mem_append] at hi
    rcases hi with hi | hi
    · exact ⟨y, by simp, hi⟩
    · obtain ⟨x, hx, h⟩ := ih hi; exact ⟨x, by simp [hx], h⟩
theorem reach_ids {h : Hp} {n : Nat} {L : List D} {i : Nat} (hi : i ∈ idsL L) : i ∈ reach h (n + 1) L := by
  simp only [reach, List.mem_append]; exact .inl hi
theorem reach_next {h : Hp} {n : Nat} {L : List D} {i j : Nat} {ob : Ob} (hi : i ∈ idsL L) (ho : h[i]? = some ob) (hj : j ∈ reach h n ob.xs) : j ∈ reach h (n + 1) L := by
  simp only [reach, List.mem_append, List.mem_flatMap]
  exact .inr ⟨i, hi, by rw [ho]; exact hj⟩

theorem fz_sound {h : Hp} (q : Hq g w h) {R : List Nat} (hS : Seen g gt h R) : ∀ (n : Nat) (L : List D), (∀ i ∈ reach h n L, i ∈ R) → ∀ (d d' : D) (cs : List Value), (∀ i ∈ D.ids d, i ∈ idsL L) → Cs g w d cs → fz h n d = some d' →
    Cs gt w d' cs ∧ (d.isPtr = true → d'.isPtr = true)
  | 0, L, _, d, d', cs, hi, hc, hf => by
    simp only [fz] at hf
    exact mapIds_sound (S := idsL L) hS.imm (fun x x' cs _ _ _ h => by cases h) d d' cs hi hc hf
  | n + 1, L, hR, d, d', cs, hi, hc, hf => by
    simp only [fz] at hf
    refine mapIds_sound (S := idsL L) hS.imm ?_ d d' cs hi hc hf
    intro x x' cs hix hnode hcx hx
    cases x with
    | mo es id ver off len tg =>
      have hid : id ∈ idsL L := hix id (by simp [D.ids])
      have hv : V g w (.mo es id ver off len tg) (cs.head (by obtain ⟨_, _, _, _, h, _⟩ := hcx; rw [h]; simp)) := by
        obtain ⟨k, cap, h1, h2, h3, h4⟩ := hcx
        subst h3
        exact ⟨k, cap, h1, h2, rfl, h4⟩
      simp only at hx
      split at hx <;> (try contradiction)
      rename_i xs hxs
      split at hx <;> (try contradiction)
      rename_i r hr
      injection hx with hx; subst hx
      obtain ⟨k, cap, h1, h2, h3, h4, h5, h6⟩ := hcx
      have hel := hxs
      unfold elemsOf at hel
      simp only [beq_self_eq_true, if_true] at hel
      cases hro : rowOf h id ver with
      | none => simp [hro] at hel
      | some zs =>
        simp only [hro] at hel
        split at hel <;> (try contradiction)
        rename_i hlen
        injection hel with hel
        obtain ⟨ob, i', ho, hi', hzs, hm, hM, hes, hrow, hn⟩ := rowOf_sound q h1 hro
        have hxl : xs.length = len := by rw [← hel, hzs]; simp; rw [hzs] at hlen; omega
        have hrow2 : RowM g w k.blk es (off * es) xs := by
          have := (RowM.drop off hrow).take len
          rw [List.drop_take, List.take_take, Nat.min_eq_left (by omega), Nat.zero_add, ← hes, h2] at this
          rw [← hel, hzs]; exact this
        have hsub : ∀ i ∈ idsL xs, i ∈ idsL ob.xs := by
          intro i hi
          obtain ⟨y, hy, hyi⟩ := mem_idsL hi
          refine idsL_mem ?_ hyi
          rw [← hel, hzs] at hy
          exact List.mem_of_mem_drop (List.mem_of_mem_take hy)
        have ih := fz_sound q hS n ob.xs (fun i hi => hR i (reach_next hid ho hi))
        obtain ⟨k1, k2⟩ := mapIds_rowM (S := idsL ob.xs) hS.imm (fun y y' cs hy _ hcy hfy => ih y y' cs hy hcy hfy) k.blk es (off * es) xs r hsub hrow2 hr (fun j hj => by
          refine hS.row id (hR id (reach_ids hid)) ob ver k ho hm hM h1 _ ?_
          rw [hxl] at hj
          rw [h2]
          have : off * es + len * es ≤ k.n * es := by rw [← Nat.add_mul]; exact Nat.mul_le_mul_right _ h4
          omega)
        refine ⟨⟨k.blk, off * es, none, cap, by rw [h3, k2, hxl], by rw [k2, hxl]; exact h5, fun z => ?_, k1, fun _ => rfl⟩, by simp [D.isPtr]⟩
        subst z
        simp only [if_true] at h6
        rw [h6, k2, hxl]
    | ptr id ver off path =>
      have hid : id ∈ idsL L := hix id (by simp [D.ids])
      simp only at hx
      split at hx <;> (try contradiction)
      rename_i d1 hl
      split at hx <;> (try contradiction)
      rename_i r hr
      injection hx with hx; subst hx
      refine ⟨?_, fun _ => rfl⟩
      obtain ⟨k, h1, h2, h3⟩ := hcx
      unfold loadAt at hl
      cases path with
      | nil =>
        simp only at hl
        cases ho : h[id]? with
        | none => simp [ho] at hl
        | some ob =>
          simp only [ho] at hl
          split at hl <;> (try contradiction)
          rename_i hc
          obtain ⟨hve, hoff⟩ := hc
          injection hl with hl; subst hl
          subst hve
          have ok := q.obs id ob k ho h1
          obtain ⟨k', hk', _, _, hrow⟩ := ok.incs ob.ver ok.mv (Nat.le_refl _)
          rw [h1] at hk'; injection hk' with hk'; subst hk'
          rw [List.take_of_length_le (by rw [ok.n]; exact Nat.le_refl _)] at hrow
          obtain ⟨c, ha, hat⟩ := hrow.agg
          have hcl := AggCs.size _ _ _ ha
          rw [sumN_rep] at hcl
          obtain ⟨m1, _⟩ := fz_sound q hS n ob.xs (fun i hi => hR i (reach_next hid ho hi)) (.agg (List.replicate ob.xs.length ob.es) ob.xs) r c (by simp [D.ids]) ha hr
          refine ⟨k.blk, off, c, h2, m1, by rw [hoff]; exact hat, fun j hj => ?_⟩
          refine hS.row id (hR id (reach_ids hid)) ob ob.ver k ho ok.mv (Nat.le_refl _) h1 _ ?_
          rw [hcl, ← ok.n, ← ok.es] at hj
          rw [hoff]; omega
      | cons j p =>
        simp only at hl
        cases ho : h[id]? with
        | none => simp [ho] at hl
        | some ob =>
          simp only [ho] at hl
          split at hl <;> (try contradiction)
          rename_i hc
          cases hxj : ob.xs[j]? with
          | none => simp [hxj] at hl
          | some y =>
            simp only [hxj] at hl
            cases hp : getPath y p with
            | none => simp [hp] at hl
            | some z =>
              obtain ⟨r', o'⟩ := z
              simp only [hp] at hl
              split at hl <;> (try contradiction)
              rename_i hoff
              injection hl with hl; subst hl
              obtain ⟨i', hi'⟩ := q.cur id ob ver k ho h1
              have ok := q.obs id ob i' ho hi'
              obtain ⟨k', hk', he, hn, hrow⟩ := ok.incs ver hc.1 hc.2
              rw [h1] at hk'; injection hk' with hk'; subst hk'
              obtain ⟨c, e1, e2, e3⟩ := hrow.get (i := j) (x := y) (by rw [List.getElem?_take_of_lt h3]; exact hxj)
              obtain ⟨c1, c', c2, rfl, hlen, hc', _⟩ := getPath_sound (v := y) p hp e1
              have hat := At.sub e3
              rw [hlen, Nat.zero_add, hoff] at hat
              obtain ⟨m1, _⟩ := fz_sound q hS n ob.xs (fun i hi => hR i (reach_next hid ho hi)) r' r c' (fun i hi => idsL_mem (List.mem_of_getElem? hxj) (ids_getPath p hp i hi)) hc' hr
              refine ⟨k.blk, off, c', h2, m1, hat, fun u hu => ?_⟩
              refine hS.row id (hR id (reach_ids hid)) ob ver k ho hc.1 hc.2 h1 _ ?_
              simp only [List.length_append] at e2
              have : (j + 1) * ob.es ≤ k.n * ob.es := Nat.mul_le_mul_right _ h3
              rw [Nat.succ_mul] at this
              rw [he]; omega
    | _ => simp [D.isNode] at hnode

theorem tell_sound {h : Hp} (q : Hq g w h) {R : List Nat} (hS : Seen g gt h R) {L : List D} (hR : flatL L = false → ∀ i ∈ reach h (fzDepth + 1) L, i ∈ R) {d d' : D} (hd : d ∈ L) {v : Value} (hv : V g w d v) (ht : tell h d = some d') : V gt w d' v ∧ (d.isTup = d'.isTup) := by
  unfold tell at ht
  split at ht
  · rename_i hf
    injection ht with ht; subst ht
    exact ⟨hv.flat hS.imm hf, rfl⟩
  · rename_i hf
    split at ht <;> (try contradiction)
    rename_i hnt
    have hfl : flatL L = false := by
      cases h1 : flatL L with
      | false => rfl
      | true =>
        exfalso
        apply hf
        clear hR hv ht
        induction L with
        | nil => cases hd
        | cons y L ih =>
          simp only [flatL, Bool.and_eq_true] at h1
          rcases List.mem_cons.1 hd with rfl | hd
          · exact h1.1
          · exact ih hd h1.2
    have hmono : ∀ i ∈ reach h fzDepth L, i ∈ R := by
      intro i hi
      refine hR hfl i ?_
      have key : ∀ (n : Nat) (L : List D) (i : Nat), i ∈ reach h n L → i ∈ reach h (n + 1) L := by
        intro n
        induction n with
        | zero => intro L i hi; simp [reach] at hi
        | succ n ih =>
          intro L i hi
          rw [reach, List.mem_append, List.mem_flatMap] at hi
          rcases hi with hi | ⟨j, hj, hi⟩
          · exact reach_ids hi
          · split at hi
            · rename_i ob ho
              exact reach_next hj ho (ih _ _ hi)
            · cases hi
      exact key _ _ _ hi
    have hids : ∀ i ∈ D.ids d, i ∈ idsL L := fun i hi => idsL_mem hd hi
    have hsh : d'.isTup = false ∧ (isAggD d = isAggD d') := by
      have : ∀ n, fz h n d = some d' → d'.isTup = false ∧ (isAggD d = isAggD d') := by
        intro n hn
        cases n <;> simp only [fz] at hn <;> cases d <;> simp only [D.mapIds] at hn <;> (repeat' (first | contradiction | split at hn)) <;> first | contradiction | (injection hn with hn; subst hn; exact ⟨rfl, rfl⟩) | skip
        all_goals (simp [D.isTup] at hnt)
      exact this _ ht
    have hnt' : ∀ l, d ≠ .tup l := fun l e => by subst e; simp [D.isTup] at hnt
    have h1 := hv.v1 hnt'
    refine ⟨V.of1 ?_, ?_⟩
    · cases d with
      | agg szs fs =>
        obtain ⟨c, rfl, hc⟩ := h1
        obtain ⟨k1, _⟩ := fz_sound q hS fzDepth L hmono _ d' c hids hc ht
        cases d' with
        | agg s2 f2 => exact ⟨c, rfl, k1⟩
        | _ => simp [isAggD] at hsh
      | tup l => exact absurd rfl (hnt' l)
      | _ =>
        simp only [V1] at h1
        obtain ⟨k1, _⟩ := fz_sound q hS fzDepth L hmono _ d' [v] hids h1 ht
        cases d' with
        | agg s2 f2 => simp [isAggD] at hsh
        | tup l => exact k1.elim
        | _ => exact k1
    · rw [hsh.1]; simpa using hnt
end
end Go.Rex
