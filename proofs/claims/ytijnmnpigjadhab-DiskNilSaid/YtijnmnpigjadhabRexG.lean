import Derived.Test.YtijnmnpigjadhabRexF
/- Rex, part G: loads and stores. -/
set_option linter.unusedVariables false
namespace Go.Rex
open Go.RowKit

theorem RowM.agg {g : Gh} {w : World} {b es : Nat} : ∀ {xs : List D} {o : Nat}, RowM g w b es o xs → ∃ c, AggCs g w (List.replicate xs.length es) xs c ∧ At w b o c
  | [], o, _ => ⟨[], rfl, fun j v hv => by simp at hv⟩
  | d :: ds, o, ⟨⟨c, h1, h2, h3⟩, h⟩ => by
    obtain ⟨c', ha, hat⟩ := h.agg
    refine ⟨c ++ c', ⟨c, c', rfl, h1, h2, ha⟩, fun j v hv => ?_⟩
    by_cases hj : j < c.length
    · rw [List.getElem?_append_left hj] at hv; exact h3 j v hv
    · rw [List.getElem?_append_right (by omega)] at hv
      have := hat _ v hv
      rwa [show o + es + (j - c.length) = o + j by omega] at this
theorem AggCs.row {g : Gh} {w : World} {b es : Nat} : ∀ {fs : List D} {c : List Value} {o : Nat}, AggCs g w (List.replicate fs.length es) fs c → At w b o c → RowM g w b es o fs
  | [], _, _, _, _ => trivial
  | d :: ds, _, o, ⟨c1, c2, rfl, h2, h3, h4⟩, hat => by
    refine ⟨⟨c1, h2, h3, ?_⟩, h4.row ?_⟩
    · have := At.sub (c1 := []) (c := c1) (c2 := c2) (by simpa using hat); simpa using this
    · have := At.sub (c1 := c1) (c := c2) (c2 := []) (by simpa using hat)
      rwa [h3] at this

theorem loadAt_sound {g : Gh} {w : World} {h : Hp} (q : Hq g w h) {d r : D} {v : Value} (hl : loadAt h d = some r) (hv : V g w d v) :
    ∃ b o c, v = .pointer (some ⟨b, o, none⟩) ∧ Cs g w r c ∧ At w b o c := by
  unfold loadAt at hl
  split at hl
  · injection hl with hl; subst hl
    simp only [V, V1, Cs] at hv
    obtain ⟨b, o, c, hv, h1, h2, _⟩ := hv
    injection hv with hv; subst hv
    exact ⟨b, o, c, rfl, h1, h2⟩
  · rename_i id ver off
    simp only [V, V1, Cs] at hv
    obtain ⟨i, hi, hv, h0⟩ := hv
    injection hv with hv; subst hv
    cases ho : h[id]? with
    | none => simp [ho] at hl
    | some ob =>
      simp only [ho] at hl
      split at hl
      · rename_i hc
        obtain ⟨rfl, rfl⟩ := hc
        injection hl with hl; subst hl
        have k := q.obs id ob i ho hi
        obtain ⟨k', hk', _, _, hr⟩ := k.incs ob.ver k.mv (Nat.le_refl _)
        rw [hi] at hk'; injection hk' with hk'; subst hk'
        rw [List.take_of_length_le (by rw [k.n]; exact Nat.le_refl _)] at hr
        obtain ⟨c, ha, hat⟩ := hr.agg
        exact ⟨_, _, c, rfl, ha, hat⟩
      · cases hl
  · rename_i id ver off j p
    simp only [V, V1, Cs] at hv
    obtain ⟨i, hi, hv, h0⟩ := hv
    injection hv with hv; subst hv
    cases ho : h[id]? with
    | none => simp [ho] at hl
    | some ob =>
      simp only [ho] at hl
      split at hl
      · rename_i hc
        cases hx : ob.xs[j]? with
        | none => simp [hx] at hl
        | some x =>
          simp only [hx] at hl
          cases hp : getPath x p with
          | none => simp [hp] at hl
          | some z =>
            obtain ⟨r', o'⟩ := z
            simp only [hp] at hl
            split at hl
            · rename_i hoff
              injection hl with hl; subst hl
              obtain ⟨i', hi'⟩ := q.cur id ob ver i ho hi
              have k := q.obs id ob i' ho hi'
              obtain ⟨k', hk', he, hn, hr⟩ := k.incs ver hc.1 hc.2
              rw [hi] at hk'; injection hk' with hk'; subst hk'
              obtain ⟨c, h1, h2, h3⟩ := hr.get (i := j) (x := x) (by rw [List.getElem?_take_of_lt h0]; exact hx)
              obtain ⟨c1, c', c2, rfl, hlen, hc', _⟩ := getPath_sound (v := x) p hp h1
              refine ⟨_, _, c', rfl, hc', ?_⟩
              have := At.sub h3
              rw [hlen, Nat.zero_add, hoff] at this
              exact this
            · cases hl
      · cases hl
  · cases hl

theorem cells_of_one {v : Value} (h : v.oneCell' = true) : v.cells = #[v] := by cases v <;> first | rfl | simp [Value.oneCell'] at h
theorem V1.cells {g : Gh} {w : World} {d : D} {v : Value} (h : V1 g w d v) : ∃ c, Cs g w d c ∧ v.cells = c.toArray := by
  cases d with
  | agg szs fs => obtain ⟨c, rfl, hc⟩ := h; exact ⟨c, hc, rfl⟩
  | _ =>
    simp only [V1] at h
    refine ⟨[v], h, ?_⟩
    rw [cells_of_one (Cs.one _ _ h v (by simp))]
theorem V.v1 {g : Gh} {w : World} {d : D} {v : Value} (h : V g w d v) (hd : ∀ l, d ≠ .tup l) : V1 g w d v := by
  cases d with
  | tup l => exact absurd rfl (hd l)
  | _ => exact h
theorem V.of1 {g : Gh} {w : World} {d : D} {v : Value} (h : V1 g w d v) : V g w d v := by
  cases d with
  | tup l => simp [V1, Cs] at h
  | _ => exact h

theorem run_isAgg {P : Program} {w : World} {t : TypeId} {ag : Bool} (h : aggT P t = some ag) : (isAgg t).run P w = .ok ag w := by
  unfold aggT at h
  cases hu : P.underlying t with
  | none => simp [hu] at h
  | some u =>
    simp only [hu] at h
    unfold isAgg
    simp only [Sem.run_bind, run_underlying hu, Result.andThen_ok]
    cases u <;> simp_all
theorem run_sizeOf {P : Program} {w : World} {t : TypeId} {s : Nat} (h : szOf P t = some s) : (sizeOf t).run P w = .ok s w := by
  unfold szOf at h
  cases hi : P.info? t with
  | none => simp [hi] at h
  | some i =>
    simp [hi] at h
    simp [sizeOf, typeInfo, hi, h]
theorem run_load_at {P : Program} {w : World} {b o : Nat} {v : Value} (h : w.cell? ⟨b, o, none⟩ = some v) : (load ⟨b, o, none⟩).run P w = .ok v w := by
  simp [h]
theorem run_loadCells_at {P : Program} {w : World} {b o : Nat} {c : List Value} (h : At w b o c) : (loadCells ⟨b, o, none⟩ c.length).run P w = .ok c.toArray w :=
  run_loadCells_list w _ c fun j v hv => by rw [addr_add]; exact h j v hv

theorem run_loadVar {P : Program} {g : Gh} {w : World} {t : TypeId} {ag : Bool} {s : Nat} (ha : aggT P t = some ag) (hs : szOf P t = some s) {r : D} (hf : r.fits ag s = true) {c : List Value}
    (hc : Cs g w r c) {b o : Nat} (hat : At w b o c) : ∃ v, (loadVar t ⟨b, o, none⟩).run P w = .ok v w ∧ V g w r v := by
  unfold loadVar
  simp only [Sem.run_bind, run_isAgg ha, Result.andThen_ok]
  have hsz := Cs.size r c hc
  cases ag with
  | true =>
    cases r with
    | agg szs fs =>
      simp only [D.fits, Bool.true_and, beq_iff_eq] at hf
      simp only [D.sz] at hsz
      have hlen : c.length = s := by omega
      subst hlen
      simp only [if_true, Sem.run_bind, run_sizeOf hs, Result.andThen_ok, run_loadCells_at hat, Sem.run_pure]
      exact ⟨_, rfl, ⟨c, rfl, hc⟩⟩
    | _ => simp [D.fits] at hf
  | false =>
    have h1 : c.length = 1 := by
      rw [hsz]
      cases r <;> simp [D.fits] at hf <;> rfl
    obtain ⟨v, rfl⟩ := List.length_eq_one_iff.1 h1
    have hv := hat 0 v rfl
    rw [Nat.add_zero] at hv
    refine ⟨v, by simp [hv], ?_⟩
    cases r with
    | agg szs fs => simp [D.fits] at hf
    | tup l => simp [D.fits] at hf
    | _ => exact hc

theorem At.of_set {w : World} {b : Nat} {c : List Value} {o : Nat} (h : ∀ j, j < c.length → (w.cell? ⟨b, o + j, none⟩).isSome = true) : At (w.setCells b o c) b o c := by
  intro j v hv
  obtain ⟨hj, hv⟩ := List.getElem?_eq_some_iff.1 hv
  rw [World.cell?_setCells_in b c o w h j hj, hv]

theorem ObOk.cell {g : Gh} {w : World} {id : Nat} {ob : Ob} {i : Inc} (k : ObOk g w id ob i) {o : Nat} (h : o < i.cap * ob.es) : (w.cell? ⟨i.blk, o, none⟩).isSome = true ∧ w.frozen? ⟨i.blk, o, none⟩ = false := by
  obtain ⟨c, e, fr, hb, hc, hf⟩ := k.blk
  have hf := hf o h
  obtain ⟨lo, hi⟩ := fr
  constructor
  · simp [World.cell?, hb, show o < c.size by omega]
  · simp only [World.frozen?, hb]
    simp only at hf
    rw [← Bool.not_eq_true]
    simpa using hf

/-- Cells are stored, by an object's place. -/
theorem run_storeCells_ob {P : Program} {g : Gh} {w : World} {id : Nat} {ob : Ob} {i : Inc} (k : ObOk g w id ob i) {o : Nat} {c : List Value} (h : o + c.length ≤ i.cap * ob.es) (h1 : ∀ v ∈ c, v.oneCell' = true) :
    (storeCells ⟨i.blk, o, none⟩ c).run P w = .ok () (w.setCells i.blk o c) ∧ Wrote w (w.setCells i.blk o c) i.blk o (o + c.length) ∧ At (w.setCells i.blk o c) i.blk o c := by
  refine ⟨?_, Wrote.many _ _ _ _, At.of_set (fun j hj => (k.cell (by omega)).1)⟩
  have := run_storeCells_cells (P := P) i.blk o c 0 w (fun j hj => by rw [Nat.add_zero]; exact (k.cell (by omega)).1) (fun j hj => by rw [Nat.add_zero]; exact (k.cell (by omega)).2) h1
  simpa using this

theorem storeAt_sound {P : Program} {g : Gh} {w : World} {h h' : Hp} (q : Hq g w h) {d x : D} {va vx : Value} {t : TypeId} {s : Nat} (hs : szOf P t = some s)
    (hst : storeAt h s x d = some h') (hd : V g w d va) (hx : V g w x vx) (hnt : ∀ l, x ≠ .tup l) :
    ∃ b o w', va = .pointer (some ⟨b, o, none⟩) ∧ (storeVar t ⟨b, o, none⟩ vx).run P w = .ok () w' ∧ Hq g w' h' ∧ Ext g w h g w' h' := by
  obtain ⟨c, hc, hcells⟩ := (hx.v1 hnt).cells
  have hone := Cs.one x c hc
  unfold storeAt at hst
  split at hst
  · rename_i id ver off j p
    simp only [V, V1, Cs] at hd
    obtain ⟨i, hi, hv, h0⟩ := hd
    injection hv with hv; subst hv
    cases ho : h[id]? with
    | none => simp [ho] at hst
    | some ob =>
      simp only [ho] at hst
      split at hst
      · rename_i hcnd
        obtain ⟨rfl, hfz⟩ := hcnd
        cases he : ob.xs[j]? with
        | none => simp [he] at hst
        | some y =>
          simp only [he] at hst
          split at hst
          · rename_i r o' y' hp hsp
            split at hst
            · rename_i hcnd
              obtain ⟨hoff, hrs, hxs⟩ := hcnd
              injection hst with hst
              have k := q.obs id ob i ho hi
              obtain ⟨k', hk', _, _, hr⟩ := k.incs ob.ver k.mv (Nat.le_refl _)
              rw [hi] at hk'; injection hk' with hk'; subst hk'
              rw [List.take_of_length_le (by rw [k.n]; exact Nat.le_refl _)] at hr
              have hj : j < ob.xs.length := (List.getElem?_eq_some_iff.1 he).1
              obtain ⟨cy, h1, h2, h3⟩ := hr.get he
              obtain ⟨c1, c', c2, hcy, hlen, hc', hset⟩ := getPath_sound (v := x) p hp h1
              have hl' : c.length = c'.length := by rw [Cs.size _ _ hc, Cs.size _ _ hc', hxs, hrs]
              have hy' := hset y' c hsp hc hl'
              have hend : off + c.length ≤ i.cap * ob.es := by
                have e1 : (j + 1) * ob.es ≤ i.cap * ob.es := Nat.mul_le_mul_right _ (by have := k.cap; have := k.n; omega)
                rw [Nat.succ_mul] at e1
                have e2 := congrArg List.length hcy
                simp only [List.length_append] at e2
                omega
              obtain ⟨hrun, hw, hat⟩ := run_storeCells_ob (P := P) k hend hone
              refine ⟨_, _, w.setCells i.blk off c, rfl, ?_, ?_⟩
              · unfold storeVar
                have hsz : c.toArray.size = s := by simp only [List.size_toArray]; rw [Cs.size _ _ hc, hxs]
                simp only [hcells, Sem.run_bind, run_sizeOf hs, Result.andThen_ok, hsz, ne_eq, not_true_eq_false, if_false, hrun]
              · have hl : Le g w g (w.setCells i.blk off c) := hw.le (fun o _ hlt => k.free hfz o (by omega))
                subst hst
                have hcy' : (c1 ++ c ++ c2).length = ob.es := by rw [← h2, hcy]; simp [hl']
                refine q.over ho hi hw hend hfz (ob.xs.set j y') (by simp) (RowM.set hl hr hj hy' hcy' ?_ ?_)
                · -- the element's cells now
                  intro m u hu
                  by_cases hm : off ≤ 0 + j * ob.es + m ∧ 0 + j * ob.es + m < off + c.length
                  · have hm1 : c1.length ≤ m := by omega
                    rw [List.append_assoc, List.getElem?_append_right hm1, List.getElem?_append_left (by omega)] at hu
                    have := hat _ u hu
                    rwa [show off + (m - c1.length) = 0 + j * ob.es + m by omega] at this
                  · rw [hw.cell _ hm]
                    refine h3 m u ?_
                    rw [hcy]
                    by_cases hm1 : m < c1.length
                    · rw [List.append_assoc, List.getElem?_append_left hm1] at hu ⊢; exact hu
                    · have hm2 : c1.length + c.length ≤ m := by omega
                      rw [List.getElem?_append_right (by simp; omega)] at hu
                      rw [List.getElem?_append_right (by simp; omega)]
                      simpa [hl'] using hu
                · intro z hz
                  refine hw.cell z (fun ⟨z1, z2⟩ => hz ?_)
                  have e2 := congrArg List.length hcy
                  simp only [List.length_append] at e2
                  omega
            · cases hst
          · cases hst
      · cases hst
  · rename_i id ver off
    simp only [V, V1, Cs] at hd
    obtain ⟨i, hi, hv, h0⟩ := hd
    injection hv with hv; subst hv
    cases ho : h[id]? with
    | none => simp [ho] at hst
    | some ob =>
      simp only [ho] at hst
      split at hst
      · rename_i hcnd
        obtain ⟨rfl, hfz, rfl⟩ := hcnd
        split at hst
        · rename_i szs fs
          split at hst
          · rename_i hcnd
            obtain ⟨rfl, hlen, hsum⟩ := hcnd
            injection hst with hst; subst hst
            have k := q.obs id ob i ho hi
            have hsz := Cs.size _ _ hc
            simp only [D.sz] at hsz
            have hcl : sumN (List.replicate ob.xs.length ob.es) = ob.xs.length * ob.es := by
              clear hsz hc hcells hsum hone
              induction ob.xs.length with
              | zero => simp [sumN]
              | succ n ih => rw [List.replicate_succ, sumN, ih, Nat.succ_mul]; omega
            have hend : 0 + c.length ≤ i.cap * ob.es := by rw [Nat.zero_add, hsz, hcl]; exact Nat.mul_le_mul_right _ (by have := k.cap; have := k.n; omega)
            obtain ⟨hrun, hw, hat⟩ := run_storeCells_ob (P := P) k hend hone
            have hl : Le g w g (w.setCells i.blk 0 c) := hw.le (fun o _ hlt => k.free hfz o (by omega))
            refine ⟨_, _, w.setCells i.blk 0 c, rfl, ?_, q.over ho hi hw hend hfz fs hlen ?_⟩
            · unfold storeVar
              simp only [hcells, Sem.run_bind, run_sizeOf hs, Result.andThen_ok, List.size_toArray, hsz, hsum, ne_eq, not_true_eq_false, if_false, hrun]
            · have hc2 : AggCs g w (List.replicate fs.length ob.es) fs c := by rw [hlen]; exact hc
              exact AggCs.row (AggCs.le hl _ _ _ hc2) hat
          · cases hst
        · cases hst
      · cases hst
  · cases hst
end Go.Rex
