import Derived.Test.YtijnmnpigjadhabRexE
/- Rex, part F: what is read, and what is written, by data and by cells. -/
set_option linter.unusedVariables false
namespace Go.Rex
open Go.RowKit

theorem addr_add (b o j : Nat) : (⟨b, o, none⟩ : Addr).add j = ⟨b, o + j, none⟩ := by unfold Addr.add; split <;> simp_all

theorem At.sub {w : World} {b o : Nat} {c1 c c2 : List Value} (h : At w b o (c1 ++ c ++ c2)) : At w b (o + c1.length) c := by
  intro j v hv
  have hj : j < c.length := (List.getElem?_eq_some_iff.1 hv).1
  have := h (c1.length + j) v (by
    rw [List.append_assoc, List.getElem?_append_right (by omega), show c1.length + j - c1.length = j by omega, List.getElem?_append_left hj]; exact hv)
  rwa [show o + (c1.length + j) = o + c1.length + j by omega] at this
theorem Im.sub {g : Gh} {b o n k m : Nat} (h : Im g b o n) (hk : k + m ≤ n) : Im g b (o + k) m := by
  intro j hj
  have := h (k + j) (by omega)
  rwa [show o + (k + j) = o + k + j by omega] at this

/-- One field among a record's. -/
theorem AggCs.split {g : Gh} {w : World} : ∀ {szs : List Nat} {fs : List D} {c : List Value} {i : Nat} {f : D}, AggCs g w szs fs c → fs[i]? = some f →
    ∃ c1 c' c2, c = c1 ++ c' ++ c2 ∧ c1.length = sumN (szs.take i) ∧ Cs g w f c' ∧ szs[i]? = some c'.length ∧
      ∀ f' c'', Cs g w f' c'' → c''.length = c'.length → AggCs g w szs (fs.set i f') (c1 ++ c'' ++ c2)
  | n :: szs, d :: ds, _, 0, f, ⟨c1, c2, rfl, h2, h3, h4⟩, hf => by
    simp at hf; subst hf
    refine ⟨[], c1, c2, by simp, by simp [sumN], h2, by simp [h3], fun f' c'' hc hl => ?_⟩
    exact ⟨c'', c2, by simp, hc, by omega, h4⟩
  | n :: szs, d :: ds, _, i + 1, f, ⟨c1, c2, rfl, h2, h3, h4⟩, hf => by
    obtain ⟨a, b, e, he, hl, hc, hz, hs⟩ := AggCs.split h4 (i := i) (by simpa using hf)
    refine ⟨c1 ++ a, b, e, by simp [he], by simp [sumN, h3, hl], hc, by simpa using hz, fun f' c'' hc' hl' => ?_⟩
    exact ⟨c1, a ++ c'' ++ e, by simp, h2, h3, hs f' c'' hc' hl'⟩
  | [], [], _, i, _, _, hf => by simp at hf
  | [], _ :: _, _, _, _, x, _ => x.elim
  | _ :: _, [], _, _, _, x, _ => x.elim

theorem getPath_sound {g : Gh} {w : World} : ∀ (p : List Nat) {x r v : D} {o : Nat} {c : List Value}, getPath x p = some (r, o) → Cs g w x c →
    ∃ c1 c' c2, c = c1 ++ c' ++ c2 ∧ c1.length = o ∧ Cs g w r c' ∧ ∀ (x' : D) c'', setPath v x p = some x' → Cs g w v c'' → c''.length = c'.length → Cs g w x' (c1 ++ c'' ++ c2)
  | [], x, r, v, o, c, h, hx => by
    cases x <;> simp only [getPath, Option.some.injEq, Prod.mk.injEq] at h <;> obtain ⟨rfl, rfl⟩ := h <;>
      exact ⟨[], c, [], by simp, rfl, hx, fun x' c'' hs hc _ => by simp only [setPath, Option.some.injEq] at hs; subst hs; simpa using hc⟩
  | i :: p, x, r, v, o, c, h, hx => by
    cases x with
    | agg szs fs =>
      simp only [getPath] at h
      cases hf : fs[i]? with
      | none => simp [hf] at h
      | some f =>
        simp only [hf] at h
        cases hg : getPath f p with
        | none => simp [hg] at h
        | some q =>
          obtain ⟨r', o'⟩ := q
          simp only [hg, Option.some.injEq, Prod.mk.injEq] at h
          obtain ⟨rfl, rfl⟩ := h
          obtain ⟨c1, c', c2, rfl, hl, hc, hz, hs⟩ := AggCs.split hx hf
          obtain ⟨d1, d', d2, rfl, hl', hc', hs'⟩ := getPath_sound (v := v) p hg hc
          refine ⟨c1 ++ d1, d', d2 ++ c2, by simp, by simp [hl, hl'], hc', fun x' c'' hset hv hlen => ?_⟩
          simp only [setPath, hf] at hset
          cases hq : setPath v f p with
          | none => simp [hq] at hset
          | some f' =>
            simp only [hq, Option.some.injEq] at hset
            subst hset
            have := hs f' (d1 ++ c'' ++ d2) (hs' f' c'' hq hv hlen) (by simp [hlen])
            have e : c1 ++ (d1 ++ c'' ++ d2) ++ c2 = c1 ++ d1 ++ c'' ++ (d2 ++ c2) := by simp
            rw [e] at this
            exact this
    | _ => simp [getPath] at h

/-! ### Rows -/
theorem RowM.get {g : Gh} {w : World} {b es : Nat} : ∀ {xs : List D} {o i : Nat} {x : D}, RowM g w b es o xs → xs[i]? = some x → ∃ c, Cs g w x c ∧ c.length = es ∧ At w b (o + i * es) c
  | d :: ds, o, 0, x, ⟨⟨c, h1, h2, h3⟩, _⟩, hx => by simp at hx; subst hx; exact ⟨c, h1, h2, by simpa using h3⟩
  | d :: ds, o, i + 1, x, ⟨_, h⟩, hx => by
    obtain ⟨c, h1, h2, h3⟩ := RowM.get h (i := i) (by simpa using hx)
    exact ⟨c, h1, h2, by rw [show o + (i + 1) * es = o + es + i * es by rw [Nat.succ_mul]; omega]; exact h3⟩
  | [], _, _, _, _, hx => by simp at hx
theorem RowM.drop {g : Gh} {w : World} {b es : Nat} : ∀ (k : Nat) {xs : List D} {o : Nat}, RowM g w b es o xs → RowM g w b es (o + k * es) (xs.drop k)
  | 0, xs, o, h => by simpa using h
  | k + 1, [], o, h => trivial
  | k + 1, d :: ds, o, ⟨_, h⟩ => by
    have := RowM.drop k h
    rw [show o + (k + 1) * es = o + es + k * es by rw [Nat.succ_mul]; omega]
    simpa using this
theorem RowM.take {g : Gh} {w : World} {b es : Nat} : ∀ (k : Nat) {xs : List D} {o : Nat}, RowM g w b es o xs → RowM g w b es o (xs.take k)
  | 0, xs, o, h => by simp [RowM]
  | k + 1, [], o, h => by simpa using h
  | k + 1, d :: ds, o, ⟨h1, h⟩ => ⟨h1, RowM.take k h⟩
theorem RowM.append {g : Gh} {w : World} {b es : Nat} : ∀ {xs ys : List D} {o : Nat}, RowM g w b es o xs → RowM g w b es (o + xs.length * es) ys → RowM g w b es o (xs ++ ys)
  | [], ys, o, _, h => by simpa using h
  | d :: ds, ys, o, ⟨h1, h2⟩, h => ⟨h1, RowM.append h2 (by rw [List.length_cons, Nat.succ_mul] at h; rwa [show o + es + ds.length * es = o + (ds.length * es + es) by omega])⟩
theorem RowI.row {g : Gh} {w : World} {b es : Nat} : ∀ {xs : List D} {o : Nat}, RowI g w b es o xs → RowM g w b es o xs
  | [], _, _ => trivial
  | d :: ds, o, ⟨⟨c, h1, h2, h3, h4⟩, h⟩ => ⟨⟨c, h1, h2, h3⟩, h.row⟩
theorem RowI.im {g : Gh} {w : World} {b es : Nat} : ∀ {xs : List D} {o : Nat}, RowI g w b es o xs → Im g b o (xs.length * es)
  | [], _, _ => fun j hj => by simp at hj
  | d :: ds, o, ⟨⟨c, h1, h2, h3, h4⟩, h⟩ => fun j hj => by
    by_cases e : j < es
    · exact h4 j e
    · have := h.im (j - es) (by rw [List.length_cons, Nat.succ_mul] at hj; omega)
      rwa [show o + es + (j - es) = o + j by omega] at this
theorem RowM.rowI {g : Gh} {w : World} {b es : Nat} : ∀ {xs : List D} {o : Nat}, RowM g w b es o xs → Im g b o (xs.length * es) → RowI g w b es o xs
  | [], _, _, _ => trivial
  | d :: ds, o, ⟨⟨c, h1, h2, h3⟩, h⟩, hi => ⟨⟨c, h1, h2, h3, fun j hj => hi j (by rw [List.length_cons, Nat.succ_mul]; omega)⟩, h.rowI (fun j hj => by
      have := hi (es + j) (by rw [List.length_cons, Nat.succ_mul]; omega)
      rwa [show o + (es + j) = o + es + j by omega] at this)⟩
/-- All the row's cells, one behind the other. -/
theorem RowM.cells {g : Gh} {w : World} {b es : Nat} : ∀ {xs : List D} {o : Nat}, RowM g w b es o xs → ∃ c, c.length = xs.length * es ∧ At w b o c ∧ (∀ v ∈ c, v.oneCell' = true) ∧
    ∀ (w' : World) (g' : Gh) b' o', Le g w g' w' → At w' b' o' c → RowM g' w' b' es o' xs
  | [], o, _ => ⟨[], by simp, fun j v hv => by simp at hv, fun v hv => by simp at hv, fun _ _ _ _ _ _ => trivial⟩
  | d :: ds, o, ⟨⟨c, h1, h2, h3⟩, h⟩ => by
    obtain ⟨c', hl, ha, h1', hr⟩ := h.cells
    refine ⟨c ++ c', by rw [List.length_append, h2, hl, List.length_cons, Nat.succ_mul]; omega, ?_, ?_, ?_⟩
    · intro j v hv
      by_cases hj : j < c.length
      · rw [List.getElem?_append_left hj] at hv; exact h3 j v hv
      · rw [List.getElem?_append_right (by omega)] at hv
        have := ha _ v hv
        rwa [show o + es + (j - c.length) = o + j by omega] at this
    · intro v hv
      rw [List.mem_append] at hv
      exact hv.elim (Cs.one d c h1 v) (h1' v)
    · intro w' g' b' o' hle hat
      refine ⟨⟨c, Cs.le hle d c h1, h2, fun j v hv => ?_⟩, hr w' g' b' (o' + es) hle (fun j v hv => ?_)⟩
      · have hj : j < c.length := (List.getElem?_eq_some_iff.1 hv).1
        exact hat j v (by rw [List.getElem?_append_left hj]; exact hv)
      · have := hat (c.length + j) v (by rw [List.getElem?_append_right (by omega), show c.length + j - c.length = j by omega]; exact hv)
        rwa [show o' + (c.length + j) = o' + es + j by omega] at this
/-- One element written anew. -/
theorem RowM.set {g : Gh} {w w' : World} (hl : Le g w g w') {b es : Nat} : ∀ {xs : List D} {o i : Nat} {x : D} {c : List Value}, RowM g w b es o xs → i < xs.length →
    Cs g w x c → c.length = es → At w' b (o + i * es) c → (∀ q, ¬ (o + i * es ≤ q ∧ q < o + i * es + es) → w'.cell? ⟨b, q, none⟩ = w.cell? ⟨b, q, none⟩) → RowM g w' b es o (xs.set i x)
  | d :: ds, o, 0, x, c, ⟨_, h⟩, _, hc, hlen, ha, hout => by
    refine ⟨⟨c, Cs.le hl x c hc, hlen, by simpa using ha⟩, RowM.keep hl b es (o + es) ds (fun j hj => hout _ (by simp only [Nat.zero_mul]; omega)) h⟩
  | d :: ds, o, i + 1, x, c, ⟨⟨c0, h1, h2, h3⟩, h⟩, hi, hc, hlen, ha, hout => by
    have e : o + (i + 1) * es = o + es + i * es := by rw [Nat.succ_mul]; omega
    rw [e] at ha hout
    refine ⟨⟨c0, Cs.le hl d c0 h1, h2, fun j v hv => ?_⟩, RowM.set hl h (by simpa using hi) hc hlen ha hout⟩
    have hj : j < c0.length := (List.getElem?_eq_some_iff.1 hv).1
    rw [hout (o + j) (by omega)]
    exact h3 j v hv
  | [], _, _, _, _, _, hi, _, _, _, _ => by simp at hi

/-! ### A slice's elements -/
theorem rowOf_sound {g : Gh} {w : World} {h : Hp} (q : Hq g w h) {id ver : Nat} {k : Inc} {xs : List D} (hk : g.inc id ver = some k) (hx : rowOf h id ver = some xs) :
    ∃ ob i, h[id]? = some ob ∧ g.inc id ob.ver = some i ∧ xs = ob.xs ∧ ob.minv ≤ ver ∧ ver ≤ ob.ver ∧ k.es = ob.es ∧ RowM g w k.blk ob.es 0 (ob.xs.take k.n) ∧ k.n ≤ ob.xs.length := by
  unfold rowOf at hx
  cases ho : h[id]? with
  | none => simp [ho] at hx
  | some ob =>
    simp only [ho] at hx
    split at hx
    · rename_i hv
      injection hx with hx
      obtain ⟨i, hi⟩ := q.cur id ob ver k ho hk
      have o := q.obs id ob i ho hi
      obtain ⟨k', hk', he, hn, hr⟩ := o.incs ver hv.1 hv.2
      rw [hk] at hk'; injection hk' with hk'; subst hk'
      exact ⟨ob, i, rfl, hi, hx.symm, hv.1, hv.2, he, hr, by rw [← o.n]; exact hn⟩
    · cases hx

/-- What stands behind a slice's value. -/
structure SlOk (g : Gh) (w : World) (es : Nat) (xs : List D) (v : Value) : Prop where
  mk :: (out : ∃ A cap, v = .slice A xs.length cap ∧ xs.length ≤ cap ∧ (xs = [] ∨ ∃ b o, A = some ⟨b, o, none⟩ ∧ RowM g w b es o xs))

theorem elemsOf_sound {g : Gh} {w : World} {h : Hp} (q : Hq g w h) {es : Nat} {d : D} {xs : List D} {v : Value} (he : elemsOf h es d = some xs) (hv : V g w d v) : SlOk g w es xs v := by
  unfold elemsOf at he
  split at he
  · injection he with he; subst he
    simp only [V, V1, Cs] at hv
    obtain ⟨hv, _⟩ := hv
    injection hv with hv; subst hv
    exact ⟨none, 0, rfl, Nat.le_refl _, .inl rfl⟩
  · rename_i e ys tg
    simp only [V, V1, Cs] at hv
    obtain ⟨b, o, sp, cap, hv, h1, h2, h3, hsp⟩ := hv
    injection hv with hv; subst hv
    split at he
    · rename_i hc
      injection he with he; subst he
      refine ⟨_, cap, rfl, h1, ?_⟩
      simp only [Bool.or_eq_true, List.isEmpty_iff, beq_iff_eq] at hc
      by_cases hxs : ys = []
      · exact .inl hxs
      · have := hsp hxs
        subst this
        rcases hc with rfl | rfl
        · exact absurd rfl hxs
        · exact .inr ⟨b, o, rfl, h3.row⟩
    · cases he
  · rename_i e id ver off len tg
    simp only [V, V1, Cs] at hv
    obtain ⟨i, cap, h1, h2, hv, h3, h4, h5⟩ := hv
    injection hv with hv; subst hv
    split at he
    · rename_i hc
      have hc := beq_iff_eq.1 hc
      subst hc
      cases hr : rowOf h id ver with
      | none => simp [hr] at he
      | some zs =>
        simp only [hr] at he
        split at he
        · rename_i hlen
          injection he with he; subst he
          obtain ⟨ob, i', ho, hi', rfl, hm, hM, hes, hrow, hn⟩ := rowOf_sound q h1 hr
          have hl : ((ob.xs.drop off).take len).length = len := by simp; omega
          refine ⟨_, cap, by rw [hl], by rw [hl]; exact h4, .inr ⟨i.blk, off * e, rfl, ?_⟩⟩
          have := (RowM.drop off hrow).take len
          rw [List.drop_take, List.take_take, Nat.min_eq_left (by omega), Nat.zero_add, ← hes, h2] at this
          exact this
        · cases he
    · cases he
  · cases he
end Go.Rex
