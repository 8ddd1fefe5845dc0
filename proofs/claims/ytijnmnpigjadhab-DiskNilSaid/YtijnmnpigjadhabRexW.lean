import Derived.Test.YtijnmnpigjadhabRexV
/- Rex, part W: regions that draw their order: what the order leaves as it is. -/
set_option linter.unusedVariables false
set_option linter.unusedSimpArgs false
namespace Go.Rex
open Go.RowKit Go.Lib

theorem fillD_congr {szs : List Nat} {s s' : List D} : ∀ (ps : List (Nat × Opd)) (z : List D), (∀ p ∈ ps, p.2.ev s = p.2.ev s') → fillD szs s z ps = fillD szs s' z ps
  | [], z, _ => by simp [fillD]
  | (i, x) :: ps, z, h => by
    have h1 : x.ev s = x.ev s' := h (i, x) (by simp)
    simp only [fillD, h1]
    rw [fillD_congr ps _ (fun p hp => h p (by simp [hp]))]
theorem natOr_congr {s s' : List D} {n : Nat} : ∀ (x : Option Opd), (∀ y ∈ optO x, y.ev s = y.ev s') → natOr n s x = natOr n s' x
  | none, _ => rfl
  | some y, h => by simp only [natOr, h y (by simp [optO])]
theorem optNat_congr {s s' : List D} : ∀ (x : Option Opd), (∀ y ∈ optO x, y.ev s = y.ev s') → optNat s x = optNat s' x
  | none, _ => rfl
  | some y, h => by simp only [optNat, h y (by simp [optO])]
theorem map_ev_congr {s s' : List D} {xs : List Opd} (h : ∀ x ∈ xs, x.ev s = x.ev s') : xs.map (fun x => x.ev s) = xs.map (fun x => x.ev s') := List.map_congr_left h

theorem RO.run_congr {call : CallF} {s s' : List D} {h : Hp} (ro : RO) (hx : ∀ x ∈ ro.opds, x.ev s = x.ev s') : ro.run call s h = ro.run call s' h := by
  cases ro with
  | build szs z ps => simp only [RO.run]; rw [fillD_congr ps z (fun p hp => hx _ (by simp only [RO.opds, List.mem_map]; exact ⟨p, hp, rfl⟩))]
  | bsl m es z ps => simp only [RO.run]; rw [fillD_congr ps z (fun p hp => hx _ (by simp only [RO.opds, List.mem_map]; exact ⟨p, hp, rfl⟩))]
  | mkf f n caps => simp only [RO.run]; rw [map_ev_congr (xs := caps) hx]
  | mm mx xs => simp only [RO.run]; rw [map_ev_congr (xs := xs) hx]
  | sls x lo hi =>
    simp only [RO.opds, List.mem_cons, List.mem_append] at hx
    simp only [RO.run, hx x (.inl rfl), natOr_congr lo (fun y hy => hx y (.inr (.inl hy)))]
    split
    · rw [natOr_congr hi (fun y hy => hx y (.inr (.inr hy)))]
    · rfl
  | slc es x lo hi mx =>
    simp only [RO.opds, List.mem_cons, List.mem_append] at hx
    simp only [RO.run, hx x (.inl rfl), natOr_congr lo (fun y hy => hx y (.inr (.inl (.inl hy)))), optNat_congr hi (fun y hy => hx y (.inr (.inl (.inr hy)))), optNat_congr mx (fun y hy => hx y (.inr (.inr hy)))]
  | sla es n x lo hi =>
    simp only [RO.opds, List.mem_cons, List.mem_append] at hx
    simp only [RO.run, hx x (.inl rfl), natOr_congr lo (fun y hy => hx y (.inr (.inl hy))), natOr_congr hi (fun y hy => hx y (.inr (.inr hy)))]
  | call f xs =>
    simp only [RO.opds, List.mem_cons] at hx
    simp only [RO.run, hx f (.inl rfl), map_ev_congr (fun y hy => hx y (.inr hy))]
  | len b x => cases b <;> simp only [RO.run, hx x (by simp [RO.opds])]
  | mv x => simp only [RO.run, hx x (by simp [RO.opds])]
  | box m x => simp only [RO.run, hx x (by simp [RO.opds])]
  | arr m x => simp only [RO.run, hx x (by simp [RO.opds])]
  | ld m n x => simp only [RO.run, hx x (by simp [RO.opds])]
  | nck x => simp only [RO.run, hx x (by simp [RO.opds])]
  | un op x => simp only [RO.run, hx x (by simp [RO.opds])]
  | cvi k x => simp only [RO.run, hx x (by simp [RO.opds])]
  | cvs x => simp only [RO.run, hx x (by simp [RO.opds])]
  | b2s x => simp only [RO.run, hx x (by simp [RO.opds])]
  | s2b m x => simp only [RO.run, hx x (by simp [RO.opds])]
  | fa s i x => simp only [RO.run, hx x (by simp [RO.opds])]
  | fld a s i x => simp only [RO.run, hx x (by simp [RO.opds])]
  | ext x i => simp only [RO.run, hx x (by simp [RO.opds])]
  | cap x => simp only [RO.run, hx x (by simp [RO.opds])]
  | clr es z x => simp only [RO.run, hx x (by simp [RO.opds])]
  | pick c a b => simp only [RO.run, hx c (by simp [RO.opds]), hx a (by simp [RO.opds]), hx b (by simp [RO.opds])]
  | st n x y => simp only [RO.run, hx x (by simp [RO.opds]), hx y (by simp [RO.opds])]
  | bin op x y => simp only [RO.run, hx x (by simp [RO.opds]), hx y (by simp [RO.opds])]
  | eq n e x y => simp only [RO.run, hx x (by simp [RO.opds]), hx y (by simp [RO.opds])]
  | msl m es lim z x y => simp only [RO.run, hx x (by simp [RO.opds]), hx y (by simp [RO.opds])]
  | ia es x y => simp only [RO.run, hx x (by simp [RO.opds]), hx y (by simp [RO.opds])]
  | iaA es n x y => simp only [RO.run, hx x (by simp [RO.opds]), hx y (by simp [RO.opds])]
  | ixS x y => simp only [RO.run, hx x (by simp [RO.opds]), hx y (by simp [RO.opds])]
  | app es lim x y => simp only [RO.run, hx x (by simp [RO.opds]), hx y (by simp [RO.opds])]
  | appS lim x y => simp only [RO.run, hx x (by simp [RO.opds]), hx y (by simp [RO.opds])]
  | appZ es lim z x y => simp only [RO.run, hx x (by simp [RO.opds]), hx y (by simp [RO.opds])]
  | cpy es x y => simp only [RO.run, hx x (by simp [RO.opds]), hx y (by simp [RO.opds])]

/-- Slots that agree where the operation looks. -/
def Agree (o : ROp) (s s' : List D) : Prop := ∀ t ∈ o.reads, s.getD t und = s'.getD t und
theorem Agree.run {o : ROp} {s s' : List D} (h : Agree o s s') (call : CallF) (hp : Hp) : o.op.run call s hp = o.op.run call s' hp := by
  refine RO.run_congr _ (fun x hx => ?_)
  cases x with
  | c d => rfl
  | t n =>
    refine h n ?_
    unfold ROp.reads
    refine List.mem_append_left _ (List.mem_flatMap.2 ⟨_, hx, ?_⟩)
    simp [Opd.tmps]
theorem Agree.wanted {o : ROp} {s s' : List D} (h : Agree o s s') : o.wanted s = o.wanted s' := by
  unfold ROp.wanted
  split
  · rfl
  · rename_i t b hg
    rw [h t (by unfold ROp.reads; rw [hg]; simp)]

/-! ### What has been done so far -/
abbrev Tr := (ROp × Nat) × D
def replay (L : Nat → Bool) : List Tr → List D → List D
  | [], s => s
  | e :: r, s => replay L r (if L e.1.2 then putD s e.1.1.dst e.2 else s)
theorem replay_append (L : Nat → Bool) : ∀ (p q : List Tr) (s : List D), replay L (p ++ q) s = replay L q (replay L p s)
  | [], q, s => rfl
  | e :: p, q, s => by simp only [List.cons_append, replay]; exact replay_append L p q _

theorem putD_get {s : List D} {dst : Option Nat} {d : D} {t : Nat} (h : dst ≠ some t) : (putD s dst d).getD t und = s.getD t und := by
  cases dst with
  | none => rfl
  | some u =>
    have hne : u ≠ t := fun e => h (by rw [e])
    simp only [putD, List.getD_eq_getElem?_getD, List.getElem?_set_ne hne]
theorem putD_comm {s : List D} {x y : Option Nat} {d e : D} (h : x = none ∨ x ≠ y) : putD (putD s x d) y e = putD (putD s y e) x d := by
  cases x with
  | none => rfl
  | some u =>
    cases y with
    | none => rfl
    | some v =>
      have hne : u ≠ v := by
        rcases h with h | h
        · cases h
        · exact fun e => h (by rw [e])
      simp only [putD]
      rw [List.set_comm _ _ hne]

theorem apart_spec {x y : ROp} (h : ROp.apart x y = true) : (∀ t ∈ y.reads, x.dst ≠ some t) ∧ (∀ t ∈ x.reads, y.dst ≠ some t) ∧ (x.dst = none ∨ x.dst ≠ y.dst) := by
  unfold ROp.apart at h
  simp only [Bool.and_eq_true, Bool.not_eq_true', Bool.or_eq_true, Option.isNone_iff_eq_none, bne_iff_ne, ne_eq] at h
  obtain ⟨⟨h1, h2⟩, h3⟩ := h
  refine ⟨fun t ht e => ?_, fun t ht e => ?_, h3⟩
  · rw [e] at h1; simp [optN, ht] at h1
  · rw [e] at h2; simp [optN, ht] at h2

theorem replay_skip {L : Nat → Bool} {o : ROp} : ∀ (q : List Tr) (s : List D), (∀ e ∈ q, L e.1.2 = false ∨ ROp.apart o e.1.1 = true) → ∀ t ∈ o.reads, (replay L q s).getD t und = s.getD t und
  | [], s, _, t, _ => rfl
  | e :: q, s, h, t, ht => by
    simp only [replay]
    rw [replay_skip q _ (fun x hx => h x (by simp [hx])) t ht]
    split
    · rename_i hL
      have := (h e (by simp)).resolve_left (by rw [hL]; simp)
      exact putD_get ((apart_spec this).2.1 t ht)
    · rfl
theorem replay_same {L : Nat → Bool} {o : ROp} : ∀ (p : List Tr) (s s' : List D), (∀ e ∈ p, L e.1.2 = true ∨ ROp.apart e.1.1 o = true) → (∀ t ∈ o.reads, s.getD t und = s'.getD t und) → (∀ e ∈ p, s.length = s'.length) →
    ∀ t ∈ o.reads, (replay L p s).getD t und = (replay (fun _ => true) p s').getD t und
  | [], s, s', _, h, _, t, ht => h t ht
  | e :: p, s, s', h, hs, hl, t, ht => by
    simp only [replay, if_true]
    have hlen := hl e (by simp)
    have put_len : ∀ (s : List D) (x : Option Nat) (d : D), (putD s x d).length = s.length := by
      intro s x d; cases x <;> simp [putD]
    refine replay_same p _ _ (fun x hx => h x (by simp [hx])) (fun u hu => ?_) (fun _ _ => by split <;> simp [put_len, hlen]) t ht
    split
    · by_cases he : e.1.1.dst = some u
      · rw [he]
        simp only [putD, List.getD_eq_getElem?_getD, List.getElem?_set_self']
        have := hs u hu
        simp only [List.getD_eq_getElem?_getD] at this
        by_cases hlt : u < s.length
        · have hlt' : u < s'.length := by omega
          simp [hlt, hlt']
        · have hlt' : ¬ u < s'.length := by omega
          simp [List.getElem?_eq_none (Nat.le_of_not_lt hlt), List.getElem?_eq_none (Nat.le_of_not_lt hlt')]
      · rw [putD_get he, putD_get he]; exact hs u hu
    · rename_i hL
      have := (h e (by simp)).resolve_left hL
      rw [putD_get ((apart_spec this).1 u hu)]
      exact hs u hu
/-- What the operation looks at is as it was in the one order. -/
theorem replay_read {L : Nat → Bool} {o : ROp} {i : Nat} {d : D} {p q : List Tr} {s : List D} (hi : L i = false) (hp : ∀ e ∈ p, L e.1.2 = true ∨ ROp.apart e.1.1 o = true) (hq : ∀ e ∈ q, L e.1.2 = false ∨ ROp.apart o e.1.1 = true) :
    Agree o (replay L (p ++ ((o, i), d) :: q) s) (replay (fun _ => true) p s) := by
  intro t ht
  rw [replay_append]
  simp only [replay, hi, Bool.false_eq_true, if_false]
  rw [replay_skip q _ hq t ht]
  exact replay_same p s s hp (fun _ _ => rfl) (fun _ _ => rfl) t ht
theorem replay_put {L : Nat → Bool} {o : ROp} {d : D} : ∀ (q : List Tr) (s : List D), (∀ e ∈ q, L e.1.2 = false ∨ ROp.apart o e.1.1 = true) → replay L q (putD s o.dst d) = putD (replay L q s) o.dst d
  | [], s, _ => rfl
  | e :: q, s, h => by
    simp only [replay]
    rw [← replay_put q _ (fun x hx => h x (by simp [hx]))]
    congr 1
    split
    · rename_i hL
      have := (h e (by simp)).resolve_left (by rw [hL]; simp)
      exact putD_comm (apart_spec this).2.2
    · rfl
theorem replay_ext {L L' : Nat → Bool} : ∀ (p : List Tr) (s : List D), (∀ e ∈ p, L e.1.2 = L' e.1.2) → replay L p s = replay L' p s
  | [], s, _ => rfl
  | e :: p, s, h => by
    simp only [replay, h e (by simp)]
    exact replay_ext p _ (fun x hx => h x (by simp [hx]))
/-- One more is done. -/
theorem replay_more {L L' : Nat → Bool} {o : ROp} {i : Nat} {d : D} {p q : List Tr} {s : List D} (hi : L i = false) (hi' : L' i = true) (hne : ∀ j, j ≠ i → L' j = L j) (hp : ∀ e ∈ p, e.1.2 ≠ i) (hqi : ∀ e ∈ q, e.1.2 ≠ i)
    (hq : ∀ e ∈ q, L e.1.2 = false ∨ ROp.apart o e.1.1 = true) : replay L' (p ++ ((o, i), d) :: q) s = putD (replay L (p ++ ((o, i), d) :: q) s) o.dst d := by
  rw [replay_append, replay_append]
  simp only [replay, hi, hi', if_true, Bool.false_eq_true, if_false]
  rw [replay_ext p s (fun e he => hne _ (hp e he)), replay_ext q _ (fun e he => hne _ (hqi e he)), replay_put q _ hq]

/-! ### The one order's run -/
def EntOk (call : CallF) (H : List Hp) (o : ROp) (s : List D) (k : Nat) (d : D) : Prop :=
  if o.wanted s then
    if o.wr then ∃ h h', H[k]? = some h ∧ H[k + 1]? = some h' ∧ o.op.run call s h = some (d, h')
    else ∀ j h, o.lo ≤ j → j ≤ o.hi → H[j]? = some h → ∃ h', o.op.run call s h = some (d, h')
  else d = und ∧ (o.wr = true → ∃ h, H[k]? = some h ∧ H[k + 1]? = some h)
def DrawOk (call : CallF) (H : List Hp) : List ROp → List D → List D → Nat → List D → Prop
  | [], [], s, k, s' => s' = s ∧ k + 1 = H.length
  | o :: r, d :: ds, s, k, s' => EntOk call H o s k d ∧ DrawOk call H r ds (putD s o.dst d) (if o.wr then k + 1 else k) s'
  | _, _, _, _, _ => False

mutual
theorem same_eq : ∀ (d e : D), D.same d e = true → d = e
  | .lit a, e, h => by
    cases e <;> (try (unfold D.same at h; cases a <;> simp at h; done))
    rename_i b
    unfold D.same at h
    split at h <;> (try contradiction) <;> simp_all
  | .agg szs fs, e, h => by
    cases e <;> unfold D.same at h <;> (try simp at h)
    rw [h.1, sameL_eq _ _ h.2]
  | .tup fs, e, h => by
    cases e <;> unfold D.same at h <;> (try simp at h)
    rw [sameL_eq _ _ h]
  | .sl es xs tg, e, h => by
    cases e <;> unfold D.same at h <;> (try simp at h)
    rw [h.1.1, sameL_eq _ _ h.1.2, h.2]
  | .pv d, e, h => by
    cases e <;> unfold D.same at h <;> (try simp at h)
    rw [same_eq _ _ h]
  | .mo .., e, h => by
    cases e <;> unfold D.same at h <;> (try simp at h)
    simp [h]
  | .ptr .., e, h => by
    cases e <;> unfold D.same at h <;> (try simp at h)
    simp [h]
  | .fn f n fs, e, h => by
    cases e <;> unfold D.same at h <;> (try simp at h)
    rw [h.1.1, h.1.2, sameL_eq _ _ h.2]
theorem sameL_eq : ∀ (d e : List D), sameL d e = true → d = e
  | [], [], _ => rfl
  | a :: l, b :: l', h => by
    simp only [sameL, Bool.and_eq_true] at h
    rw [same_eq _ _ h.1, sameL_eq _ _ h.2]
  | [], _ :: _, h => by simp [sameL] at h
  | _ :: _, [], h => by simp [sameL] at h
end

theorem Rec.ok_spec {call : CallF} {H : List Hp} {r : Rec} (hr : Rec.ok call H r = true) {j : Nat} {h : Hp} (h1 : r.o.lo ≤ j) (h2 : j ≤ r.o.hi) (hj : H[j]? = some h) : ∃ h', r.o.op.run call r.s h = some (r.d, h') := by
  unfold Rec.ok at hr
  rw [List.all_eq_true] at hr
  have hlt := (List.getElem?_eq_some_iff.1 hj).1
  have := hr j (by simpa using hlt)
  simp only [h1, h2, decide_true, Bool.and_self, if_true, hj] at this
  split at this
  · rename_i d' h' hrun
    rw [hrun]
    exact ⟨h', by rw [same_eq _ _ this]⟩
  · cases this

theorem free_run {call : CallF} {s : List D} {h h' h2 : Hp} {o : RO} {d : D} (hf : o.free = true) (hr : o.run call s h = some (d, h')) : o.run call s h2 = some (d, h2) := by
  have key : ∀ (x : Hp → Option (D × Hp)), x h = some (d, h') → (∀ d' h1, x h = some (d', h1) → x h2 = some (d', h2)) → x h2 = some (d, h2) := fun x h1 h2 => h2 _ _ h1
  refine key (fun h => o.run call s h) hr (fun d' h1 hr => ?_)
  cases o <;> simp only [RO.free] at hf <;> (try contradiction)
  case box m x _ =>
    cases m <;> (try contradiction)
    simp only [RO.run] at hr ⊢
    split at hr <;> (try contradiction)
    rename_i hc
    rw [if_neg hc]
    (first | (injection hr with hr; injection hr with e1 e2; subst e1; rfl) | (simp only [Bool.false_eq_true, if_false] at hr ⊢; injection hr with hr; injection hr with e1 e2; subst e1; rfl))
  case bsl m es z ps _ =>
    cases m <;> (try contradiction)
    simp only [RO.run] at hr ⊢
    split at hr <;> (try contradiction)
    (first | (injection hr with hr; injection hr with e1 e2; subst e1; rfl) | (simp only [Bool.false_eq_true, if_false] at hr ⊢; injection hr with hr; injection hr with e1 e2; subst e1; rfl))
  case s2b m x _ =>
    cases m <;> (try contradiction)
    simp only [RO.run] at hr ⊢
    split at hr <;> (try contradiction)
    (first | (injection hr with hr; injection hr with e1 e2; subst e1; rfl) | (simp only [Bool.false_eq_true, if_false] at hr ⊢; injection hr with hr; injection hr with e1 e2; subst e1; rfl))
  case msl m es lim z l c _ =>
    cases m <;> (try contradiction)
    simp only [RO.run] at hr ⊢
    split at hr <;> (try contradiction)
    split at hr <;> (try contradiction)
    rename_i hc
    rw [if_pos hc]
    (first | (injection hr with hr; injection hr with e1 e2; subst e1; rfl) | (simp only [Bool.false_eq_true, if_false] at hr ⊢; injection hr with hr; injection hr with e1 e2; subst e1; rfl))
  case len m x _ =>
    cases m <;> simp only [RO.run] at hr ⊢ <;> (split at hr <;> (try contradiction)) <;> (first | (injection hr with hr; injection hr with e1 e2; subst e1; rfl) | (simp only [Bool.false_eq_true, if_false] at hr ⊢; injection hr with hr; injection hr with e1 e2; subst e1; rfl))
  case fa szs i x _ =>
    simp only [RO.run] at hr ⊢
    split at hr <;> (try contradiction)
    · split at hr <;> (try contradiction)
      rename_i hc
      rw [if_pos hc]
      split at hr <;> (try contradiction)
      (first | (injection hr with hr; injection hr with e1 e2; subst e1; rfl) | (simp only [Bool.false_eq_true, if_false] at hr ⊢; injection hr with hr; injection hr with e1 e2; subst e1; rfl))
    · split at hr <;> (try contradiction)
      rename_i hc
      rw [if_pos hc]
      (first | (injection hr with hr; injection hr with e1 e2; subst e1; rfl) | (simp only [Bool.false_eq_true, if_false] at hr ⊢; injection hr with hr; injection hr with e1 e2; subst e1; rfl))
  all_goals
    simp only [RO.run] at hr ⊢
    repeat' (first | contradiction | split at hr)
    all_goals (try contradiction)
    all_goals (first | (simp_all; done) | skip)
theorem drawRun_spec {call : CallF} : ∀ (ops : List ROp) (st st' : St) (hs : List Hp) (rs : List Rec), drawRun call ops st hs rs = some st' → (∃ p, hs = p ++ [st.h]) →
    ∃ H ds, (∃ q, H = hs ++ q) ∧ (∀ r ∈ rs, Rec.ok call H r = true) ∧ DrawOk call H ops ds st.s (hs.length - 1) st'.s ∧ H.getLast? = some st'.h
  | [], st, st', hs, rs, hr, ⟨p, hp⟩ => by
    simp only [drawRun] at hr
    split at hr <;> (try contradiction)
    rename_i hall
    injection hr with hr; subst hr
    refine ⟨hs, [], ⟨[], by simp⟩, by simpa [List.all_eq_true] using hall, ⟨rfl, ?_⟩, by rw [hp]; simp⟩
    rw [hp]; simp
  | o :: ops, st, st', hs, rs, hr, ⟨p, hp⟩ => by
    have hlen : hs.length = p.length + 1 := by rw [hp]; simp
    have hk : ∀ q : List Hp, (hs ++ q)[hs.length - 1]? = some st.h := by
      intro q; rw [hp]; simp
    simp only [drawRun] at hr
    by_cases hw : o.wanted st.s = true
    · simp only [hw, if_true] at hr
      cases hrun : o.op.run call st.s st.h with
      | none => simp [hrun] at hr
      | some x =>
        obtain ⟨d, h'⟩ := x
        simp only [hrun] at hr
        by_cases hwr : o.wr = true
        · simp only [hwr, if_true] at hr
          obtain ⟨H, ds, ⟨q, hH⟩, hrs, hd, hl⟩ := drawRun_spec ops _ st' _ _ hr ⟨hs, rfl⟩
          refine ⟨H, d :: ds, ⟨[h'] ++ q, by rw [hH]; simp⟩, hrs, ⟨?_, ?_⟩, hl⟩
          · unfold EntOk
            simp only [hw, hwr, if_true]
            refine ⟨st.h, h', by rw [hH, List.append_assoc]; exact hk _, ?_, hrun⟩
            rw [hH, List.append_assoc, show hs.length - 1 + 1 = hs.length by omega]; simp
          · simp only [hwr, if_true]
            simp only [List.length_append, List.length_singleton, Nat.add_sub_cancel] at hd
            rw [show hs.length - 1 + 1 = hs.length by omega]
            exact hd
        · have hwr : o.wr = false := by simpa using hwr
          simp only [hwr, Bool.false_eq_true, if_false] at hr
          obtain ⟨H, ds, ⟨q, hH⟩, hrs, hd, hl⟩ := drawRun_spec ops _ st' _ _ hr ⟨p, hp⟩
          refine ⟨H, d :: ds, ⟨q, hH⟩, ?_, ⟨?_, by simpa [hwr] using hd⟩, hl⟩
          · intro r hr'
            refine hrs r ?_
            split
            · exact hr'
            · simp [hr']
          · unfold EntOk
            simp only [hw, hwr, if_true, Bool.false_eq_true, if_false]
            intro j h h1 h2 hj
            by_cases hc : noRec o hs.length = true
            · simp only [noRec, Bool.or_eq_true, Bool.and_eq_true, beq_iff_eq] at hc
              rcases hc with hc | hc
              · exact ⟨h, free_run hc hrun⟩
              · have : j = hs.length - 1 := by omega
                subst this
                rw [hH, hk] at hj
                injection hj with hj; subst hj
                exact ⟨h', hrun⟩
            · rw [if_neg hc] at hrs
              exact Rec.ok_spec (hrs ⟨o, st.s, d⟩ (by simp)) h1 h2 hj
    · have hw : o.wanted st.s = false := by simpa using hw
      simp only [hw, Bool.false_eq_true, if_false] at hr
      by_cases hwr : o.wr = true
      · simp only [hwr, if_true] at hr
        obtain ⟨H, ds, ⟨q, hH⟩, hrs, hd, hl⟩ := drawRun_spec ops _ st' _ _ hr ⟨hs, rfl⟩
        refine ⟨H, und :: ds, ⟨[st.h] ++ q, by rw [hH]; simp⟩, hrs, ⟨?_, ?_⟩, hl⟩
        · unfold EntOk
          simp only [hw, Bool.false_eq_true, if_false]
          refine ⟨trivial, fun _ => ⟨st.h, by rw [hH, List.append_assoc]; exact hk _, ?_⟩⟩
          rw [hH, List.append_assoc, show hs.length - 1 + 1 = hs.length by omega]; simp
        · simp only [hwr, if_true]
          simp only [List.length_append, List.length_singleton, Nat.add_sub_cancel] at hd
          rw [show hs.length - 1 + 1 = hs.length by omega]
          exact hd
      · have hwr : o.wr = false := by simpa using hwr
        simp only [hwr, Bool.false_eq_true, if_false] at hr
        obtain ⟨H, ds, hH, hrs, hd, hl⟩ := drawRun_spec ops _ st' _ _ hr ⟨p, hp⟩
        refine ⟨H, und :: ds, hH, hrs, ⟨?_, by simpa [hwr] using hd⟩, hl⟩
        unfold EntOk
        simp [hw, hwr]
end Go.Rex
