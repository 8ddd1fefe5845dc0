import Derived.Test.YtijnmnpigjadhabRexY
/- Rex, part Z: a region that draws its order, whatever the order. -/
set_option linter.unusedVariables false
set_option linter.unusedSimpArgs false
namespace Go.Rex
open Go.RowKit Go.Lib

theorem digOps_get {P : Program} {A : Ann} {f : FuncId} {id : Nat} {ops : Array Oper} : ∀ (os : List Oper) (k : Nat) (l : List ROp), digOps P A f id ops k os = some l → l.length = os.length ∧ ∀ (i : Nat) (o : Oper), os[i]? = some o → ∃ r, l[i]? = some r ∧ digOper P A f id ops (k + i) o = some r
  | [], k, l, h => by simp only [digOps, Option.some.injEq] at h; subst h; exact ⟨rfl, fun i o hi => by simp at hi⟩
  | o :: os, k, l, h => by
    simp only [digOps] at h
    split at h <;> (try contradiction)
    rename_i r l' hr hl
    injection h with h; subst h
    obtain ⟨h1, h2⟩ := digOps_get os (k + 1) l' hl
    refine ⟨by simp [h1], fun i o' hi => ?_⟩
    cases i with
    | zero => simp at hi; subst hi; exact ⟨r, rfl, hr⟩
    | succ i =>
      obtain ⟨r', k1, k2⟩ := h2 i o' (by simpa using hi)
      exact ⟨r', by simpa using k1, by rwa [show k + (i + 1) = k + 1 + i by omega]⟩

theorem drawOk_split {call : CallF} {H : List Hp} : ∀ (R : List (ROp × Nat)) (ds : List D) (s : List D) (k : Nat) (s' : List D), DrawOk call H (R.map (·.1)) ds s k s' →
    ∃ tr : List Tr, tr.map (·.1) = R ∧ s' = replay (fun _ => true) tr s ∧ k + R.countP (fun y => y.1.wr) + 1 = H.length ∧
    ∀ pre e post, tr = pre ++ e :: post → EntOk call H e.1.1 (replay (fun _ => true) pre s) (k + (pre.map (·.1)).countP (fun y => y.1.wr)) e.2
  | [], [], s, k, s', ⟨h1, h2⟩ => ⟨[], rfl, h1, by simpa using h2, fun pre e post h => by simp at h⟩
  | x :: R, d :: ds, s, k, s', ⟨h1, h2⟩ => by
    obtain ⟨tr, k1, k2, k3, k4⟩ := drawOk_split R ds _ _ s' h2
    refine ⟨(x, d) :: tr, by simp [k1], by simp [replay, k2], ?_, fun pre e post h => ?_⟩
    · rw [List.countP_cons]
      split at k3 <;> simp_all <;> omega
    · cases pre with
      | nil => simp at h; obtain ⟨rfl, _⟩ := h; simpa [replay] using h1
      | cons y pre =>
        simp only [List.cons_append, List.cons.injEq] at h
        obtain ⟨rfl, h⟩ := h
        have := k4 pre e post h
        simp only [List.map_cons, List.countP_cons, replay, if_true]
        split at this
        · rename_i hw; simp only [hw, if_true]; rwa [show k + 1 + (pre.map (·.1)).countP (fun y => y.1.wr) = k + ((pre.map (·.1)).countP (fun y => y.1.wr) + 1) by omega] at this
        · rename_i hw; simpa [hw] using this
  | [], _ :: _, _, _, _, h => h.elim
  | _ :: _, [], _, _, _, h => h.elim

section
variable {P : Program} {A : Ann} {call : CallF} {f : FuncId} {id : Nat} {ops : Array Oper} {l : List ROp} {b : List Nat}

/-- What is known of such a region. -/
structure Drawn (P : Program) (A : Ann) (call : CallF) (f : FuncId) (id : Nat) (ops : Array Oper) (l : List ROp) (b : List Nat) (trE trR : List Tr) (s0 : List D) (h0 : Hp) (obs : List Ob) (H : List Hp) : Prop where
  dig : digOps P A f id ops 0 ops.toList = some l
  bok : bOk b 0 ops.toList = true
  pairs : pairsOk b (earlyOf l ++ lateOf b l) = true
  calls : CallOk P call
  scal : ScalOk A call
  E : trE.map (·.1) = earlyOf l
  R : trR.map (·.1) = lateOf b l
  ones : ∀ (p : Nat) (e : Tr), trE[p]? = some e → ∃ ob, obs[p]? = some ob ∧ EarlyOne e.1.1 e.2 ob (h0.length + p)
  ents : ∀ pre e post, trR = pre ++ e :: post → EntOk call H e.1.1 (replay (fun _ => true) (trE ++ pre) s0) ((pre.map (·.1)).countP (fun y => y.1.wr)) e.2

structure Inv (l : List ROp) (b : List Nat) (trE trR : List Tr) (s0 : List D) (h0 : Hp) (g0 : Gh) (w0 : World) (ds : List Deferred) (obs : List Ob) (H : List Hp) (L : Nat → Bool) (a : Act) (w : World) (g : Gh) (h : Hp) : Prop where
  hq : Hq g w h
  cur : H[(lateOf b l).countP (fun y => y.1.wr && L y.2)]? = some h
  slots : SlotsOk g w (replay L (trE ++ trR) s0) a
  ext : ExtN h0.length g0 w0 h0 g w h
  dorm : ∀ (p : Nat) (e : Tr), trE[p]? = some e → L e.1.2 = false → (∀ ver, g.inc (h0.length + p) ver = none) ∧ h[h0.length + p]? = obs[p]?
  defers : a.defers = ds

variable {trE trR : List Tr} {s0 : List D} {h0 : Hp} {g0 : Gh} {w0 : World} {ds : List Deferred} {obs : List Ob} {H : List Hp}

theorem nodup_split {p q : List Tr} {e : Tr} (h : ((p ++ e :: q).map (·.1.2)).Nodup) : (∀ y ∈ p, y.1.2 ≠ e.1.2) ∧ (∀ y ∈ q, y.1.2 ≠ e.1.2) := by
  rw [List.map_append, List.map_cons] at h
  have h1 := List.nodup_append.1 h
  refine ⟨fun y hy => h1.2.2 _ (List.mem_map.2 ⟨y, hy, rfl⟩) _ (by simp), fun y hy e1 => ?_⟩
  have h2 := (List.nodup_cons.1 h1.2.1).1
  exact h2 (e1 ▸ List.mem_map.2 ⟨y, hy, rfl⟩)

theorem countP_more {R : List (ROp × Nat)} {L L' : Nat → Bool} {i : Nat} (hi : L i = false) (hi' : L' i = true) (hne : ∀ j, j ≠ i → L' j = L j) (p q : List (ROp × Nat)) (x : ROp × Nat) (hR : R = p ++ x :: q) (hx : x.2 = i) (hp : ∀ y ∈ p, y.2 ≠ i) (hq : ∀ y ∈ q, y.2 ≠ i) :
    R.countP (fun y => y.1.wr && L' y.2) = R.countP (fun y => y.1.wr && L y.2) + if x.1.wr then 1 else 0 := by
  have e : ∀ (l : List (ROp × Nat)), (∀ y ∈ l, y.2 ≠ i) → l.countP (fun y => y.1.wr && L' y.2) = l.countP (fun y => y.1.wr && L y.2) := by
    intro l hl
    refine List.countP_congr (fun y hy => ?_)
    rw [hne _ (hl y hy)]
  rw [hR, List.countP_append, List.countP_append, List.countP_cons, List.countP_cons, e p hp, e q hq, hx, hi, hi']
  cases x.1.wr <;> simp <;> omega

/-- One operation of the region is done. -/
theorem draw_step (D0 : Drawn P A call f id ops l b trE trR s0 h0 obs H) {L L' : Nat → Bool} {a : Act} {w : World} {g : Gh} {h : Hp} (I : Inv l b trE trR s0 h0 g0 w0 ds obs H L a w g h) (hcl : Closed ops L)
    {i : Nat} {o : Oper} (ho : ops[i]? = some o) (hi : L i = false) (hedge : ∀ e ∈ o.after.toList, Region.binds .any e = true → L e.on = true) (hi' : L' i = true) (hne : ∀ j, j ≠ i → L' j = L j)
    {K : Act → World → Prop} {Q : Exit → Act → World → Prop} (hK : ∀ a' w' g' h', Inv l b trE trR s0 h0 g0 w0 ds obs H L' a' w' g' h' → K a' w') : wpOp P ops Q i K a w := by
  obtain ⟨hlen, hget⟩ := digOps_get _ _ _ D0.dig
  have ho' : ops.toList[i]? = some o := by simpa using ho
  obtain ⟨r, hr, hdig⟩ := hget i o ho'
  rw [Nat.zero_add] at hdig
  have hil : i < l.length := (List.getElem?_eq_some_iff.1 hr).1
  obtain ⟨x, hx, hxi⟩ := both_all (b := b) hil
  have hbefore := bef_in D0.bok hcl (i + 1) i (by omega) o ho hedge
  have hafter : ∀ j, L j = true → bef b i j = true → ∀ oj, ops[j]? = some oj → False := by
    intro j hj hb oj hoj
    have := bef_in D0.bok hcl (j + 1) j (by omega) oj hoj (fun e he hbd => hcl j oj hoj hj e he hbd) i hb
    rw [hi] at this; cases this
  have htr : (trE ++ trR).map (·.1) = earlyOf l ++ lateOf b l := by rw [List.map_append, D0.E, D0.R]
  have hnd : ((trE ++ trR).map (·.1.2)).Nodup := by
    have := both_nodup (b := b) (l := l)
    rw [← htr, List.map_map] at this
    exact this
  have alikeOf : ∀ y ∈ earlyOf l ++ lateOf b l, ∃ ry, l[y.2]? = some ry ∧ Alike y.1 ry := by
    intro y hy
    rcases List.mem_append.1 hy with hy | hy
    · exact ⟨y.1, (earlyOf_mem hy).1, rfl, rfl, rfl, rfl⟩
    · obtain ⟨ry, h1, h2, _⟩ := lateOf_mem hy; exact ⟨ry, h1, h2⟩
  have opOf : ∀ y ∈ earlyOf l ++ lateOf b l, ∃ oy, ops[y.2]? = some oy := by
    intro y hy
    obtain ⟨ry, h1, _⟩ := alikeOf y hy
    have hlt : y.2 < ops.size := by have := (List.getElem?_eq_some_iff.1 h1).1; rw [hlen] at this; simpa using this
    exact ⟨ops[y.2], by simp [hlt]⟩
  -- one place in the one order
  have facts : ∀ pre e post, trE ++ trR = pre ++ e :: post → e.1 = x →
      (∀ y ∈ pre, L y.1.2 = true ∨ ROp.apart y.1.1 e.1.1 = true) ∧ (∀ y ∈ post, L y.1.2 = false ∨ ROp.apart e.1.1 y.1.1 = true) ∧ (∀ y ∈ pre, y.1.2 ≠ i) ∧ (∀ y ∈ post, y.1.2 ≠ i) ∧
      (∀ y ∈ pre, early y.1.1 = false → y.1.1.wr = true → x.1.wr = true → L y.1.2 = true) ∧ (∀ y ∈ post, early x.1 = false → y.1.1.wr = true → x.1.wr = true → L y.1.2 = false) := by
    intro pre e post hsp hex
    have hps := D0.pairs
    rw [← htr, hsp, List.map_append, List.map_cons] at hps
    obtain ⟨k1, k2⟩ := pairs_split hps
    rw [hsp] at hnd
    obtain ⟨n1, n2⟩ := nodup_split hnd
    rw [hex, hxi] at n1 n2
    have mem : ∀ y ∈ pre ++ e :: post, y.1 ∈ earlyOf l ++ lateOf b l := by
      intro y hy; rw [← htr, hsp]; exact List.mem_map.2 ⟨y, hy, rfl⟩
    have q1 : ∀ y ∈ post, bef b e.1.2 y.1.2 = true → L y.1.2 = false := by
      intro y hy hb
      cases hLy : L y.1.2 with
      | false => rfl
      | true =>
        rw [hex, hxi] at hb
        obtain ⟨oy, hoy⟩ := opOf _ (mem y (by simp [hy]))
        exact (hafter _ hLy hb oy hoy).elim
    refine ⟨fun y hy => ?_, fun y hy => ?_, n1, n2, fun y hy hne hyw hxw => ?_, fun y hy hne hyw hxw => ?_⟩
    · rcases k2 y.1 (List.mem_map.2 ⟨y, hy, rfl⟩) with hb | ⟨hap, _⟩
      · rw [hex, hxi] at hb; exact .inl (hbefore _ hb)
      · exact .inr hap
    · rcases k1 y.1 (List.mem_map.2 ⟨y, hy, rfl⟩) with hb | ⟨hap, _⟩
      · exact .inl (q1 y hy hb)
      · exact .inr hap
    · rcases k2 y.1 (List.mem_map.2 ⟨y, hy, rfl⟩) with hb | ⟨_, he | he⟩
      · rw [hex, hxi] at hb; exact hbefore _ hb
      · rw [hne] at he; cases he
      · exact absurd ⟨hyw, by rw [hex]; exact hxw⟩ he
    · rcases k1 y.1 (List.mem_map.2 ⟨y, hy, rfl⟩) with hb | ⟨_, he | he⟩
      · exact q1 y hy hb
      · rw [hex, hne] at he; cases he
      · exact absurd ⟨by rw [hex]; exact hxw, hyw⟩ he
  unfold wpOp
  rw [ho]
  simp only
  rcases List.mem_append.1 hx with hxE | hxR
  · -- it makes an object, and looks at nothing
    have hxe := earlyOf_mem hxE
    rw [hxi, hr] at hxe
    obtain ⟨hxr, hearly⟩ := hxe
    injection hxr with hxr
    rw [← D0.E, List.mem_map] at hxE
    obtain ⟨e, he, hex⟩ := hxE
    obtain ⟨p, hp⟩ := List.getElem?_of_mem he
    have hsplit : trE = trE.take p ++ e :: trE.drop (p + 1) := by
      have hlt := (List.getElem?_eq_some_iff.1 hp).1
      have hg := (List.getElem?_eq_some_iff.1 hp).2
      rw [← hg, List.getElem_cons_drop, List.take_append_drop]
    obtain ⟨f1, f2, f3, f4, _, _⟩ := facts (trE.take p) e (trE.drop (p + 1) ++ trR) (by conv => lhs; rw [hsplit]; simp) hex
    obtain ⟨ob, hob, hone⟩ := D0.ones p e hp
    obtain ⟨hdst, ⟨m, hop⟩, _, _⟩ := digOper_spec hdig
    have hLe : L e.1.2 = false := by rw [hex, hxi]; exact hi
    obtain ⟨hnone, hcurob⟩ := I.dorm p e hp hLe
    have hw : Region.wanted o (yielded ops a.tmps) = true := by
      rw [wanted_sound I.slots hdig, hxr]
      unfold ROp.wanted
      rw [(early_spec hearly).1]
    have her : e.1.1 = r := by rw [hex]; exact hxr.symm
    rw [her] at hone
    obtain ⟨v, w', ii, hrun, hv, hq', hext⟩ := early_exec I.hq I.slots hop hone (by rw [hcurob]; exact hob) hnone
    rw [hw, if_pos rfl]
    refine .inl ?_
    unfold Oper.wp
    rw [hrun]
    refine hK (a.put o.dst v) w' _ h ⟨hq', ?_, ?_, I.ext.trans (hext _ (by omega)), fun p' e' hp' hL' => ?_, by rw [put_defers]; exact I.defers⟩
    · have hc : (lateOf b l).countP (fun y => y.1.wr && L' y.2) = (lateOf b l).countP (fun y => y.1.wr && L y.2) := by
        refine List.countP_congr (fun y hy => ?_)
        rw [← D0.R, List.mem_map] at hy
        obtain ⟨e2, he2, rfl⟩ := hy
        rw [hne _ (f4 e2 (List.mem_append_right _ he2))]
      rw [hc]; exact I.cur
    · have hrp : replay L' (trE ++ trR) s0 = putD (replay L (trE ++ trR) s0) o.dst e.2 := by
        have hsp2 : trE ++ trR = trE.take p ++ ((e.1.1, i), e.2) :: (trE.drop (p + 1) ++ trR) := by
          conv => lhs; rw [hsplit]
          have : e = ((e.1.1, i), e.2) := by rw [← hxi, ← hex]
          rw [← this]; simp
        rw [hsp2, replay_more hi hi' hne f3 f4 f2, her, hdst]
      rw [hrp]
      exact I.slots.put (hext 0 (Nat.zero_le _)).le hv
    · have hne' : e'.1.2 ≠ i := fun e1 => by rw [e1, hi'] at hL'; cases hL'
      rw [hne _ hne'] at hL'
      obtain ⟨n1, n2⟩ := I.dorm p' e' hp' hL'
      refine ⟨fun ver => ?_, n2⟩
      have hpp : p' ≠ p := fun e1 => by
        subst e1
        rw [hp] at hp'
        injection hp' with hp'
        rw [← hp', hex, hxi] at hne'
        exact hne' rfl
      show (if h0.length + p' = h0.length + p ∧ ver = 0 then some ii else g.inc (h0.length + p') ver) = none
      rw [if_neg (by omega)]; exact n1 ver
  · -- any other
    obtain ⟨r', hr', halike, hlate⟩ := lateOf_mem hxR
    rw [hxi, hr] at hr'
    injection hr' with hr'
    subst hr'
    have hbounds := lateOf_bounds hxR
    have hxR' := hxR
    rw [← D0.R, List.mem_map] at hxR'
    obtain ⟨e, he, hex⟩ := hxR'
    obtain ⟨pre, post, hsplit⟩ := List.append_of_mem he
    have hsp : trE ++ trR = (trE ++ pre) ++ e :: post := by rw [hsplit]; simp
    obtain ⟨f1, f2, f3, f4, f5, f6⟩ := facts (trE ++ pre) e post hsp hex
    have hent := D0.ents pre e post hsplit
    obtain ⟨hdst, ⟨m, hop⟩, hwrd, _⟩ := digOper_spec hdig
    have heq : e = ((e.1.1, i), e.2) := by rw [← hxi, ← hex]
    have hsp2 : trE ++ trR = (trE ++ pre) ++ ((e.1.1, i), e.2) :: post := by rw [← heq]; exact hsp
    have hagree : Agree e.1.1 (replay L (trE ++ trR) s0) (replay (fun _ => true) (trE ++ pre) s0) := by
      rw [hsp2]
      exact replay_read hi f1 f2
    have he1 : e.1.1 = x.1 := by rw [hex]
    have hRsplit : lateOf b l = pre.map (·.1) ++ x :: post.map (·.1) := by rw [← D0.R, hsplit]; simp [hex]
    have hmore := countP_more hi hi' hne (pre.map (·.1)) (post.map (·.1)) x hRsplit hxi (by
      intro y hy; rw [List.mem_map] at hy; obtain ⟨y', hy', rfl⟩ := hy; exact f3 y' (by simp [hy'])) (by
      intro y hy; rw [List.mem_map] at hy; obtain ⟨y', hy', rfl⟩ := hy; exact f4 y' hy')
    have lateMem : ∀ y ∈ pre ++ e :: post, early y.1.1 = false := by
      intro y hy
      have : y.1 ∈ lateOf b l := by rw [← D0.R, hsplit]; exact List.mem_map.2 ⟨y, hy, rfl⟩
      obtain ⟨_, _, _, h3⟩ := lateOf_mem this
      exact h3
    -- a writer's turn
    have hrank : x.1.wr = true → (lateOf b l).countP (fun y => y.1.wr && L y.2) = (pre.map (·.1)).countP (fun y => y.1.wr) := by
      intro hxw
      rw [hRsplit, List.countP_append, List.countP_cons]
      have c1 : (pre.map (·.1)).countP (fun y => y.1.wr && L y.2) = (pre.map (·.1)).countP (fun y => y.1.wr) := by
        refine List.countP_congr (fun y hy => ?_)
        rw [List.mem_map] at hy
        obtain ⟨y', hy', rfl⟩ := hy
        cases hyw : y'.1.1.wr with
        | false => simp
        | true => simp [f5 y' (by simp [hy']) (lateMem y' (by simp [hy'])) hyw hxw]
      have c2 : (post.map (·.1)).countP (fun y => y.1.wr && L y.2) = 0 := by
        rw [List.countP_eq_zero]
        intro y hy
        rw [List.mem_map] at hy
        obtain ⟨y', hy', rfl⟩ := hy
        cases hyw : y'.1.1.wr with
        | false => simp
        | true => simp [f6 y' hy' hlate hyw hxw]
      rw [c1, c2, hxi, hi]; simp
    have hlo : x.1.lo ≤ (lateOf b l).countP (fun y => y.1.wr && L y.2) := by
      rw [hbounds.1]
      refine List.countP_mono_left (fun y hy hyp => ?_)
      simp only [Bool.and_eq_true] at hyp ⊢
      rw [hxi] at hyp
      exact ⟨hyp.1, hbefore _ hyp.2⟩
    have hhi : (lateOf b l).countP (fun y => y.1.wr && L y.2) ≤ x.1.hi := by
      rw [hbounds.2]
      refine List.countP_mono_left (fun y hy hyp => ?_)
      simp only [Bool.and_eq_true, Bool.not_eq_true'] at hyp ⊢
      refine ⟨hyp.1, ?_⟩
      rw [hxi]
      cases hb : bef b i y.2 with
      | false => rfl
      | true =>
        obtain ⟨oy, hoy⟩ := opOf y (List.mem_append_right _ hy)
        exact (hafter _ hyp.2 hb oy hoy).elim
    have hrp : replay L' (trE ++ trR) s0 = putD (replay L (trE ++ trR) s0) o.dst e.2 := by
      rw [hsp2, replay_more hi hi' hne f3 f4 f2]
      rw [he1, halike.dst, hdst]
    have hwanted : Region.wanted o (yielded ops a.tmps) = x.1.wanted (replay (fun _ => true) (trE ++ pre) s0) := by
      rw [wanted_sound I.slots hdig, ← he1, ← hagree.wanted, he1]
      unfold ROp.wanted
      rw [halike.guard]
    have dormK : ∀ {g' : Gh} {w' : World} {h' : Hp}, Ext g w h g' w' h' → ∀ (p : Nat) (e : Tr), trE[p]? = some e → L' e.1.2 = false → (∀ ver, g'.inc (h0.length + p) ver = none) ∧ h'[h0.length + p]? = obs[p]? := by
      intro g' w' h' hE p e' hp' hL'
      have hne' : e'.1.2 ≠ i := fun e1 => by rw [e1, hi'] at hL'; cases hL'
      rw [hne _ hne'] at hL'
      obtain ⟨n1, n2⟩ := I.dorm p e' hp' hL'
      obtain ⟨ob, hob, _⟩ := D0.ones p e' hp'
      rw [hob] at n2
      obtain ⟨m1, m2⟩ := hE.rest _ (List.getElem?_eq_some_iff.1 n2).1 n1
      exact ⟨m2, by rw [m1, n2, hob]⟩
    unfold EntOk at hent
    rw [he1] at hent
    rw [hwanted]
    by_cases hwt : x.1.wanted (replay (fun _ => true) (trE ++ pre) s0) = true
    · rw [if_pos hwt] at hent ⊢
      refine .inl ?_
      by_cases hwr : x.1.wr = true
      · rw [if_pos hwr] at hent
        obtain ⟨hh, h', k1, k2, hrun⟩ := hent
        have hcur := I.cur
        rw [hrank hwr, k1] at hcur
        injection hcur with hcur
        subst hcur
        rw [← he1, ← hagree.run, he1, halike.op] at hrun
        refine oper_sound I.hq I.slots D0.calls hop hrun (fun v w' g' hv hq' hE => ?_)
        refine hK _ w' g' h' ⟨hq', ?_, by rw [hrp]; exact I.slots.put hE.le hv, I.ext.trans (hE.toN I.ext.len), dormK hE, by rw [put_defers]; exact I.defers⟩
        rw [hmore, hrank hwr, hwr]; simpa using k2
      · have hwr : x.1.wr = false := by simpa using hwr
        rw [if_neg (by simp [hwr])] at hent
        obtain ⟨h', hrun⟩ := hent _ _ hlo hhi I.cur
        rw [← he1, ← hagree.run, he1, halike.op] at hrun
        have hh := quiet_heap D0.scal r.op (by rw [← hwrd, ← halike.wr]; exact hwr) hrun
        subst hh
        refine oper_sound I.hq I.slots D0.calls hop hrun (fun v w' g' hv hq' hE => ?_)
        refine hK _ w' g' _ ⟨hq', ?_, by rw [hrp]; exact I.slots.put hE.le hv, I.ext.trans (hE.toN I.ext.len), dormK hE, by rw [put_defers]; exact I.defers⟩
        rw [hmore, hwr]; simpa using I.cur
    · have hwt : x.1.wanted (replay (fun _ => true) (trE ++ pre) s0) = false := by simpa using hwt
      rw [if_neg (by simp [hwt])] at hent ⊢
      obtain ⟨hd, hwr⟩ := hent
      refine hK _ w g h ⟨I.hq, ?_, ?_, I.ext, dormK (Ext.refl _ _ _), by rw [put_defers]; exact I.defers⟩
      · cases hxw : x.1.wr with
        | false => rw [hmore, hxw]; simpa using I.cur
        | true =>
          obtain ⟨hh, k1, k2⟩ := hwr hxw
          have hcur := I.cur
          rw [hrank hxw, k1] at hcur
          rw [hmore, hrank hxw, hxw, if_pos rfl, k2]; exact hcur
      · rw [hrp, hd]
        exact I.slots.put (Le.refl _ _) V_und

theorem ready_mem {listed : Array Bool} {i : Nat} : i ∈ Region.ready .any ops listed ↔ i < ops.size ∧ listed.getD i true = false ∧ ((ops[i]?).map (·.after.all fun e => !Region.binds .any e || listed.getD e.on false)).getD false = true := by
  unfold Region.ready
  rw [List.mem_filter]
  simp

theorem any_sound (D0 : Drawn P A call f id ops l b trE trR s0 h0 obs H) {Q : Exit → Act → World → Prop}
    (hQ : ∀ a' w' g' h', Inv l b trE trR s0 h0 g0 w0 ds obs H (fun i => decide (i < ops.size)) a' w' g' h' → Q .normal a' w') :
    ∀ (fuel : Nat) (listed : Array Bool) (a : Act) (w : World) (g : Gh) (h : Hp), listed.size = ops.size → cntL (fun i => listed.getD i false) ops.size + fuel = ops.size → Closed ops (fun i => listed.getD i false) →
    Inv l b trE trR s0 h0 g0 w0 ds obs H (fun i => listed.getD i false) a w g h → wpAny P .any ops Q fuel listed a w := by
  have fin : ∀ (listed : Array Bool) (a : Act) (w : World) (g : Gh) (h : Hp), listed.size = ops.size → (∀ i, i < ops.size → listed.getD i false = true) → Inv l b trE trR s0 h0 g0 w0 ds obs H (fun i => listed.getD i false) a w g h → Q .normal a w := by
    intro listed a w g h hsz hall I
    have : (fun i => listed.getD i false) = fun i => decide (i < ops.size) := by
      funext i
      by_cases hi : i < ops.size
      · simp [hall i hi, hi]
      · have : ¬ i < listed.size := by omega
        simp [Array.getD, this, hi]
    rw [this] at I
    exact hQ a w g h I
  have stuck : ∀ (listed : Array Bool), listed.size = ops.size → Region.ready .any ops listed = [] → ∀ n i, i < n → i < ops.size → listed.getD i false = true := by
    intro listed hsz hr n
    induction n with
    | zero => intro i hi; omega
    | succ n ih =>
      intro i hi his
      cases hl : listed.getD i false with
      | true => rfl
      | false =>
        have ho : ops[i]? = some ops[i] := by simp [his]
        have : i ∈ Region.ready .any ops listed := by
          rw [ready_mem]
          refine ⟨his, ?_, ?_⟩
          · have hlt : i < listed.size := by omega
            simpa [Array.getD, hlt] using hl
          · rw [ho]
            simp only [Option.map_some, Option.getD_some]
            rw [← Array.all_toList, List.all_eq_true]
            intro e he
            cases hb : Region.binds .any e with
            | false => simp
            | true =>
              have hlow := (bOk_at _ 0 D0.bok i ops[i] (by simp [his])).2
              rw [Nat.zero_add] at hlow
              unfold edgesLow at hlow
              rw [List.all_eq_true] at hlow
              have := hlow e he
              simp only [hb, Bool.not_true, Bool.false_or, decide_eq_true_eq] at this
              simpa using ih e.on (by omega) (by omega)
        rw [hr] at this; cases this
  intro fuel
  induction fuel with
  | zero =>
    intro listed a w g h hsz hcnt hcl I
    have hall := cntL_full (L := fun i => listed.getD i false) (n := ops.size) (by omega)
    refine ⟨?_, fin listed a w g h hsz hall I⟩
    refine List.eq_nil_iff_forall_not_mem.2 (fun i hi => ?_)
    rw [ready_mem] at hi
    have h1 := hall i hi.1
    have h2 := hi.2.1
    have hlt : i < listed.size := by omega
    simp [Array.getD, hlt] at h1 h2
    rw [h1] at h2; cases h2
  | succ fuel ih =>
    intro listed a w g h hsz hcnt hcl I
    refine ⟨fun hr => fin listed a w g h hsz (fun i hi => stuck listed hsz hr (i + 1) i (by omega) hi) I, fun i hi => ?_⟩
    rw [ready_mem] at hi
    obtain ⟨his, hl, hed⟩ := hi
    have ho : ops[i]? = some ops[i] := by simp [his]
    have hlt : i < listed.size := by omega
    have hLi : listed.getD i false = false := by
      simp [Array.getD, hlt] at hl ⊢; exact hl
    have hedge : ∀ e ∈ ops[i].after.toList, Region.binds .any e = true → listed.getD e.on false = true := by
      intro e he hb
      rw [ho] at hed
      simp only [Option.map_some, Option.getD_some] at hed
      rw [← Array.all_toList, List.all_eq_true] at hed
      have := hed e he
      simpa [hb] using this
    have hi' : (listed.setIfInBounds i true).getD i false = true := by simp [Array.getD, hlt]
    have hne : ∀ j, j ≠ i → (listed.setIfInBounds i true).getD j false = listed.getD j false := by
      intro j hj
      simp only [Array.getD_eq_getD_getElem?]
      rw [Array.getElem?_setIfInBounds_ne (fun e => hj e.symm)]
    have hmono : ∀ j, listed.getD j false = true → (listed.setIfInBounds i true).getD j false = true := by
      intro j hj
      by_cases e : j = i
      · subst e; exact hi'
      · rw [hne j e]; exact hj
    refine draw_step D0 I hcl ho hLi hedge hi' hne (fun a' w' g' h' I' => ?_)
    refine ih _ a' w' g' h' (by simpa using hsz) ?_ ?_ I'
    · rw [cntL_more (L := fun i => listed.getD i false) hLi hi' hne, if_pos his]; omega
    · intro j oj hoj hj e he hb
      by_cases e1 : j = i
      · subst e1
        rw [ho] at hoj; injection hoj with hoj; subst hoj
        exact hmono _ (hedge e he hb)
      · simp only [hne j e1] at hj
        exact hmono _ (hcl j oj hoj hj e he hb)

/-- A region that draws its order. -/
theorem draw_sound {id' : Nat} {g : Gh} {w : World} {a : Act} {s : List D} {h : Hp} {st1 st' : St} {Q : Exit → Act → World → Prop} (hm : P.follows .mixedOrders = true) (hc : CallOk P call) (hsc : ScalOk A call)
    (hd : digOps P A f id ops 0 ops.toList = some l) (hb : bOk b 0 ops.toList = true) (hp : pairsOk b (earlyOf l ++ lateOf b l) = true)
    (h1 : regRun call ((earlyOf l).map (·.1)) ⟨s, h⟩ = some st1) (h2 : drawRun call ((lateOf b l).map (·.1)) st1 [st1.h] [] = some st')
    (q : Hq g w h) (hs : SlotsOk g w s a) (hQ : ∀ a' w' g', SlotsOk g' w' st'.s a' → Hq g' w' st'.h → Ext g w h g' w' st'.h → a'.defers = a.defers → Q .normal a' w') : (Code.region id' ops true).wp P Q a w := by
  refine wp_region_any hm ?_
  obtain ⟨trE, obs, e1, e2, e3, e4, e5⟩ := early_run (earlyOf l) ⟨s, h⟩ st1 (fun x hx => (earlyOf_mem hx).2) h1
  obtain ⟨H, dsR, ⟨qq, hH⟩, _, hdr, hlast⟩ := drawRun_spec _ _ _ _ _ h2 ⟨[], rfl⟩
  obtain ⟨trR, r1, r2, r3, r4⟩ := drawOk_split _ _ _ _ _ hdr
  simp only [List.length_singleton, Nat.sub_self, Nat.zero_add] at r3 r4
  have D0 : Drawn P A call f id ops l b trE trR s h obs H := ⟨hd, hb, hp, hc, hsc, e1, r1, e5, fun pre e post hsp => by
    rw [replay_append, ← e4]; exact r4 pre e post hsp⟩
  have hb0 : Below w.heap.size w { w with drawn := w.drawn + 1 } := (Below.refl _ w).drew
  obtain ⟨q0, x0⟩ := q.below hb0
  have hnew : ∀ id, h.length ≤ id → ∀ ver, g.inc id ver = none := fun id hid ver => q.new id ver hid
  -- the objects that will come
  have q1 : Hq g { w with drawn := w.drawn + 1 } (h ++ obs) := by
    have get : ∀ (id : Nat) (ob : Ob) (i : Inc) (ver : Nat), (h ++ obs)[id]? = some ob → g.inc id ver = some i → h[id]? = some ob := by
      intro id ob i ver h3 h4
      by_cases hid : id < h.length
      · rwa [List.getElem?_append_left hid] at h3
      · rw [hnew id (by omega)] at h4; cases h4
    refine ⟨fun id ob i h3 h4 => q0.obs id ob i (get _ _ _ _ h3 h4) h4, fun id ob ver h3 h4 => ?_, fun id ob ver i h3 h4 => q0.cur id ob ver i (get _ _ _ _ h3 h4) h4, fun id ver h3 => hnew id (by simp at h3; omega) ver, q0.apart, q0.old, q0.imm, q0.lo⟩
    by_cases hid : id < h.length
    · rw [List.getElem?_append_left hid] at h3
      exact q0.top id ob ver h3 h4
    · exact hnew id (by omega) ver
  have hfalse : ∀ i, (Array.replicate ops.size false).getD i false = false := by
    intro i; simp only [Array.getD]; split <;> simp
  have hnil : ∀ (tr : List Tr) (s : List D), replay (fun i => (Array.replicate ops.size false).getD i false) tr s = s := by
    intro tr
    induction tr with
    | nil => intro s; rfl
    | cons e tr ih =>
      intro s
      show replay _ tr (if (Array.replicate ops.size false).getD e.1.2 false = true then putD s e.1.1.dst e.2 else s) = s
      rw [hfalse]
      exact ih s
  refine any_sound (g0 := g) (w0 := w) (ds := a.defers) (h0 := h) (s0 := s) (H := H) D0 (fun a' w' g' h' I => ?_) ops.size _ a _ g (h ++ obs) (by simp) ?_ ?_ ⟨q1, ?_, ?_, ?_, ?_, rfl⟩
  · -- all is done
    obtain ⟨hlen, _⟩ := digOps_get _ _ _ hd
    have inAll : ∀ y ∈ earlyOf l ++ lateOf b l, y.2 < ops.size := by
      intro y hy
      have : ∃ r, l[y.2]? = some r := by
        rcases List.mem_append.1 hy with hy | hy
        · exact ⟨_, (earlyOf_mem hy).1⟩
        · obtain ⟨r, hr, _⟩ := lateOf_mem hy; exact ⟨r, hr⟩
      obtain ⟨r, hr⟩ := this
      have := (List.getElem?_eq_some_iff.1 hr).1
      rw [hlen] at this; simpa using this
    have hsl : replay (fun i => decide (i < ops.size)) (trE ++ trR) s = st'.s := by
      rw [r2, e4, ← replay_append]
      refine replay_ext _ _ (fun e he => ?_)
      have : e.1 ∈ earlyOf l ++ lateOf b l := by rw [← e1, ← r1, ← List.map_append]; exact List.mem_map.2 ⟨e, he, rfl⟩
      simp [inAll _ this]
    have hcnt : (lateOf b l).countP (fun y => y.1.wr && decide (y.2 < ops.size)) = (lateOf b l).countP (fun y => y.1.wr) := by
      refine List.countP_congr (fun y hy => ?_)
      simp [inAll y (List.mem_append_right _ hy)]
    have hcur := I.cur
    simp only [hcnt] at hcur
    have hh : h' = st'.h := by
      rw [List.getLast?_eq_getElem?, ← r3] at hlast
      simp only [Nat.add_sub_cancel] at hlast
      rw [hcur] at hlast; injection hlast
    subst hh
    refine hQ a' w' g' ?_ I.hq I.ext.toExt I.defers
    have := I.slots
    rwa [hsl] at this
  · rw [cntL_none _ (fun i _ => hfalse i)]; omega
  · intro i o ho hi
    simp only [hfalse] at hi
    cases hi
  · have : (lateOf b l).countP (fun y => y.1.wr && (Array.replicate ops.size false).getD y.2 false) = 0 := by
      rw [List.countP_eq_zero]; intro y _; rw [hfalse]; simp
    rw [this, hH, ← e3]; rfl
  · rw [hnil]; exact ⟨hs.1, fun i => (hs.2 i).le x0.le⟩
  · exact ⟨x0.le, rfl, x0.below, x0.imm, by simp, fun id hid hn => ⟨by rw [List.getElem?_append_left hid], hn⟩⟩
  · intro p e hp _
    refine ⟨fun ver => hnew _ (by omega) ver, ?_⟩
    rw [List.getElem?_append_right (by omega)]
    congr 1; omega
end
end Go.Rex
