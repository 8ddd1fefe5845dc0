import Derived.Test.YtijnmnpigjadhabRexW
/- Rex, part X: regions that draw their order: objects that come early; what must come before what. -/
set_option linter.unusedVariables false
set_option linter.unusedSimpArgs false
namespace Go.Rex
open Go.RowKit Go.Lib

/-- As Ext; of the objects that nobody has, only the first n are spoken of. -/
structure ExtN (n : Nat) (g : Gh) (w : World) (h : Hp) (g' : Gh) (w' : World) (h' : Hp) : Prop where
  le : Le g w g' w'
  lo : g'.lo = g.lo
  below : Below g.lo w w'
  imm : ∀ b o, g'.imm b o → g.imm b o ∨ g.lo ≤ b
  len : h.length ≤ h'.length
  rest : ∀ id, id < n → (∀ ver, g.inc id ver = none) → h'[id]? = h[id]? ∧ ∀ ver, g'.inc id ver = none
theorem Ext.toN {g g' : Gh} {w w' : World} {h h' : Hp} (e : Ext g w h g' w' h') {n : Nat} (hn : n ≤ h.length) : ExtN n g w h g' w' h' :=
  ⟨e.le, e.lo, e.below, e.imm, e.len, fun id hid hx => e.rest id (by omega) hx⟩
theorem ExtN.toExt {g g' : Gh} {w w' : World} {h h' : Hp} (e : ExtN h.length g w h g' w' h') : Ext g w h g' w' h' := ⟨e.le, e.lo, e.below, e.imm, e.len, e.rest⟩
theorem ExtN.trans {n : Nat} {g g1 g2 : Gh} {w w1 w2 : World} {h h1 h2 : Hp} (a : ExtN n g w h g1 w1 h1) (b : ExtN n g1 w1 h1 g2 w2 h2) : ExtN n g w h g2 w2 h2 :=
  ⟨a.le.trans b.le, b.lo.trans a.lo, a.below.trans (a.lo ▸ b.below), fun x o i => (b.imm x o i).elim (a.imm x o) (fun k => .inr (a.lo ▸ k)), Nat.le_trans a.len b.len, fun id hid hn => by
    obtain ⟨e1, n1⟩ := a.rest id hid hn
    obtain ⟨e2, n2⟩ := b.rest id hid n1
    exact ⟨e2.trans e1, n2⟩⟩

/-- An object that was made before is made now. -/
theorem Hq.wake {g : Gh} {w w' : World} {h : Hp} (q : Hq g w h) (hb : Below w.heap.size w w') (B : Nat) (hB : w.heap.size ≤ B) (hB' : B < w'.heap.size) {id : Nat} {ob : Ob} (hid : h[id]? = some ob) (hver : ob.ver = 0) (hmv : ob.minv = 0)
    (hnone : ∀ ver, g.inc id ver = none) (cap : Nat) (hes : 0 < ob.es) (hfx : ob.fix = true → cap = ob.xs.length)
    (hblk : ∃ c e fr, w'.heap[B]? = some (.cells c e fr) ∧ cap * ob.es ≤ c.size ∧ ∀ o, o < cap * ob.es → ¬ (fr.1 ≤ o ∧ o < fr.2)) (hcap : ob.xs.length ≤ cap)
    (hrow : RowM g w' B ob.es 0 ob.xs) :
    let g' := g.addInc id 0 ⟨ob.es, B, cap, ob.xs.length⟩
    Hq g' w' h ∧ ∀ n, n ≤ id → ExtN n g w h g' w' h := by
  intro g'
  have hl : Le g w g' w' := ⟨fun id' ver i x => by
      show (if id' = id ∧ ver = 0 then some _ else g.inc id' ver) = some i
      rw [if_neg (by rintro ⟨rfl, _⟩; rw [hnone] at x; cases x)]; exact x, fun _ _ x => x, fun b o x => cell_of_below hb (q.imm b o x) o⟩
  have inc' : ∀ id' ver i, g'.inc id' ver = some i → (id' = id ∧ ver = 0 ∧ i = ⟨ob.es, B, cap, ob.xs.length⟩) ∨ g.inc id' ver = some i := by
    intro id' ver i x
    change (if id' = id ∧ ver = 0 then some _ else g.inc id' ver) = some i at x
    split at x
    · rename_i e; injection x with x; exact .inl ⟨e.1, e.2, x.symm⟩
    · exact .inr x
  have here : g'.inc id 0 = some ⟨ob.es, B, cap, ob.xs.length⟩ := by show (if _ then _ else _) = _; rw [if_pos ⟨rfl, rfl⟩]
  have hbB : ∀ id ver i, g.inc id ver = some i → i.blk ≠ B := fun id ver i x => by have := q.old id ver i x; omega
  have imB : ∀ o, ¬ g.imm B o := fun o x => by have := q.imm _ _ x; omega
  have hlt : id < h.length := (List.getElem?_eq_some_iff.1 hid).1
  refine ⟨⟨?_, ?_, ?_, ?_, ?_, ?_, ?_, Nat.le_trans q.lo hb.size⟩, fun n hn => ⟨hl, rfl, hb.mono q.lo, fun b o x => .inl x, Nat.le_refl _, ?_⟩⟩
  · intro id' ob' i h1 h2
    rcases inc' _ _ _ h2 with ⟨rfl, hv, rfl⟩ | h2
    · rw [hid] at h1; injection h1 with h1; subst h1
      refine ⟨rfl, hes, rfl, hcap, Nat.le_trans q.lo hB, by rw [hmv]; exact Nat.zero_le _, hblk, hfx, fun o _ _ => imB o, fun _ o _ => imB o, fun ver _ hv2 => ?_, fun ver k _ _ hk => by
        rcases inc' _ _ _ hk with ⟨_, _, rfl⟩ | hk
        · exact Nat.le_trans q.lo hB
        · rw [hnone] at hk; cases hk⟩
      obtain rfl : ver = 0 := by omega
      refine ⟨_, here, rfl, Nat.le_refl _, ?_⟩
      simp only [List.take_length]
      exact RowM.keep (w := w') ⟨hl.inc, fun _ _ x => x, fun _ _ _ => rfl⟩ _ _ _ _ (fun _ _ => rfl) hrow
    · have hlt' := q.old id' _ i h2
      exact (q.obs id' ob' i h1 h2).keep hl rfl (hb.block _ hlt') (fun o x => x) (fun ver k hk o => cell_of_below hb (q.old id' ver k hk) o)
  · intro id' ob' ver h1 h2
    show (if id' = id ∧ ver = 0 then some _ else g.inc id' ver) = none
    rw [if_neg (by rintro ⟨rfl, rfl⟩; omega)]
    exact q.top id' ob' ver h1 h2
  · intro id' ob' ver i h1 h2
    rcases inc' _ _ _ h2 with ⟨rfl, rfl, rfl⟩ | h2
    · rw [hid] at h1; injection h1 with h1; subst h1
      rw [hver]; exact ⟨_, here⟩
    · obtain ⟨j, hj⟩ := q.cur id' ob' ver i h1 h2
      exact ⟨j, hl.inc _ _ _ hj⟩
  · intro id' ver hid'
    show (if id' = id ∧ ver = 0 then some _ else g.inc id' ver) = none
    rw [if_neg (by omega)]
    exact q.new id' ver hid'
  · intro id1 id2 ver ver' i i' hne h1 h2
    rcases inc' _ _ _ h1 with ⟨e1, _, rfl⟩ | h1 <;> rcases inc' _ _ _ h2 with ⟨e2, _, rfl⟩ | h2
    · omega
    · exact fun e => hbB _ _ _ h2 e.symm
    · exact hbB _ _ _ h1
    · exact q.apart _ _ _ _ _ _ hne h1 h2
  · intro id' ver i h1
    rcases inc' _ _ _ h1 with ⟨_, _, rfl⟩ | h1
    · exact hB'
    · exact Nat.lt_of_lt_of_le (q.old _ _ _ h1) hb.size
  · exact fun b o x => Nat.lt_of_lt_of_le (q.imm b o x) hb.size
  · intro id' hid' hn'
    refine ⟨rfl, fun ver => ?_⟩
    show (if id' = id ∧ ver = 0 then some _ else g.inc id' ver) = none
    rw [if_neg (by omega)]; exact hn' ver

/-- What an early operation gives. -/
def EarlyOne (o : ROp) (d : D) (ob : Ob) (n : Nat) : Prop :=
  o.guard = none ∧ ((∃ c, o.op = .box true (.c c) ∧ 0 < c.sz ∧ c.isTup = false ∧ d = .ptr n 0 0 [0] ∧ ob = ⟨c.sz, [c], 0, 0, false, false⟩) ∨
  (∃ es fs, o.op = .arr es (.c (.agg (List.replicate fs.length es) fs)) ∧ d = .ptr n 0 0 [] ∧ ob = ⟨es, fs, 0, 0, false, true⟩))

theorem early_spec {o : ROp} (h : early o = true) : o.guard = none ∧ ((∃ c, o.op = .box true (.c c)) ∨ ∃ es c, o.op = .arr es (.c c)) := by
  unfold early at h
  simp only [Bool.and_eq_true, Option.isNone_iff_eq_none] at h
  refine ⟨h.1, ?_⟩
  have h2 := h.2
  split at h2
  · rename_i c hc; exact .inl ⟨c, hc⟩
  · rename_i es c hc; exact .inr ⟨es, c, hc⟩
  · cases h2

theorem early_one {call : CallF} {o : ROp} {s : List D} {h h' : Hp} {d : D} (he : early o = true) (hr : o.op.run call s h = some (d, h')) : ∃ ob, h' = h ++ [ob] ∧ EarlyOne o d ob h.length := by
  obtain ⟨hg, ⟨c, hc⟩ | ⟨es, c, hc⟩⟩ := early_spec he
  · rw [hc] at hr
    simp only [RO.run] at hr
    generalize hx : (Opd.c c).ev s = x at hr
    obtain rfl : c = x := hx
    split at hr <;> (try contradiction)
    rename_i hnt
    simp only [if_true] at hr
    by_cases hpos : 0 < c.sz
    case neg => rw [if_neg hpos] at hr; cases hr
    rw [if_pos hpos] at hr
    simp only [Option.some.injEq, Prod.mk.injEq] at hr
    obtain ⟨rfl, rfl⟩ := hr
    exact ⟨_, rfl, hg, .inl ⟨c, hc, hpos, by simpa using hnt, rfl, rfl⟩⟩
  · rw [hc] at hr
    simp only [RO.run, Opd.ev] at hr
    split at hr <;> (try contradiction)
    rename_i szs fs
    split at hr <;> (try contradiction)
    rename_i hsz
    subst hsz
    simp only [Option.some.injEq, Prod.mk.injEq] at hr
    obtain ⟨rfl, rfl⟩ := hr
    exact ⟨_, rfl, hg, .inr ⟨es, fs, hc, rfl, rfl⟩⟩

theorem early_run {call : CallF} : ∀ (E : List (ROp × Nat)) (st st1 : St), (∀ x ∈ E, early x.1 = true) → regRun call (E.map (·.1)) st = some st1 →
    ∃ (tr : List Tr) (obs : List Ob), tr.map (·.1) = E ∧ obs.length = E.length ∧ st1.h = st.h ++ obs ∧ st1.s = replay (fun _ => true) tr st.s ∧ ∀ (p : Nat) (e : Tr), tr[p]? = some e → ∃ ob, obs[p]? = some ob ∧ EarlyOne e.1.1 e.2 ob (st.h.length + p)
  | [], st, st1, _, hr => by
    simp only [List.map_nil, regRun, Option.some.injEq] at hr; subst hr
    exact ⟨[], [], rfl, rfl, by simp, rfl, fun p e h => by simp at h⟩
  | x :: E, st, st1, he, hr => by
    have hx := he x (by simp)
    have hw : x.1.wanted st.s = true := by unfold ROp.wanted; rw [(early_spec hx).1]
    simp only [List.map_cons, regRun, ROp.step, hw, if_true] at hr
    cases hrun : x.1.op.run call st.s st.h with
    | none => simp [hrun] at hr
    | some y =>
      obtain ⟨d, h'⟩ := y
      simp only [hrun] at hr
      obtain ⟨ob, rfl, ho⟩ := early_one hx hrun
      obtain ⟨tr, obs, h1, h2, h3, h4, h5⟩ := early_run E _ st1 (fun y hy => he y (by simp [hy])) hr
      refine ⟨(x, d) :: tr, ob :: obs, by simp [h1], by simp [h2], by simp [h3], by simp [replay, h4], fun p e hp => ?_⟩
      cases p with
      | zero => simp at hp; subst hp; exact ⟨ob, rfl, by simpa using ho⟩
      | succ p =>
        obtain ⟨ob', k1, k2⟩ := h5 p e (by simpa using hp)
        refine ⟨ob', by simpa using k1, ?_⟩
        simpa [Nat.add_assoc, Nat.add_comm 1 p] using k2

/-- An early operation, whenever it comes. -/
theorem early_exec {P : Program} {g : Gh} {w : World} {h : Hp} {s : List D} {a : Act} {o : Oper} {m : Bool} {r : ROp} {d : D} {ob : Ob} {id : Nat} (q : Hq g w h) (hs : SlotsOk g w s a) (hd : digOp P m o.op = some r.op)
    (he : EarlyOne r d ob id) (hid : h[id]? = some ob) (hnone : ∀ ver, g.inc id ver = none) :
    ∃ v w' i, (execOp a.eval o).run P w = .ok (.value v) w' ∧ V (g.addInc id 0 i) w' d v ∧ Hq (g.addInc id 0 i) w' h ∧ ∀ n, n ≤ id → ExtN n g w h (g.addInc id 0 i) w' h := by
  have src : ∃ t v c, (execOp a.eval o).run P w = (do pure (.value (← Instr.box t v)) : Sem Next).run P w ∧ V g w c v ∧ (r.op = .box true (.c c) ∨ ∃ es, r.op = .arr es (.c c) ∧ 0 < es) := by
    have shape : (∃ c, r.op = .box true (.c c)) ∨ ∃ es c, r.op = .arr es (.c c) := by
      rcases he.2 with ⟨c, hc, _⟩ | ⟨es, fs, hc, _⟩
      · exact .inl ⟨c, hc⟩
      · exact .inr ⟨es, _, hc⟩
    cases ho : o.op with
    | alloc t =>
      rw [ho] at hd
      simp only [digOp] at hd
      split at hd <;> (try contradiction)
      · rename_i z n e hz hu
        obtain ⟨v, i, hi, hv, hV⟩ := zeroOf_sound hz
        split at hd <;> (try contradiction)
        split at hd <;> (try contradiction)
        rename_i es _ hpos
        injection hd with hd
        refine ⟨t, v, z, ?_, V.of1 (hV g w), .inr ⟨es, hd.symm, hpos⟩⟩
        unfold execOp; rw [ho]; simp only [Sem.run_bind, alloc_run hi hv]
      · rename_i z u hna hz hu
        obtain ⟨v, i, hi, hv, hV⟩ := zeroOf_sound hz
        injection hd with hd
        refine ⟨t, v, z, ?_, V.of1 (hV g w), .inl ?_⟩
        · unfold execOp; rw [ho]; simp only [Sem.run_bind, alloc_run hi hv]
        · rcases shape with ⟨c, hc⟩ | ⟨es, c, hc⟩ <;> rw [hc] at hd ⊢
          · injection hd with h1 h2; rw [← h2]
          · cases hd
    | box t x =>
      rw [ho] at hd
      simp only [digOp] at hd
      split at hd <;> (try contradiction)
      · rename_i y n e hx hu
        split at hd <;> (try contradiction)
        split at hd <;> (try contradiction)
        rename_i es _ hpos
        injection hd with hd
        rcases shape with ⟨c, hc⟩ | ⟨es', c, hc⟩ <;> rw [hc] at hd
        · cases hd
        · injection hd with h1 h2
          refine ⟨t, a.eval x, c, by unfold execOp; rw [ho], ?_, .inr ⟨es', hc, by omega⟩⟩
          have := opd_sound hs hx
          rwa [h2] at this
      · rename_i y u hna hx hu
        injection hd with hd
        rcases shape with ⟨c, hc⟩ | ⟨es', c, hc⟩ <;> rw [hc] at hd
        · injection hd with h1 h2
          refine ⟨t, a.eval x, c, by unfold execOp; rw [ho], ?_, .inl hc⟩
          have := opd_sound hs hx
          rwa [h2] at this
        · cases hd
    | call c =>
      exfalso
      rw [ho] at hd
      simp only [digOp] at hd
      rcases shape with ⟨c, hc⟩ | ⟨es, c, hc⟩ <;> rw [hc] at hd
      · split at hd <;> (try contradiction)
        · split at hd <;> (try contradiction)
          unfold digCall at hd
          repeat' (first | contradiction | split at hd)
          all_goals (simp at hd)
        · split at hd <;> (try contradiction)
          simp at hd
      · split at hd <;> (try contradiction)
        · split at hd <;> (try contradiction)
          unfold digCall at hd
          repeat' (first | contradiction | split at hd)
          all_goals (simp at hd)
        · split at hd <;> (try contradiction)
          simp at hd
    | _ =>
      exfalso
      rw [ho] at hd
      simp only [digOp] at hd
      rcases shape with ⟨c, hc⟩ | ⟨es, c, hc⟩ <;> rw [hc] at hd
      all_goals (repeat' (first | contradiction | split at hd))
      all_goals (first | contradiction | (simp at hd; done) | (simp [Option.map_eq_some_iff] at hd; done))
  obtain ⟨t, v, c, hrun, hv, hsh⟩ := src
  have hb := fun cs : List Value => below_push w (.cells cs.toArray t)
  have hbox : ∀ cs : List Value, v.cells = cs.toArray → (execOp a.eval o).run P w = .ok (.value (.pointer (some ⟨w.heap.size, 0, none⟩))) { w with heap := w.heap.push (.cells cs.toArray t) } := by
    intro cs hcs
    rw [hrun]
    simp [Instr.box, newVar, newRow, hcs]
  rcases he.2 with ⟨c', hc', hpos, hnt, rfl, rfl⟩ | ⟨es, fs, hc', rfl, rfl⟩
  · have hcc : c = c' := by
      rcases hsh with hsh | ⟨es, hsh, _⟩ <;> rw [hc'] at hsh
      · injection hsh with _ h2; injection h2 with h2; exact h2.symm
      · cases hsh
    subst hcc
    obtain ⟨cs, hcs, hcells⟩ := (hv.v1 (fun l e => by subst e; simp [D.isTup] at hnt)).cells
    have hcl := Cs.size _ _ hcs
    have hl : Le g w g { w with heap := w.heap.push (.cells cs.toArray t) } := Le.of_below q.imm (hb cs)
    obtain ⟨q', e'⟩ := q.wake (hb cs) w.heap.size (Nat.le_refl _) (by simp) hid rfl rfl hnone 1 hpos (fun e => by cases e) ⟨cs.toArray, t, (0, 0), by simp, by simp [hcl], by simp⟩ (Nat.le_refl _)
      ⟨⟨cs, Cs.le hl _ _ hcs, hcl, At_push w cs t _⟩, trivial⟩
    refine ⟨_, _, _, hbox cs hcells, ?_, q', e'⟩
    simp only [V, V1, Cs]
    exact ⟨_, addInc_here _ _ _ _, rfl, Nat.one_pos⟩
  · have hcc : c = .agg (List.replicate fs.length es) fs ∧ 0 < es := by
      rcases hsh with hsh | ⟨es', hsh, hp⟩ <;> rw [hc'] at hsh
      · cases hsh
      · injection hsh with h1 h2; injection h2 with h2; exact ⟨h2.symm, by omega⟩
    obtain ⟨rfl, hpos⟩ := hcc
    obtain ⟨cs, rfl, hcs⟩ := hv
    have hcl := Cs.size _ _ hcs
    simp only [D.sz, sumN_rep] at hcl
    have hl : Le g w g { w with heap := w.heap.push (.cells cs.toArray t) } := Le.of_below q.imm (hb cs)
    obtain ⟨q', e'⟩ := q.wake (hb cs) w.heap.size (Nat.le_refl _) (by simp) hid rfl rfl hnone fs.length hpos (fun _ => rfl) ⟨cs.toArray, t, (0, 0), by simp, by simp [hcl], by simp⟩ (Nat.le_refl _)
      (AggCs.row (AggCs.le hl _ _ _ hcs) (At_push w cs t _))
    refine ⟨_, _, _, hbox cs (by simp [Value.cells]), ?_, q', e'⟩
    simp only [V, V1, Cs]
    exact ⟨_, addInc_here _ _ _ _, rfl, trivial⟩
end Go.Rex
