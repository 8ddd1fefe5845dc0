import Derived.Test.YtijnmnpigjadhabRexX
import Derived.Orders
/- Rex, part Y: regions that draw their order. -/
set_option linter.unusedVariables false
set_option linter.unusedSimpArgs false
namespace Go.Rex
open Go.RowKit Go.Lib

/-! ### The lists -/
theorem earlyOf_mem {l : List ROp} {x : ROp × Nat} (h : x ∈ earlyOf l) : l[x.2]? = some x.1 ∧ early x.1 = true := by
  unfold earlyOf at h
  rw [List.mem_filter] at h
  have := List.mem_zipIdx_iff_getElem?.1 h.1
  exact ⟨this, h.2⟩
/-- Alike but for where it may come. -/
structure Alike (x y : ROp) : Prop where
  dst : x.dst = y.dst
  op : x.op = y.op
  guard : x.guard = y.guard
  wr : x.wr = y.wr
theorem Alike.early {x y : ROp} (h : Alike x y) : Rex.early x = Rex.early y := by unfold Rex.early; rw [h.guard, h.op]
theorem lateOf_mem {b : List Nat} {l : List ROp} {x : ROp × Nat} (h : x ∈ lateOf b l) : ∃ r, l[x.2]? = some r ∧ Alike x.1 r ∧ early x.1 = false := by
  unfold lateOf at h
  rw [List.mem_map] at h
  obtain ⟨y, hy, rfl⟩ := h
  rw [List.mem_filter] at hy
  have := List.mem_zipIdx_iff_getElem?.1 hy.1
  refine ⟨y.1, this, ⟨rfl, rfl, rfl, rfl⟩, ?_⟩
  have h2 : early y.1 = false := by simpa using hy.2
  rw [← h2]; rfl
theorem lateOf_bounds {b : List Nat} {l : List ROp} {x : ROp × Nat} (h : x ∈ lateOf b l) :
    x.1.lo = (lateOf b l).countP (fun y => y.1.wr && bef b y.2 x.2) ∧ x.1.hi = (lateOf b l).countP (fun y => y.1.wr && !bef b x.2 y.2) := by
  unfold lateOf at h ⊢
  rw [List.mem_map] at h
  obtain ⟨y, hy, rfl⟩ := h
  constructor <;> (rw [List.countP_map, List.countP_eq_length_filter]; rfl)
theorem both_all {b : List Nat} {l : List ROp} {i : Nat} (hi : i < l.length) : ∃ x, x ∈ earlyOf l ++ lateOf b l ∧ x.2 = i := by
  have hm : (l[i], i) ∈ l.zipIdx := List.mem_zipIdx_iff_getElem?.2 (by simp [hi])
  by_cases he : early l[i] = true
  · exact ⟨(l[i], i), List.mem_append_left _ (List.mem_filter.2 ⟨hm, he⟩), rfl⟩
  · refine ⟨between b (l.zipIdx.filter fun x => !early x.1) (l[i], i), List.mem_append_right _ ?_, rfl⟩
    unfold lateOf
    exact List.mem_map.2 ⟨_, List.mem_filter.2 ⟨hm, by simpa using he⟩, rfl⟩
theorem both_nodup {b : List Nat} {l : List ROp} : ((earlyOf l ++ lateOf b l).map (·.2)).Nodup := by
  have hz : (l.zipIdx.map (·.2)).Nodup := by
    rw [List.zipIdx_map_snd]
    exact List.nodup_range'
  have e1 : (lateOf b l).map (·.2) = (l.zipIdx.filter fun x => !early x.1).map (·.2) := by
    unfold lateOf
    rw [List.map_map]
    rfl
  rw [List.map_append, e1]
  refine List.nodup_append.2 ⟨List.Nodup.sublist (List.Sublist.map _ List.filter_sublist) hz, List.Nodup.sublist (List.Sublist.map _ List.filter_sublist) hz, ?_⟩
  intro i h1 j h2 e
  subst e
  rw [List.mem_map] at h1 h2
  obtain ⟨x, hx, rfl⟩ := h1
  obtain ⟨y, hy, hxy⟩ := h2
  unfold earlyOf at hx
  rw [List.mem_filter] at hx hy
  have h3 := List.mem_zipIdx_iff_getElem?.1 hx.1
  have h4 := List.mem_zipIdx_iff_getElem?.1 hy.1
  rw [hxy, h3] at h4
  injection h4 with h4
  have h5 := hy.2
  rw [← h4, hx.2] at h5
  cases h5

theorem pairs_split {b : List Nat} : ∀ {p : List (ROp × Nat)} {x : ROp × Nat} {q : List (ROp × Nat)}, pairsOk b (p ++ x :: q) = true →
    (∀ y ∈ q, bef b x.2 y.2 = true ∨ (ROp.apart x.1 y.1 = true ∧ (early x.1 = true ∨ ¬ (x.1.wr = true ∧ y.1.wr = true)))) ∧
    (∀ y ∈ p, bef b y.2 x.2 = true ∨ (ROp.apart y.1 x.1 = true ∧ (early y.1 = true ∨ ¬ (y.1.wr = true ∧ x.1.wr = true))))
  | [], x, q, h => by
    simp only [List.nil_append, pairsOk, Bool.and_eq_true, List.all_eq_true] at h
    refine ⟨fun y hy => ?_, by simp⟩
    have := h.1 y hy
    simpa [Bool.or_eq_true, Bool.and_eq_true, Classical.or_iff_not_imp_left] using this
  | z :: p, x, q, h => by
    simp only [List.cons_append, pairsOk, Bool.and_eq_true, List.all_eq_true] at h
    obtain ⟨h1, h2⟩ := pairs_split h.2
    refine ⟨h1, fun y hy => ?_⟩
    rcases List.mem_cons.1 hy with rfl | hy
    · have := h.1 x (by simp)
      simpa [Bool.or_eq_true, Bool.and_eq_true, Classical.or_iff_not_imp_left] using this
    · exact h2 y hy

/-! ### What must come before what -/
/-- A set of operations that holds, with each, what it waits for. -/
def Closed (ops : Array Oper) (L : Nat → Bool) : Prop := ∀ i o, ops[i]? = some o → L i = true → ∀ e ∈ o.after.toList, Region.binds .any e = true → L e.on = true

theorem edgeBits_sound {b : List Nat} {o : Oper} {k : Nat} (h : (edgeBits b o).testBit k = true) : ∃ e ∈ o.after.toList, Region.binds .any e = true ∧ (k = e.on ∨ (b.getD e.on 0).testBit k = true) := by
  unfold edgeBits at h
  have key : ∀ (l : List Edge) (s : Nat), (l.foldl (fun s e => if Region.binds .any e then s ||| 2 ^ e.on ||| b.getD e.on 0 else s) s).testBit k = true →
      s.testBit k = true ∨ ∃ e ∈ l, Region.binds .any e = true ∧ (k = e.on ∨ (b.getD e.on 0).testBit k = true) := by
    intro l
    induction l with
    | nil => intro s h; exact .inl h
    | cons e l ih =>
      intro s h
      simp only [List.foldl_cons] at h
      rcases ih _ h with h | ⟨e', he', h1⟩
      · split at h
        · rename_i hb
          rw [Nat.testBit_or, Nat.testBit_or, Bool.or_eq_true, Bool.or_eq_true, Nat.testBit_two_pow, decide_eq_true_eq] at h
          rcases h with (h | h) | h
          · exact .inl h
          · exact .inr ⟨e, by simp, hb, .inl h.symm⟩
          · exact .inr ⟨e, by simp, hb, .inr h⟩
        · exact .inl h
      · exact .inr ⟨e', by simp [he'], h1⟩
  rcases key _ _ h with h | h
  · simp at h
  · exact h
theorem bOk_at {b : List Nat} : ∀ (l : List Oper) (k : Nat), bOk b k l = true → ∀ (i : Nat) (o : Oper), l[i]? = some o → b.getD (k + i) 0 = edgeBits b o ∧ edgesLow (k + i) o = true
  | [], k, _, i, o, hi => by simp at hi
  | x :: l, k, h, i, o, hi => by
    simp only [bOk, Bool.and_eq_true, beq_iff_eq] at h
    cases i with
    | zero => simp at hi; subst hi; exact ⟨h.1.1, h.1.2⟩
    | succ i =>
      have := bOk_at l (k + 1) h.2 i o (by simpa using hi)
      rwa [show k + 1 + i = k + (i + 1) by omega] at this
theorem bef_in {ops : Array Oper} {b : List Nat} (hb : bOk b 0 ops.toList = true) {L : Nat → Bool} (hc : Closed ops L) : ∀ (n i : Nat), i < n → ∀ o, ops[i]? = some o → (∀ e ∈ o.after.toList, Region.binds .any e = true → L e.on = true) →
    ∀ k, bef b k i = true → L k = true
  | 0, i, hi, _, _, _, _, _ => by omega
  | n + 1, i, hi, o, ho, hL, k, hk => by
    have ho' : ops.toList[i]? = some o := by simpa using ho
    obtain ⟨h1, h2⟩ := bOk_at _ 0 hb i o ho'
    rw [Nat.zero_add] at h1 h2
    unfold bef at hk
    rw [h1] at hk
    obtain ⟨e, he, hbd, hk⟩ := edgeBits_sound hk
    have hLe := hL e he hbd
    rcases hk with rfl | hk
    · exact hLe
    · have hlow : e.on < i := by
        unfold edgesLow at h2
        rw [List.all_eq_true] at h2
        have := h2 e he
        simpa [hbd] using this
      have hil : i < ops.size := by have := (Array.getElem?_eq_some_iff.1 ho).1; exact this
      have hoe : ops[e.on]? = some ops[e.on] := by simp [show e.on < ops.size by omega]
      exact bef_in hb hc n e.on (by omega) _ hoe (fun e' he' hb' => hc _ _ hoe hLe e' he' hb') k hk

/-! ### Counting -/
def cntL (L : Nat → Bool) : Nat → Nat
  | 0 => 0
  | n + 1 => cntL L n + if L n then 1 else 0
theorem cntL_le (L : Nat → Bool) : ∀ n, cntL L n ≤ n
  | 0 => Nat.le_refl _
  | n + 1 => by have := cntL_le L n; simp only [cntL]; split <;> omega
theorem cntL_full {L : Nat → Bool} : ∀ {n : Nat}, cntL L n = n → ∀ i, i < n → L i = true
  | 0, _, i, hi => by omega
  | n + 1, h, i, hi => by
    have h1 := cntL_le L n
    simp only [cntL] at h
    split at h
    · rename_i hn
      by_cases e : i = n
      · subst e; exact hn
      · exact cntL_full (n := n) (by omega) i (by omega)
    · omega
theorem cntL_more {L L' : Nat → Bool} {i : Nat} (hi : L i = false) (hi' : L' i = true) (hne : ∀ j, j ≠ i → L' j = L j) : ∀ n, cntL L' n = cntL L n + if i < n then 1 else 0
  | 0 => by simp [cntL]
  | n + 1 => by
    have ih := cntL_more hi hi' hne n
    simp only [cntL, ih]
    by_cases e : n = i
    · subst e; simp [hi, hi']
    · rw [hne n e]
      by_cases h : i < n
      · simp [h, show i < n + 1 by omega]; omega
      · simp [h, show ¬ i < n + 1 by omega]
theorem cntL_none {L : Nat → Bool} : ∀ n, (∀ i, i < n → L i = false) → cntL L n = 0
  | 0, _ => rfl
  | n + 1, h => by simp only [cntL]; rw [cntL_none n (fun i hi => h i (by omega)), h n (by omega)]; simp

/-! ### What quiet operations leave -/
def ScalOk (A : Ann) (call : CallF) : Prop := ∀ g args h d h', (match A.mode g with | .pure scal _ => scal | _ => false) = true → call g args h = some (d, h') → h' = h
theorem quiet_heap {A : Ann} {call : CallF} (hc : ScalOk A call) {s : List D} {h h' : Hp} {d : D} (ro : RO) (hw : writes A ro = false) (hr : ro.run call s h = some (d, h')) : h' = h := by
  cases ro with
  | call f args =>
    cases f with
    | t n => simp [writes] at hw
    | c e =>
      cases e with
      | fn g n caps =>
        simp only [writes] at hw
        simp only [RO.run, Opd.ev] at hr
        refine hc g _ h d h' ?_ hr
        cases hm : A.mode g with
        | eff => simp [hm] at hw
        | pure scal own => simp [hm] at hw; simp [hw]
      | _ => simp [writes] at hw
  | box m x =>
    simp only [writes] at hw; subst hw
    simp only [RO.run] at hr
    split at hr <;> (try contradiction)
    simp at hr; exact hr.2.symm
  | bsl m es z ps =>
    simp only [writes] at hw; subst hw
    simp only [RO.run] at hr
    split at hr <;> (try contradiction)
    simp at hr; exact hr.2.symm
  | s2b m x =>
    simp only [writes] at hw; subst hw
    simp only [RO.run] at hr
    split at hr <;> (try contradiction)
    simp at hr; exact hr.2.symm
  | msl m es lim z l c =>
    simp only [writes] at hw; subst hw
    simp only [RO.run] at hr
    split at hr <;> (try contradiction)
    split at hr <;> (try contradiction)
    simp at hr; exact hr.2.symm
  | arr es x => simp [writes] at hw
  | st n x y => simp [writes] at hw
  | app es lim x y => simp [writes] at hw
  | appS lim x y => simp [writes] at hw
  | appZ es lim z x y => simp [writes] at hw
  | cpy es x y => simp [writes] at hw
  | clr es z x => simp [writes] at hw
  | len b x =>
    cases b <;> simp only [RO.run] at hr <;> split at hr <;> (try contradiction) <;> (simp at hr; exact hr.2.symm)
  | _ =>
    simp only [RO.run] at hr
    all_goals (repeat' (first | contradiction | split at hr))
    all_goals (first | contradiction | (simp at hr; exact hr.2.symm) | (simp at hr; exact hr.2) | (injection hr with hr; injection hr with _ hr; exact hr.symm))
end Go.Rex
