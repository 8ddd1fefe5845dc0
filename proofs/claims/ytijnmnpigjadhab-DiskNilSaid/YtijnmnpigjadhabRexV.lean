import Derived.Test.YtijnmnpigjadhabRexU
import Derived.Tactics
/- Rex, part V: calls, and regions in their order. -/
set_option linter.unusedVariables false
set_option linter.unusedSimpArgs false
namespace Go.Rex
open Go.RowKit Go.Lib

/-- What a call of a function comes to, be it done on the spot or entered. -/
def CallRuns (P : Program) (f : FuncId) (vs : Array Value) (w : World) (R : Value → World → Prop) : Prop :=
  (∃ v w', (callFunc f vs).run P w = .ok (.value v) w' ∧ R v w') ∨
  ((callFunc f vs).run P w = .ok (.enter f vs) w ∧ Calls P f vs w fun
    | .returned v, w' => R v w'
    | _, _ => False)
/-- What an abstract run promises of the machine's. -/
def CallOk (P : Program) (call : CallF) : Prop := ∀ f args h d h', call f args h = some (d, h') → ∀ g w vs, Hq g w h → VL2 g w args vs →
  CallRuns P f vs.toArray w fun v w' => ∃ g', V g' w' d v ∧ Hq g' w' h' ∧ Ext g w h g' w' h'

section
variable {P : Program} {g : Gh} {w : World} {h h' : Hp} {s : List D} {a : Act} {call : CallF} {o : Oper} {d : D} {m : Bool} {ro : RO}

theorem VL2.append : ∀ {ds es : List D} {vs us : List Value}, VL2 g w ds vs → VL2 g w es us → VL2 g w (ds ++ es) (vs ++ us)
  | [], es, [], us, _, h => h
  | _ :: _, es, _ :: _, us, ⟨h1, h2⟩, h => ⟨h1, VL2.append h2 h⟩
  | [], _, _ :: _, _, h, _ => h.elim
  | _ :: _, _, [], _, h, _ => h.elim
theorem CapCs.vl2 : ∀ {ds : List D} {vs : List Value}, CapCs g w ds vs → VL2 g w ds vs
  | [], vs, h => by have h : vs = [] := h; subst h; trivial
  | d :: ds, vs, ⟨v, r, h1, hp, h2, h3⟩ => by
    subst h1
    refine ⟨?_, CapCs.vl2 h3⟩
    cases d <;> first | exact h2 | simp [D.isPtr] at hp
theorem VL2.take : ∀ (n : Nat) {ds : List D} {vs : List Value}, VL2 g w ds vs → VL2 g w (ds.take n) (vs.take n)
  | 0, ds, vs, h => by simp [VL2]
  | n + 1, [], [], h => trivial
  | n + 1, _ :: _, _ :: _, ⟨h1, h2⟩ => ⟨h1, VL2.take n h2⟩
  | n + 1, [], _ :: _, h => h.elim
  | n + 1, _ :: _, [], h => h.elim
theorem VL2.drop : ∀ (n : Nat) {ds : List D} {vs : List Value}, VL2 g w ds vs → VL2 g w (ds.drop n) (vs.drop n)
  | 0, ds, vs, h => by simpa using h
  | n + 1, [], [], h => trivial
  | n + 1, _ :: _, _ :: _, ⟨h1, h2⟩ => by simpa using VL2.drop n h2
  | n + 1, [], _ :: _, h => h.elim
  | n + 1, _ :: _, [], h => h.elim
theorem VL2.len : ∀ {ds : List D} {vs : List Value}, VL2 g w ds vs → ds.length = vs.length
  | [], [], _ => rfl
  | _ :: _, _ :: _, ⟨_, h⟩ => by simp [VL2.len h]
  | [], _ :: _, h => h.elim
  | _ :: _, [], h => h.elim
theorem VL2.get : ∀ {ds : List D} {vs : List Value} (i : Nat), VL2 g w ds vs → i < ds.length → V g w (ds.getD i und) (vs.getD i undef)
  | d :: ds, v :: vs, 0, ⟨h, _⟩, _ => by simpa using h
  | d :: ds, v :: vs, i + 1, ⟨_, h⟩, hi => by simpa using VL2.get i h (by simpa using hi)
  | [], _, _, _, hi => by simp at hi
  | _ :: _, [], _, h, _ => h.elim

theorem V_und : V g w und undef := ⟨[], rfl, rfl⟩
theorem SlotsOk.put {g' : Gh} {w' : World} (hs : SlotsOk g w s a) (hl : Le g w g' w') {dst : Option Tmp} {v : Value} (hv : V g' w' d v) : SlotsOk g' w' (putD s dst d) (a.put dst v) := by
  cases dst with
  | none => exact ⟨hs.1, fun i => (hs.2 i).le hl⟩
  | some t =>
    refine ⟨by simp [Act.put, putD, hs.1], fun i => ?_⟩
    have hi := (hs.2 i).le hl
    by_cases e : t = i
    · subst e
      by_cases ht : t < s.length
      · have ht' : t < a.tmps.size := by rw [hs.1]; exact ht
        simpa [Act.put, putD, List.getD, ht, Array.getD, ht'] using hv
      · have ht' : ¬ t < a.tmps.size := by rw [hs.1]; exact ht
        have : s.length ≤ t := Nat.le_of_not_lt ht
        simp only [Act.put, putD]
        rw [List.set_eq_of_length_le this]
        simpa [Array.getD, ht', List.getD] using hi
    · have : V g' w' ((s.set t d).getD i und) ((a.tmps.setIfInBounds t v).getD i undef) := by
        rw [List.getD_eq_getElem?_getD, List.getElem?_set_ne e, ← List.getD_eq_getElem?_getD]
        simpa [Array.getD_eq_getD_getElem?, Array.getElem?_setIfInBounds_ne e] using hi
      exact this
theorem put_defers (a : Act) (dst : Option Tmp) (v : Value) : (a.put dst v).defers = a.defers := by cases dst <;> rfl

theorem exec_call {c : Call} {f : Operand} {k : FuncId} {ps vs : Array Value} (ho : o.op = .call c) (hc : c.callee = .value f) (hf : a.eval f = .func (.func k) ps vs) :
    execOp a.eval o = callFunc k (ps ++ c.args.map a.eval ++ vs) := by
  unfold execOp
  rw [ho]
  simp only [resolve, hc, hf, Deferred.ofValue, invoke]
  rfl

theorem fn_V {f : FuncId} {n : Nat} {caps : List D} {v : Value} (h : V g w (.fn f n caps) v) : ∃ ps vs : List Value, v = .func (.func f) ps.toArray vs.toArray ∧ ps.length = n ∧ VL2 g w caps (ps ++ vs) := by
  simp only [V, V1, Cs] at h
  obtain ⟨ps, vs, hv, hn, hc⟩ := h
  injection hv with hv
  exact ⟨ps, vs, hv, hn, hc.vl2⟩

theorem digCall_ne (b : Builtin) (ts : List TypeId) (xs : List Opd) (f : Opd) (args : List Opd) : digCall P b ts xs ≠ some (.call f args) := by
  intro h
  unfold digCall at h
  repeat' (first | contradiction | split at h)
  all_goals (simp at h)
/-- One operation, be it a call. -/
theorem oper_sound (q : Hq g w h) (hs : SlotsOk g w s a) (hc : CallOk P call) (hd : digOp P m o.op = some ro) (hr : ro.run call s h = some (d, h')) {K : Act → World → Prop} {Q : Exit → Act → World → Prop}
    (hK : ∀ v w' g', V g' w' d v → Hq g' w' h' → Ext g w h g' w' h' → K (a.put o.dst v) w') : o.wp P a w K Q := by
  by_cases hcall : ∃ f args, ro = .call f args
  · obtain ⟨f, args, rfl⟩ := hcall
    -- the digest comes of a call
    have hcal : ∃ c f', o.op = .call c ∧ c.callee = .value f' ∧ digOpd f' = some f ∧ optL digOpd c.args.toList = some args := by
      cases ho : o.op with
      | call c =>
        rw [ho] at hd
        simp only [digOp] at hd
        split at hd <;> (try contradiction)
        · split at hd <;> (try contradiction)
          exact absurd hd (digCall_ne _ _ _ _ _)
        · rename_i f' hf'
          split at hd <;> (try contradiction)
          rename_i f1 xs hf1 hx
          injection hd with hd; injection hd with h1 h2; subst h1 h2
          exact ⟨c, f', rfl, hf', hf1, hx⟩
      | _ =>
        rw [ho] at hd
        exfalso
        simp only [digOp] at hd
        repeat' (first | contradiction | split at hd)
        all_goals (first | contradiction | (simp at hd; done) | (simp [Option.map_eq_some_iff] at hd; done))
    obtain ⟨c, f', ho, hcv, hf', hx⟩ := hcal
    simp only [RO.run] at hr
    split at hr
    · rename_i k n caps hfe
      have hfv := opd_sound hs hf'
      rw [hfe] at hfv
      obtain ⟨ps, vs, hfv, hn, hcaps⟩ := fn_V hfv
      have hargs := optL_sound hs _ _ hx
      have h1 : VL2 g w (caps.take n) ps := by have := hcaps.take n; rwa [List.take_left' hn] at this
      have h2 : VL2 g w (caps.drop n) vs := by have := hcaps.drop n; rwa [List.drop_left' hn] at this
      have hall := VL2.append (VL2.append h1 hargs) h2
      have hx := hc k _ h d h' hr g w _ q hall
      have heq : (ps ++ c.args.toList.map a.eval ++ vs).toArray = ps.toArray ++ c.args.map a.eval ++ vs.toArray := by
        apply Array.ext'; simp
      rw [heq] at hx
      unfold Oper.wp
      rw [exec_call ho hcv hfv]
      rcases hx with ⟨v, w', hrun, g', hv, hq, he⟩ | ⟨hrun, hcalls⟩
      · rw [hrun]
        exact hK v w' g' hv hq he
      · rw [hrun]
        refine Calls.mono hcalls (fun e w' he => ?_)
        cases e with
        | returned v =>
          obtain ⟨g', hv, hq, he⟩ := he
          exact hK v w' g' hv hq he
        | panicked _ => exact he.elim
        | outgrown => exact he.elim
    · cases hr
  · obtain ⟨n, v, w', g', hrun, hn, hv, hq, he⟩ := op_sound q hs hd (fun f args e => hcall ⟨f, args, e⟩) hr
    unfold Oper.wp
    rw [hrun]
    rcases hn with rfl | ⟨rfl, rfl⟩
    · exact hK v w' g' hv hq he
    · exact hK undef w' g' hv hq he

theorem V_boolD {b : Bool} (h : V g w d (.bool b)) : d = .lit (.bool b) := by
  cases d with
  | lit v => have := (V_lit.1 h).1; rw [this]
  | agg szs fs => obtain ⟨c, hc, _⟩ := h; cases hc
  | tup ds => obtain ⟨vs, hv, _⟩ := h; cases hv
  | sl es xs tg => simp only [V, V1, Cs] at h; obtain ⟨_, _, _, _, h, _⟩ := h; injection h with h; cases h
  | pv d => simp only [V, V1, Cs] at h; obtain ⟨_, _, _, h, _⟩ := h; injection h with h; cases h
  | mo => simp only [V, V1, Cs] at h; obtain ⟨_, _, _, _, h, _⟩ := h; injection h with h; cases h
  | ptr => simp only [V, V1, Cs] at h; obtain ⟨_, _, h, _⟩ := h; injection h with h; cases h
  | fn => simp only [V, V1, Cs] at h; obtain ⟨_, _, h, _⟩ := h; injection h with h; cases h

theorem digOper_spec {A : Ann} {f : FuncId} {id i : Nat} {ops : Array Oper} {r : ROp} (h : digOper P A f id ops i o = some r) :
    r.dst = o.dst ∧ (∃ m, digOp P m o.op = some r.op) ∧ r.wr = writes A r.op ∧ ((o.guard = none ∧ r.guard = none) ∨ ∃ j want t, o.guard = some (j, want) ∧ (ops[j]?).bind (·.dst) = some t ∧ r.guard = some (t, want)) := by
  unfold digOper at h
  split at h <;> (try contradiction)
  rename_i ro hro
  split at h
  · rename_i hg
    injection h with h; subst h
    exact ⟨rfl, ⟨_, hro⟩, rfl, .inl ⟨hg, rfl⟩⟩
  · rename_i j want hg
    split at h <;> (try contradiction)
    rename_i t ht
    injection h with h; subst h
    exact ⟨rfl, ⟨_, hro⟩, rfl, .inr ⟨j, want, t, hg, ht, rfl⟩⟩

theorem wanted_sound {A : Ann} {f : FuncId} {id i : Nat} {ops : Array Oper} {r : ROp} (hs : SlotsOk g w s a) (h : digOper P A f id ops i o = some r) : Region.wanted o (yielded ops a.tmps) = r.wanted s := by
  obtain ⟨_, _, _, hg⟩ := digOper_spec h
  unfold Region.wanted ROp.wanted
  rcases hg with ⟨h1, h2⟩ | ⟨j, want, t, h1, h2, h3⟩
  · rw [h1, h2]
  · rw [h1, h3]
    simp only [yielded, h2, Option.bind_some]
    have hv := hs.2 t
    by_cases ht : t < a.tmps.size
    · have hget : a.tmps[t]? = some (a.tmps.getD t undef) := by simp [Array.getD, ht]
      rw [hget]
      generalize a.tmps.getD t undef = u at hv
      generalize s.getD t und = e at hv
      cases u with
      | bool b =>
        have := V_boolD hv
        subst this
        simp
      | _ =>
        cases e with
        | lit v =>
          cases v with
          | bool b => have := V_bool hv; cases this
          | _ => simp
        | _ => simp
    · have hn : a.tmps[t]? = none := by simp; exact Nat.le_of_not_lt ht
      have : s.getD t und = und := by rw [hs.1] at ht; simp [List.getD, List.getElem?_eq_none (Nat.le_of_not_lt ht)]
      rw [hn, this]; simp [und]

/-- A region in its order. -/
theorem reg_sound (hc : CallOk P call) {A : Ann} {f : FuncId} {id : Nat} {ops : Array Oper} {Q : Exit → Act → World → Prop} {st' : St} :
    ∀ (l : List Oper) (rl : List ROp) (i : Nat) (a : Act) (g : Gh) (w : World) (s : List D) (h : Hp), digOps P A f id ops i l = some rl → regRun call rl ⟨s, h⟩ = some st' → Hq g w h → SlotsOk g w s a →
    (∀ a' w' g', SlotsOk g' w' st'.s a' → Hq g' w' st'.h → Ext g w h g' w' st'.h → a'.defers = a.defers → Q .normal a' w') → wpList P ops Q l a w
  | [], rl, i, a, g, w, s, h, hd, hr, q, hs, hQ => by
    simp only [digOps, Option.some.injEq] at hd; subst hd
    simp only [regRun, Option.some.injEq] at hr; subst hr
    exact hQ a w g hs q (Ext.refl _ _ _) rfl
  | o :: l, rl, i, a, g, w, s, h, hd, hr, q, hs, hQ => by
    simp only [digOps] at hd
    split at hd <;> (try contradiction)
    rename_i r rl' hr1 hrl
    injection hd with hd; subst hd
    obtain ⟨hdst, ⟨m, hop⟩, _, _⟩ := digOper_spec hr1
    have hw := wanted_sound hs hr1
    simp only [regRun, ROp.step] at hr
    unfold wpList
    rw [hw]
    by_cases hwt : r.wanted s = true
    · rw [if_pos hwt]
      simp only [hwt, if_true] at hr
      cases hrun : r.op.run call s h with
      | none => simp [hrun] at hr
      | some x =>
        obtain ⟨d, h1⟩ := x
        simp only [hrun] at hr
        refine .inl (oper_sound q hs hc hop hrun (fun v w' g' hv hq he => ?_))
        refine reg_sound hc l rl' (i + 1) _ g' w' _ h1 hrl hr hq (by rw [hdst]; exact hs.put he.le hv) (fun a' w2 g2 k1 k2 k3 k4 => ?_)
        exact hQ a' w2 g2 k1 k2 (he.trans k3) (by rw [k4, put_defers])
    · have hwt : r.wanted s = false := by simpa using hwt
      rw [hwt]
      simp only [hwt, Bool.false_eq_true, if_false] at hr ⊢
      refine reg_sound hc l rl' (i + 1) _ g w _ h hrl hr q (by rw [hdst]; exact hs.put (Le.refl _ _) V_und) (fun a' w2 g2 k1 k2 k3 k4 => ?_)
      exact hQ a' w2 g2 k1 k2 k3 (by rw [k4, put_defers])
end
end Go.Rex
