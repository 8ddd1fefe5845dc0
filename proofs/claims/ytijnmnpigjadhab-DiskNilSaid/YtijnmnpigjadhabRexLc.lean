import Derived.Test.YtijnmnpigjadhabRexLb
/- Rex, code that forgets what is dead. -/
set_option linter.unusedVariables false
namespace Go.Rex

/-- Code, with what lives at the heads of loops and where ways meet. -/
inductive AC where
  | skip
  | reg (ops : List ROp)
  | draw (pre ops : List ROp)
  | seq (a b : AC)
  | jn (L : Nat) (a b : AC)
  | cond (c : Opd) (a b : AC)
  | block (id : Nat) (b : AC)
  | loop (L : Nat) (b : AC)
  | exit (id : Nat)
  | ret
  deriving Inhabited
def AC.strip : AC → RC
  | .skip => .skip
  | .reg ops => .reg ops
  | .draw p ops => .draw p ops
  | .seq a b => .seq a.strip b.strip
  | .jn _ a b => .seq a.strip b.strip
  | .cond c a b => .cond c a.strip b.strip
  | .block id b => .block id b.strip
  | .loop _ b => .loop b.strip
  | .exit id => .exit id
  | .ret => .ret
/-- What is dead is forgotten. -/
def clrL : Nat → List D → List D
  | _, [] => []
  | L, d :: s => (match L % 2 with | 0 => und | _ => d) :: clrL (L / 2) s
noncomputable def AC.runW (call : CallF) : AC → St → Option (Ex × St)
  | .skip, st => some (.nrm, st)
  | .reg ops, st => match regRun call ops st with
    | some st' => some (.nrm, st')
    | none => none
  | .draw pre ops, st => match regRun call pre st with
    | some st1 => match drawRun call ops st1 [st1.h] [] with
      | some st' => some (.nrm, st')
      | none => none
    | none => none
  | .seq a b, st => match a.runW call st with
    | some (.nrm, st') => b.runW call st'
    | r => r
  | .jn L a b, st => match a.runW call st with
    | some (.nrm, st') => b.runW call { s := clrL L st'.s, h := st'.h }
    | r => r
  | .cond c a b, st => match c.ev st.s with
    | .lit (.bool t) => if t then a.runW call st else b.runW call st
    | _ => none
  | .block id b, st => match b.runW call st with
    | some (.ex i, st') => if i = id then some (.nrm, st') else some (.ex i, st')
    | r => r
  | .loop L b, st => loopW (fun st => b.runW call { s := clrL L st.s, h := st.h }) st
  | .exit id, st => some (.ex id, st)
  | .ret, st => some (.ret, st)

/-! ### What lives -/
def bit (t : Nat) : Nat := 2 ^ t
def rmv (X t : Nat) : Nat := X ^^^ (X &&& bit t)
theorem rmv_bit (X t i : Nat) : (rmv X t).testBit i = (X.testBit i && decide (t ≠ i)) := by
  unfold rmv bit
  rw [Nat.testBit_xor, Nat.testBit_and, Nat.testBit_two_pow]
  by_cases h : t = i <;> cases X.testBit i <;> simp [h]
def bitsO (x : Opd) : Nat := match x with | .t n => bit n | .c _ => 0
def bitsL : List Opd → Nat
  | [] => 0
  | x :: r => bitsO x ||| bitsL r
def rdO (o : ROp) : Nat := bitsL o.op.opds ||| (match o.guard with | some (t, _) => bit t | none => 0)
def kill (X : Nat) : Option Nat → Nat
  | none => X
  | some t => rmv X t
def liveOps : List ROp → Nat → Nat
  | [], n => n
  | o :: r, n => rdO o ||| kill (liveOps r n) o.dst
def lk : List (Nat × Nat) → Nat → Option Nat
  | [], _ => none
  | (i, X) :: r, j => if i = j then some X else lk r j
def subB (X Y : Nat) : Bool := X &&& Y == X
def AC.live : AC → Nat → List (Nat × Nat) → Nat → Option Nat
  | .skip, n, _, _ => some n
  | .reg ops, n, _, _ => some (liveOps ops n)
  | .draw pre ops, n, _, _ => some (liveOps pre (liveOps ops n))
  | .seq a b, n, e, r => match b.live n e r with
    | some m => a.live m e r
    | none => none
  | .jn L a b, n, e, r => match b.live n e r with
    | some m => if subB m L then a.live m e r else none
    | none => none
  | .cond c a b, n, e, r => match a.live n e r, b.live n e r with
    | some x, some y => some (bitsO c ||| (x ||| y))
    | _, _ => none
  | .block id b, n, e, r => b.live n ((id, n) :: e) r
  | .loop L b, n, e, r => match b.live L e r with
    | some m => if subB m L then some L else none
    | none => none
  | .exit id, n, e, r => lk e id
  | .ret, n, e, r => some r

def Ag (X : Nat) (s s' : List D) : Prop := s.length = s'.length ∧ ∀ t, X.testBit t = true → s.getD t und = s'.getD t und
theorem Ag.sub {X Y : Nat} {s s' : List D} (h : Ag Y s s') (hx : ∀ t, X.testBit t = true → Y.testBit t = true) : Ag X s s' := ⟨h.1, fun t ht => h.2 t (hx t ht)⟩
theorem subB_bit {X Y : Nat} (h : subB X Y = true) (t : Nat) (ht : X.testBit t = true) : Y.testBit t = true := by
  unfold subB at h
  have h : X &&& Y = X := by simpa using h
  rw [← h, Nat.testBit_and] at ht
  simp at ht; exact ht.2
theorem or_l {X Y t : Nat} (h : X.testBit t = true) : (X ||| Y).testBit t = true := by rw [Nat.testBit_or, h]; rfl
theorem or_r {X Y t : Nat} (h : Y.testBit t = true) : (X ||| Y).testBit t = true := by rw [Nat.testBit_or, h]; simp
theorem bit_self (n : Nat) : (bit n).testBit n = true := by unfold bit; rw [Nat.testBit_two_pow]; simp
theorem Ag.ev {X : Nat} {s s' : List D} (h : Ag X s s') (x : Opd) (hx : ∀ t, (bitsO x).testBit t = true → X.testBit t = true) : x.ev s = x.ev s' := by
  cases x with
  | c d => rfl
  | t n => exact h.2 n (hx n (bit_self n))
theorem bitsL_mem : ∀ {l : List Opd} {x : Opd}, x ∈ l → ∀ t, (bitsO x).testBit t = true → (bitsL l).testBit t = true
  | y :: l, x, hx, t, ht => by
    rcases List.mem_cons.1 hx with rfl | hx
    · exact or_l ht
    · exact or_r (bitsL_mem hx t ht)
theorem Ag.run {X : Nat} {s s' : List D} (h : Ag X s s') (call : CallF) (hp : Hp) (o : ROp) (hx : ∀ t, (rdO o).testBit t = true → X.testBit t = true) : o.op.run call s hp = o.op.run call s' hp :=
  RO.run_congr o.op fun x hm => h.ev x fun t ht => hx t (or_l (bitsL_mem hm t ht))
theorem Ag.wanted {X : Nat} {s s' : List D} (h : Ag X s s') (o : ROp) (hx : ∀ t, (rdO o).testBit t = true → X.testBit t = true) : o.wanted s = o.wanted s' := by
  unfold ROp.wanted
  cases hg : o.guard with
  | none => rfl
  | some g =>
    obtain ⟨t, b⟩ := g
    simp only
    rw [h.2 t (hx t (by unfold rdO; rw [hg]; exact or_r (bit_self t)))]
theorem Ag.put {X : Nat} {s s' : List D} (h : Ag X s s') (dst : Option Nat) (d : D) {Y : Nat} (hy : ∀ t, (kill Y dst).testBit t = true → X.testBit t = true) : Ag Y (putD s dst d) (putD s' dst d) := by
  cases dst with
  | none => exact h.sub hy
  | some n =>
    refine ⟨by simp [putD, h.1], fun t ht => ?_⟩
    simp only [putD]
    by_cases e : n = t
    · subst e
      by_cases hl : n < s.length
      · have hl' : n < s'.length := h.1 ▸ hl
        simp [List.getD, hl, hl']
      · have hl' : ¬ n < s'.length := h.1 ▸ hl
        simp [List.getD, hl, hl']
    · have k := h.2 t (hy t (by simp only [kill]; rw [rmv_bit, ht]; simp [e]))
      rw [List.getD_eq_getElem?_getD, List.getD_eq_getElem?_getD, List.getElem?_set_ne e, List.getElem?_set_ne e, ← List.getD_eq_getElem?_getD, ← List.getD_eq_getElem?_getD]
      exact k
theorem clrL_len : ∀ (L : Nat) (s : List D), (clrL L s).length = s.length
  | _, [] => rfl
  | L, d :: s => by simp [clrL, clrL_len (L / 2) s]
theorem clrL_get : ∀ (L : Nat) (s : List D) (t : Nat), L.testBit t = true → (clrL L s).getD t und = s.getD t und
  | _, [], _, _ => rfl
  | L, d :: s, 0, h => by
    have : L % 2 = 1 := by simpa [Nat.testBit_zero] using h
    simp [clrL, this]
  | L, d :: s, t + 1, h => by
    rw [Nat.testBit_succ] at h
    simpa [clrL] using clrL_get (L / 2) s t h
theorem Ag.clr {L X : Nat} {s s' : List D} (h : Ag X s s') (hX : ∀ t, X.testBit t = true → L.testBit t = true) : Ag X (clrL L s) s' :=
  ⟨by rw [clrL_len]; exact h.1, fun t ht => by rw [clrL_get L s t (hX t ht)]; exact h.2 t ht⟩

/-! ### It is the same without what was forgotten -/
theorem step_ag {call : CallF} {o : ROp} {st st' : St} {Y : Nat} (hh : st.h = st'.h) (ha : Ag (rdO o ||| kill Y o.dst) st.s st'.s) :
    (o.step call st = none ∧ o.step call st' = none) ∨ ∃ r r', o.step call st = some r ∧ o.step call st' = some r' ∧ r.h = r'.h ∧ Ag Y r.s r'.s := by
  unfold ROp.step
  rw [ha.wanted o (fun t ht => or_l ht), ha.run call st.h o (fun t ht => or_l ht), hh]
  by_cases hw : o.wanted st'.s = true
  · rw [if_pos hw, if_pos hw]
    cases e : o.op.run call st'.s st'.h with
    | none => exact .inl ⟨rfl, rfl⟩
    | some p => exact .inr ⟨_, _, rfl, rfl, rfl, ha.put o.dst p.1 (fun t ht => or_r ht)⟩
  · rw [if_neg hw, if_neg hw]
    exact .inr ⟨_, _, rfl, rfl, rfl, ha.put o.dst und (fun t ht => or_r ht)⟩
theorem reg_ag {call : CallF} {Y : Nat} : ∀ {ops : List ROp} {st st' : St}, st.h = st'.h → Ag (liveOps ops Y) st.s st'.s →
    (regRun call ops st = none ∧ regRun call ops st' = none) ∨ ∃ r r', regRun call ops st = some r ∧ regRun call ops st' = some r' ∧ r.h = r'.h ∧ Ag Y r.s r'.s
  | [], st, st', hh, ha => .inr ⟨_, _, rfl, rfl, hh, ha⟩
  | o :: l, st, st', hh, ha => by
    simp only [regRun]
    rcases step_ag (call := call) hh ha with ⟨h1, h2⟩ | ⟨r, r', h1, h2, h3, h4⟩
    · rw [h1, h2]; exact .inl ⟨rfl, rfl⟩
    · rw [h1, h2]; exact reg_ag h3 h4
def RecAg (r r' : Rec) : Prop := r.o = r'.o ∧ r.d = r'.d ∧ Ag (rdO r.o) r.s r'.s
inductive RecsAg : List Rec → List Rec → Prop
  | nil : RecsAg [] []
  | cons {r r' : Rec} {l l' : List Rec} (h : RecAg r r') (t : RecsAg l l') : RecsAg (r :: l) (r' :: l')
theorem RecAg.ok {call : CallF} {r r' : Rec} (h : RecAg r r') (hs : List Hp) : r.ok call hs = r'.ok call hs := by
  obtain ⟨o, s, d⟩ := r
  obtain ⟨o', s', d'⟩ := r'
  obtain ⟨h1, h2, h3⟩ := h
  simp only at h1 h2 h3
  subst h1 h2
  unfold Rec.ok
  have : ∀ hp, o.op.run call s hp = o.op.run call s' hp := fun hp => h3.run call hp o (fun t ht => ht)
  simp only [this]
theorem RecsAg.ok {call : CallF} {hs : List Hp} : ∀ {l l' : List Rec}, RecsAg l l' → l.all (Rec.ok call hs) = l'.all (Rec.ok call hs)
  | _, _, .nil => rfl
  | _, _, .cons h t => by simp only [List.all_cons]; rw [h.ok, t.ok]
theorem draw_ag {call : CallF} {Y : Nat} : ∀ {ops : List ROp} {st st' : St} {hs : List Hp} {rs rs' : List Rec}, st.h = st'.h → Ag (liveOps ops Y) st.s st'.s → RecsAg rs rs' →
    (drawRun call ops st hs rs = none ∧ drawRun call ops st' hs rs' = none) ∨ ∃ r r', drawRun call ops st hs rs = some r ∧ drawRun call ops st' hs rs' = some r' ∧ r.h = r'.h ∧ Ag Y r.s r'.s
  | [], st, st', hs, rs, rs', hh, ha, hr => by
    simp only [drawRun]
    rw [hr.ok]
    by_cases hk : rs'.all (Rec.ok call hs) = true
    · rw [if_pos hk, if_pos hk]; exact .inr ⟨_, _, rfl, rfl, hh, ha⟩
    · rw [if_neg hk, if_neg hk]; exact .inl ⟨rfl, rfl⟩
  | o :: l, st, st', hs, rs, rs', hh, ha, hr => by
    have ha : Ag (rdO o ||| kill (liveOps l Y) o.dst) st.s st'.s := ha
    simp only [drawRun]
    rw [ha.wanted o (fun t ht => or_l ht), ha.run call st.h o (fun t ht => or_l ht), hh]
    by_cases hw : o.wanted st'.s = true
    · rw [if_pos hw, if_pos hw]
      cases e : o.op.run call st'.s st'.h with
      | none => exact .inl ⟨rfl, rfl⟩
      | some p =>
        simp only
        have hp := ha.put o.dst p.1 (Y := liveOps l Y) (fun t ht => or_r ht)
        by_cases hwr : o.wr = true
        · rw [if_pos hwr, if_pos hwr]; exact draw_ag rfl hp hr
        · rw [if_neg hwr, if_neg hwr]
          by_cases hc : noRec o hs.length = true
          · rw [if_pos hc, if_pos hc]; exact draw_ag rfl hp hr
          · rw [if_neg hc, if_neg hc]; exact draw_ag rfl hp (.cons ⟨rfl, rfl, ha.sub (fun t ht => or_l ht)⟩ hr)
    · rw [if_neg hw, if_neg hw]
      exact draw_ag rfl (ha.put o.dst und (fun t ht => or_r ht)) hr

def OutAg (n : Nat) (e : List (Nat × Nat)) (r : Nat) : Ex → List D → List D → Prop
  | .nrm, s, s' => Ag n s s'
  | .ex i, s, s' => ∃ X, lk e i = some X ∧ Ag X s s'
  | .ret, s, s' => Ag r s s'
def RR (n : Nat) (e : List (Nat × Nat)) (r : Nat) (x y : Option (Ex × St)) : Prop :=
  (x = none ∧ y = none) ∨ ∃ a st st', x = some (a, st) ∧ y = some (a, st') ∧ st.h = st'.h ∧ OutAg n e r a st.s st'.s
theorem run_ag (call : CallF) : ∀ (c : AC) {n : Nat} {e : List (Nat × Nat)} {r l : Nat} {st st' : St}, c.live n e r = some l → st.h = st'.h → Ag l st.s st'.s → RR n e r (c.runW call st) (c.strip.runW call st')
  | .skip, n, e, r, l, st, st', hl, hh, ha => by
    simp only [AC.live, Option.some.injEq] at hl; subst hl
    exact .inr ⟨_, _, _, rfl, rfl, hh, ha⟩
  | .reg ops, n, e, r, l, st, st', hl, hh, ha => by
    simp only [AC.live, Option.some.injEq] at hl; subst hl
    simp only [AC.runW, AC.strip, RC.runW]
    rcases reg_ag (call := call) hh ha with ⟨h1, h2⟩ | ⟨r, r', h1, h2, h3, h4⟩
    · rw [h1, h2]; exact .inl ⟨rfl, rfl⟩
    · rw [h1, h2]; exact .inr ⟨_, _, _, rfl, rfl, h3, h4⟩
  | .draw pre ops, n, e, r, l, st, st', hl, hh, ha => by
    simp only [AC.live, Option.some.injEq] at hl; subst hl
    simp only [AC.runW, AC.strip, RC.runW]
    rcases reg_ag (call := call) hh ha with ⟨h1, h2⟩ | ⟨r, r', h1, h2, h3, h4⟩
    · rw [h1, h2]; exact .inl ⟨rfl, rfl⟩
    · rw [h1, h2]
      simp only
      rw [h3]
      rcases draw_ag (call := call) (hs := [r'.h]) h3 h4 .nil with ⟨h1, h2⟩ | ⟨r, r', h1, h2, h3, h4⟩
      · rw [h1, h2]; exact .inl ⟨rfl, rfl⟩
      · rw [h1, h2]; exact .inr ⟨_, _, _, rfl, rfl, h3, h4⟩
  | .seq a b, n, e, r, l, st, st', hl, hh, ha => by
    simp only [AC.live] at hl
    split at hl <;> (try contradiction)
    rename_i m hm
    simp only [AC.runW, AC.strip, RC.runW]
    rcases run_ag call a hl hh ha with ⟨h1, h2⟩ | ⟨x, t, t', h1, h2, h3, h4⟩
    · rw [h1, h2]; exact .inl ⟨rfl, rfl⟩
    · rw [h1, h2]
      cases x with
      | nrm => exact run_ag call b hm h3 h4
      | ex i => exact .inr ⟨_, _, _, rfl, rfl, h3, h4⟩
      | ret => exact .inr ⟨_, _, _, rfl, rfl, h3, h4⟩
  | .jn L a b, n, e, r, l, st, st', hl, hh, ha => by
    simp only [AC.live] at hl
    split at hl <;> (try contradiction)
    rename_i m hm
    split at hl <;> (try contradiction)
    rename_i hs
    simp only [AC.runW, AC.strip, RC.runW]
    rcases run_ag call a hl hh ha with ⟨h1, h2⟩ | ⟨x, t, t', h1, h2, h3, h4⟩
    · rw [h1, h2]; exact .inl ⟨rfl, rfl⟩
    · rw [h1, h2]
      cases x with
      | nrm => exact run_ag call b hm (st := { s := clrL L t.s, h := t.h }) h3 (Ag.clr h4 (subB_bit hs))
      | ex i => exact .inr ⟨_, _, _, rfl, rfl, h3, h4⟩
      | ret => exact .inr ⟨_, _, _, rfl, rfl, h3, h4⟩
  | .cond c a b, n, e, r, l, st, st', hl, hh, ha => by
    simp only [AC.live] at hl
    split at hl <;> (try contradiction)
    rename_i x y hx hy
    injection hl with hl; subst hl
    simp only [AC.runW, AC.strip, RC.runW]
    rw [ha.ev c (fun t ht => or_l ht)]
    split
    · rename_i t ht
      simp only [ht]
      cases t
      · exact run_ag call b hy hh (ha.sub fun t ht => or_r (or_r ht))
      · exact run_ag call a hx hh (ha.sub fun t ht => or_r (or_l ht))
    · rename_i hne
      split
      · rename_i t ht; exact absurd ht (hne t)
      · exact .inl ⟨rfl, rfl⟩
  | .block id b, n, e, r, l, st, st', hl, hh, ha => by
    simp only [AC.live] at hl
    simp only [AC.runW, AC.strip, RC.runW]
    rcases run_ag call b hl hh ha with ⟨h1, h2⟩ | ⟨x, t, t', h1, h2, h3, h4⟩
    · rw [h1, h2]; exact .inl ⟨rfl, rfl⟩
    · rw [h1, h2]
      cases x with
      | nrm => exact .inr ⟨_, _, _, rfl, rfl, h3, h4⟩
      | ex i =>
        obtain ⟨X, hX, hA⟩ := h4
        simp only [lk] at hX
        simp only
        by_cases hi : i = id
        · subst hi
          rw [if_pos rfl] at hX
          injection hX with hX; subst hX
          simp only [if_true]
          exact .inr ⟨_, _, _, rfl, rfl, h3, hA⟩
        · rw [if_neg (fun h => hi h.symm)] at hX
          rw [if_neg hi, if_neg hi]
          exact .inr ⟨_, _, _, rfl, rfl, h3, X, hX, hA⟩
      | ret => exact .inr ⟨_, _, _, rfl, rfl, h3, h4⟩
  | .loop L b, n, e, r, l, st, st', hl, hh, ha => by
    simp only [AC.live] at hl
    split at hl <;> (try contradiction)
    rename_i m hm
    split at hl <;> (try contradiction)
    rename_i hs
    injection hl with hl; subst hl
    simp only [AC.runW, AC.strip, RC.runW]
    have key : ∀ (k : Nat) (st st' : St), st.h = st'.h → Ag L st.s st'.s → RR n e r (loopN (fun st => b.runW call { s := clrL L st.s, h := st.h }) k st) (loopN (b.strip.runW call) k st') := by
      intro k
      induction k with
      | zero => intro st st' _ _; exact .inl ⟨rfl, rfl⟩
      | succ k ih =>
        intro st st' hh ha
        simp only [loopN]
        rcases run_ag call b hm (st := { s := clrL L st.s, h := st.h }) hh ((ha.clr (fun t ht => ht)).sub (subB_bit hs)) with ⟨h1, h2⟩ | ⟨x, t, t', h1, h2, h3, h4⟩
        · rw [h1, h2]; exact .inl ⟨rfl, rfl⟩
        · rw [h1, h2]
          cases x with
          | nrm => exact ih t t' h3 h4
          | ex i => exact .inr ⟨_, _, _, rfl, rfl, h3, h4⟩
          | ret => exact .inr ⟨_, _, _, rfl, rfl, h3, h4⟩
    cases h1 : loopW (fun st => b.runW call { s := clrL L st.s, h := st.h }) st with
    | some p =>
      obtain ⟨k, hk⟩ := loopW_iff.1 h1
      rcases key k st st' hh ha with ⟨h2, _⟩ | ⟨x, t, t', h2, h3, h4, h5⟩
      · rw [hk] at h2; cases h2
      · rw [hk] at h2; injection h2 with h2; subst h2
        rw [loopW_iff.2 ⟨k, h3⟩]
        exact .inr ⟨_, _, _, rfl, rfl, h4, h5⟩
    | none =>
      cases h2 : loopW (b.strip.runW call) st' with
      | none => exact .inl ⟨rfl, rfl⟩
      | some p =>
        obtain ⟨k, hk⟩ := loopW_iff.1 h2
        rcases key k st st' hh ha with ⟨_, h3⟩ | ⟨x, t, t', h3, h4, _⟩
        · rw [hk] at h3; cases h3
        · rw [loopW_iff.2 ⟨k, h3⟩] at h1; cases h1
  | .exit id, n, e, r, l, st, st', hl, hh, ha => by
    simp only [AC.live] at hl
    exact .inr ⟨_, _, _, rfl, rfl, hh, l, hl, ha⟩
  | .ret, n, e, r, l, st, st', hl, hh, ha => by
    simp only [AC.live, Option.some.injEq] at hl; subst hl
    exact .inr ⟨_, _, _, rfl, rfl, hh, ha⟩

/-! ### Functions -/
structure AFn where
  body : AC
  ntmps : Nat
  results : List RRes
  mode : FMode
  deriving Inhabited
def AFn.fn (f : AFn) : RFn := ⟨f.body.strip, f.ntmps, f.results, f.mode⟩
def bitsR : List RRes → Nat
  | [] => 0
  | .t n :: r => bit n ||| bitsR r
  | .cell n _ _ :: r => bit n ||| bitsR r
/-- Is what is forgotten dead? -/
def AFn.ok (f : AFn) : Bool := (f.body.live (bitsR f.results) [] (bitsR f.results)).isSome
theorem res_ag {h : Hp} {s s' : List D} : ∀ {l : List RRes}, Ag (bitsR l) s s' → resOf { s := s, h := h } l = resOf { s := s', h := h } l
  | [], _ => rfl
  | .t n :: r, ha => by
    simp only [resOf]
    rw [res_ag (ha.sub fun t ht => or_r ht), ha.2 n (or_l (bit_self n))]
  | .cell n _ _ :: r, ha => by
    simp only [resOf]
    rw [res_ag (ha.sub fun t ht => or_r ht), ha.2 n (or_l (bit_self n))]
noncomputable def loopK {α : Type} (call : CallF) (L : Nat) (b : AC) (k : Ex → St → Option α) (st : St) : Option α := (loopW (fun st => b.runW call { s := clrL L st.s, h := st.h }) st).bind fun p => k p.1 p.2
/-- What comes behind: the second of two; a block's end. -/
def seqK {α : Type} (f : St → (Ex → St → Option α) → Option α) (k : Ex → St → Option α) : Ex → St → Option α := fun e st' => match e with
  | .nrm => f st' k
  | .ex i => k (.ex i) st'
  | .ret => k .ret st'
def jnK {α : Type} (L : Nat) (f : St → (Ex → St → Option α) → Option α) (k : Ex → St → Option α) : Ex → St → Option α := fun e st' => match e with
  | .nrm => f { s := clrL L st'.s, h := st'.h } k
  | .ex i => k (.ex i) st'
  | .ret => k .ret st'
def blockK {α : Type} (id : Nat) (k : Ex → St → Option α) : Ex → St → Option α := fun e st' => match e with
  | .nrm => k .nrm st'
  | .ex i => if i = id then k .nrm st' else k (.ex i) st'
  | .ret => k .ret st'
/-- What a loop gives, and what comes behind it. -/
abbrev LpF (α : Type) := Nat → AC → (Ex → St → Option α) → St → Option α
noncomputable def cpsA {α : Type} (call : CallF) (lp : LpF α) (c : AC) : St → (Ex → St → Option α) → Option α :=
  AC.rec (motive := fun _ => St → (Ex → St → Option α) → Option α)
    (fun st k => k .nrm st)
    (fun ops st k => regK call ops st (k .nrm))
    (fun pre ops st k => regK call pre st fun st1 => drawK call ops st1 [st1.h] [] (k .nrm))
    (fun _ _ iha ihb st k => iha st (seqK ihb k))
    (fun L _ _ iha ihb st k => iha st (jnK L ihb k))
    (fun c _ _ iha ihb st k => cnd (c.ev st.s) (iha st k) (ihb st k))
    (fun id _ ih st k => ih st (blockK id k))
    (fun L b _ st k => lp L b k { s := clrL L st.s, h := st.h })
    (fun id st k => k (.ex id) st)
    (fun st k => k .ret st) c
theorem clrL_idem : ∀ (L : Nat) (s : List D), clrL L (clrL L s) = clrL L s
  | _, [] => rfl
  | L, d :: s => by
    simp only [clrL]
    rw [clrL_idem (L / 2) s]
    cases L % 2 <;> rfl
theorem loopW_clr (call : CallF) (L : Nat) (b : AC) (st : St) : loopW (fun st => b.runW call { s := clrL L st.s, h := st.h }) { s := clrL L st.s, h := st.h } = loopW (fun st => b.runW call { s := clrL L st.s, h := st.h }) st := by
  rw [loopW_eq, loopW_eq (st := st)]
  simp only [clrL_idem]
theorem cpsA_eq {α : Type} (call : CallF) : ∀ (c : AC) (st : St) (k : Ex → St → Option α), cpsA call (loopK call) c st k = (c.runW call st).bind fun p => k p.1 p.2
  | .skip, _, _ => rfl
  | .reg ops, st, k => by
    show regK call ops st (k .nrm) = _
    simp only [AC.runW]
    rw [regK_eq]
    cases e : regRun call ops st <;> rfl
  | .draw pre ops, st, k => by
    show (regK call pre st fun st1 => drawK call ops st1 [st1.h] [] (k .nrm)) = _
    simp only [AC.runW]
    rw [regK_eq]
    cases e : regRun call pre st with
    | none => rfl
    | some st1 =>
      simp only [Option.bind_some]
      rw [drawK_eq]
      cases e : drawRun call ops st1 [st1.h] [] <;> rfl
  | .seq a b, st, k => by
    show cpsA call (loopK call) a st (seqK (cpsA call (loopK call) b) k) = _
    simp only [AC.runW]
    rw [cpsA_eq call a]
    cases e : a.runW call st with
    | none => rfl
    | some p =>
      obtain ⟨e1, st1⟩ := p
      cases e1 with
      | nrm => simp only [Option.bind_some]; exact cpsA_eq call b st1 k
      | ex i => rfl
      | ret => rfl
  | .jn L a b, st, k => by
    show cpsA call (loopK call) a st (jnK L (cpsA call (loopK call) b) k) = _
    simp only [AC.runW]
    rw [cpsA_eq call a]
    cases e : a.runW call st with
    | none => rfl
    | some p =>
      obtain ⟨e1, st1⟩ := p
      cases e1 with
      | nrm => simp only [Option.bind_some]; exact cpsA_eq call b _ k
      | ex i => rfl
      | ret => rfl
  | .cond c a b, st, k => by
    show cnd (c.ev st.s) (cpsA call (loopK call) a st k) (cpsA call (loopK call) b st k) = _
    simp only [AC.runW]
    rw [cpsA_eq call a, cpsA_eq call b]
    unfold cnd
    split
    · rename_i h; rw [h]; rfl
    · rename_i h; rw [h]; rfl
    · rename_i h1 h2
      split
      · rename_i t h; cases t
        · exact absurd h (by intro h; exact h2 h)
        · exact absurd h (by intro h; exact h1 h)
      · rfl
  | .block id b, st, k => by
    show cpsA call (loopK call) b st (blockK id k) = _
    simp only [AC.runW]
    rw [cpsA_eq call b]
    cases e : b.runW call st with
    | none => rfl
    | some p =>
      obtain ⟨e1, st1⟩ := p
      cases e1 with
      | nrm => rfl
      | ex i =>
        simp only [Option.bind_some, blockK]
        split <;> rfl
      | ret => rfl
  | .loop L b, st, k => by
    show loopK call L b k { s := clrL L st.s, h := st.h } = _
    simp only [AC.runW]
    unfold loopK
    rw [loopW_clr]
  | .exit id, _, _ => rfl
  | .ret, _, _ => rfl
/-- What comes behind a loop's round. -/
def againK {α : Type} (lp : LpF α) (L : Nat) (b : AC) (k : Ex → St → Option α) : Ex → St → Option α := fun e st' => match e with
    | .nrm => lp L b k { s := clrL L st'.s, h := st'.h }
    | .ex i => k (.ex i) st'
    | .ret => k .ret st'
/-- A loop goes round. -/
theorem loopK_round {α : Type} (call : CallF) (L : Nat) (b : AC) (k : Ex → St → Option α) (st : St) : loopK call L b k { s := clrL L st.s, h := st.h } = cpsA call (loopK call) b { s := clrL L st.s, h := st.h } (againK (loopK call) L b k) := by
  unfold againK
  rw [cpsA_eq]
  conv => lhs; unfold loopK
  rw [loopW_eq, clrL_idem]
  cases e : b.runW call { s := clrL L st.s, h := st.h } with
  | none => rfl
  | some p =>
    obtain ⟨e1, st1⟩ := p
    cases e1 with
    | nrm => simp only [Option.bind_some]; unfold loopK; rw [loopW_clr]
    | ex i => rfl
    | ret => rfl
/-- What code is run with: what calls give, and loops. -/
structure Cx where
  call : CallF
  lp : LpF (List D × Hp)
  round : ∀ (L : Nat) (b : AC) (k : Ex → St → Option (List D × Hp)) (s : List D) (h : Hp), clrL L s = s → lp L b k ⟨s, h⟩ = cpsA call lp b ⟨s, h⟩ (againK lp L b k)
noncomputable def cxOf (call : CallF) : Cx := ⟨call, loopK call, fun L b k s h hs => by
  have := loopK_round call L b k ⟨s, h⟩
  simp only [hs] at this
  exact this⟩
noncomputable def frA {α : Type} (call : CallF) (lp : LpF α) : AC → Nat → (Ex → St → Option α) → Ex → St → Option α
  | .seq a b, 0, k => seqK (cpsA call lp b) k
  | .jn L a b, 0, k => jnK L (cpsA call lp b) k
  | .block id b, _, k => blockK id k
  | .loop L b, _, k => againK lp L b k
  | _, _, k => k
/-- A part of code. -/
def AC.sub : AC → Nat → AC
  | .seq a b, 0 => a
  | .seq a b, _ => b
  | .jn _ a b, 0 => a
  | .jn _ a b, _ => b
  | .cond _ a b, 0 => a
  | .cond _ a b, _ => b
  | .block _ b, _ => b
  | .loop _ b, _ => b
  | c, _ => c
/-- The code at the end of a path, and what comes behind it. -/
def codeA : List Nat → AC → AC
  | [], c => c
  | i :: p, c => codeA p (c.sub i)
noncomputable def contA {α : Type} (call : CallF) (lp : LpF α) : List Nat → AC → (Ex → St → Option α) → (Ex → St → Option α)
  | [], _, k => k
  | i :: p, c, k => contA call lp p (c.sub i) (frA call lp c i k)
def AC.bodyOf : AC → AC
  | .loop _ b => b
  | c => c
/-- A function's end. -/
def finA (f : AFn) (e : Ex) (st : St) : Option (List D × Hp) :=
  match e with
  | .nrm => (resOf st f.results).bind fun l => some (l, st.h)
  | .ret => (resOf st f.results).bind fun l => some (l, st.h)
  | .ex _ => none
noncomputable def bodyA (c : Cx) (f : AFn) (args : List D) (h : Hp) : Option (List D × Hp) := cpsA c.call c.lp f.body { s := args ++ List.replicate (f.ntmps - args.length) und, h } (finA f)
theorem bodyA_eq (call : CallF) (f : AFn) (args : List D) (h : Hp) (hf : f.ok = true) : bodyW call f.fn args h = bodyA (cxOf call) f args h := by
  unfold bodyW bodyA cxOf
  simp only
  rw [cpsA_eq]
  unfold AFn.ok at hf
  obtain ⟨l, hl⟩ := Option.isSome_iff_exists.1 hf
  have hin : ∀ s : St, Ag l s.s s.s := fun s => ⟨rfl, fun _ _ => rfl⟩
  rcases run_ag call f.body hl (st := { s := args ++ List.replicate (f.ntmps - args.length) und, h }) (st' := { s := args ++ List.replicate (f.ntmps - args.length) und, h }) rfl (hin _) with ⟨h1, h2⟩ | ⟨x, t, t', h1, h2, h3, h4⟩
  · simp only [AFn.fn]
    rw [h1, h2]; rfl
  · simp only [AFn.fn]
    rw [h1, h2]
    cases x with
    | nrm =>
      have : resOf t f.results = resOf t' f.results := by
        obtain ⟨s, h⟩ := t; obtain ⟨s', h'⟩ := t'; simp only at h3; subst h3; exact res_ag h4
      show (match resOf t' f.results with | some l => some (l, t'.h) | none => none) = (resOf t f.results).bind fun l => some (l, t.h)
      rw [this, h3]; cases resOf t' f.results <;> rfl
    | ret =>
      have : resOf t f.results = resOf t' f.results := by
        obtain ⟨s, h⟩ := t; obtain ⟨s', h'⟩ := t'; simp only at h3; subst h3; exact res_ag h4
      show (match resOf t' f.results with | some l => some (l, t'.h) | none => none) = (resOf t f.results).bind fun l => some (l, t.h)
      rw [this, h3]; cases resOf t' f.results <;> rfl
    | ex i => rfl
end Go.Rex
