import Derived.Test.YtijnmnpigjadhabRexLa
/- Rex, code with what comes behind it. -/
set_option linter.unusedVariables false
namespace Go.Rex
variable {α : Type}

/-- A step that is done if a bool is so; else nothing. -/
def grd (c : D) (b : Bool) (x : Option (D × Hp)) (h : Hp) : Option (D × Hp) :=
  match c with
  | .lit (.bool t) => if t == b then x else some (und, h)
  | _ => some (und, h)
/-- A branch. -/
def cnd (c : D) (x y : Option α) : Option α :=
  match c with
  | .lit (.bool true) => x
  | .lit (.bool false) => y
  | _ => none
/-- A slot is set, and what comes behind is handed the list as it is then. -/
noncomputable def setK {α : Type} (s : List D) : Nat → D → (List D → α) → α :=
  List.rec (motive := fun _ => Nat → D → (List D → α) → α) (fun _ _ k => k []) (fun a s ih n d k => Nat.rec (motive := fun _ => α) (k (d :: s)) (fun n _ => ih n d fun s' => k (a :: s')) n) s
noncomputable def putK {α : Type} (s : List D) (o : Option Nat) (d : D) (k : List D → α) : α :=
  match o with
  | none => k s
  | some t => setK s t d k
theorem setK_eq {α : Type} : ∀ (s : List D) (n : Nat) (d : D) (k : List D → α), setK s n d k = k (s.set n d)
  | [], _, _, _ => rfl
  | _ :: _, 0, _, _ => rfl
  | a :: s, n + 1, d, k => setK_eq s n d fun s' => k (a :: s')
theorem putK_eq {α : Type} (s : List D) (o : Option Nat) (d : D) (k : List D → α) : putK s o d k = k (putD s o d) := by
  cases o with
  | none => rfl
  | some t => exact setK_eq s t d k
def isMv : RO → Option Opd
  | .mv x => some x
  | _ => none
noncomputable def stepK (call : CallF) (o : ROp) (st : St) (k : St → Option α) : Option α :=
  match o.guard with
  | none => match isMv o.op with
    | some x => putK st.s o.dst (x.ev st.s) fun s' => k { s := s', h := st.h }
    | none => (o.op.run call st.s st.h).bind fun p => putK st.s o.dst p.1 fun s' => k { s := s', h := p.2 }
  | some (t, b) => (grd (st.s.getD t und) b (o.op.run call st.s st.h) st.h).bind fun p => putK st.s o.dst p.1 fun s' => k { s := s', h := p.2 }
noncomputable def regK (call : CallF) (ops : List ROp) : St → (St → Option α) → Option α :=
  List.rec (motive := fun _ => St → (St → Option α) → Option α) (fun st k => k st) (fun o _ ih st k => stepK call o st fun st' => ih st' k) ops
theorem stepK_eq (call : CallF) (o : ROp) (st : St) (k : St → Option α) : stepK call o st k = (o.step call st).bind k := by
  unfold stepK ROp.step
  simp only [putK_eq]
  by_cases hw : o.wanted st.s = true
  · rw [if_pos hw]
    unfold ROp.wanted at hw
    cases hg : o.guard with
    | none =>
      simp only
      split
      · rename_i x hx
        have : o.op = .mv x := by
          unfold isMv at hx
          split at hx
          · rename_i y hy; injection hx with hx; rw [hy, hx]
          · cases hx
        rw [this]; rfl
      · cases e : o.op.run call st.s st.h with
        | none => rfl
        | some p => rfl
    | some g =>
      obtain ⟨t, b⟩ := g
      rw [hg] at hw
      simp only at hw ⊢
      split at hw
      · rename_i c hc
        rw [hc]
        simp only [grd]
        rw [if_pos hw]
        cases e : o.op.run call st.s st.h with
        | none => rfl
        | some p => rfl
      · cases hw
  · rw [if_neg hw]
    unfold ROp.wanted at hw
    cases hg : o.guard with
    | none => rw [hg] at hw; exact absurd rfl hw
    | some g =>
      obtain ⟨t, b⟩ := g
      rw [hg] at hw
      simp only at hw ⊢
      have : grd (st.s.getD t und) b (o.op.run call st.s st.h) st.h = some (und, st.h) := by
        split at hw
        · rename_i c hc
          rw [hc]
          simp only [grd]
          rw [if_neg hw]
        · rename_i hd
          unfold grd
          split
          · rename_i c hc; exact absurd hc (hd c)
          · rfl
      rw [this]; rfl
theorem regK_eq (call : CallF) : ∀ (ops : List ROp) (st : St) (k : St → Option α), regK call ops st k = (regRun call ops st).bind k
  | [], _, _ => rfl
  | o :: r, st, k => by
    show stepK call o st (fun st' => regK call r st' k) = _
    simp only [regRun]
    rw [stepK_eq]
    cases e : o.step call st with
    | none => rfl
    | some st' => simp only [Option.bind_some]; exact regK_eq call r st' k
/-- What was looked at gives the same in other states. -/
def chkR (call : CallF) (r : Rec) (hs : List Hp) : Bool := Rec.ok call hs r
noncomputable def drawStep (call : CallF) (o : ROp) (ih : St → List Hp → List Rec → (St → Option α) → Option α) (st : St) (hs : List Hp) (rs : List Rec) (k : St → Option α) : Option α :=
    match o.guard with
    | none => match (if o.wr = false ∧ noRec o hs.length = true then isMv o.op else none) with
      | some x => putK st.s o.dst (x.ev st.s) fun s' => ih { s := s', h := st.h } hs rs k
      | none => (o.op.run call st.s st.h).bind fun p =>
        if o.wr then putK st.s o.dst p.1 fun s' => ih { s := s', h := p.2 } (hs ++ [p.2]) rs k
        else putK st.s o.dst p.1 fun s' => ih { s := s', h := st.h } hs (if noRec o hs.length then rs else ⟨o, st.s, p.1⟩ :: rs) k
    | some (t, b) =>
      if o.wr = false ∧ noRec o hs.length = true then
        (grd (st.s.getD t und) b (o.op.run call st.s st.h) st.h).bind fun p => putK st.s o.dst p.1 fun s' => ih { s := s', h := st.h } hs rs k
      else if o.wanted st.s then (o.op.run call st.s st.h).bind fun p =>
        if o.wr then putK st.s o.dst p.1 fun s' => ih { s := s', h := p.2 } (hs ++ [p.2]) rs k
        else putK st.s o.dst p.1 fun s' => ih { s := s', h := st.h } hs (if noRec o hs.length then rs else ⟨o, st.s, p.1⟩ :: rs) k
      else putK st.s o.dst und fun s' => ih { s := s', h := st.h } (if o.wr then hs ++ [st.h] else hs) rs k
noncomputable def drawK (call : CallF) (ops : List ROp) : St → List Hp → List Rec → (St → Option α) → Option α :=
  List.rec (motive := fun _ => St → List Hp → List Rec → (St → Option α) → Option α) (fun st hs rs k => if rs.all (Rec.ok call hs) then k st else none) (fun o _ ih => drawStep call o ih) ops
theorem drawK_eq (call : CallF) : ∀ (ops : List ROp) (st : St) (hs : List Hp) (rs : List Rec) (k : St → Option α), drawK call ops st hs rs k = (drawRun call ops st hs rs).bind k
  | [], st, hs, rs, k => by
    show (if rs.all (Rec.ok call hs) then k st else none) = _
    simp only [drawRun]
    split <;> rfl
  | o :: r, st, hs, rs, k => by
    show drawStep call o (drawK call r) st hs rs k = _
    have key : ∀ (hs' : List Hp → List Hp), ((o.op.run call st.s st.h).bind fun p =>
        if o.wr then drawK call r { s := putD st.s o.dst p.1, h := p.2 } (hs ++ [p.2]) rs k
        else drawK call r { s := putD st.s o.dst p.1, h := st.h } hs (if noRec o hs.length then rs else ⟨o, st.s, p.1⟩ :: rs) k) =
        (match o.op.run call st.s st.h with
        | some (d, h') =>
          if o.wr then drawRun call r { s := putD st.s o.dst d, h := h' } (hs ++ [h']) rs
          else drawRun call r { s := putD st.s o.dst d, h := st.h } hs (if noRec o hs.length then rs else ⟨o, st.s, d⟩ :: rs)
        | none => none).bind k := by
      intro _
      cases e : o.op.run call st.s st.h with
      | none => rfl
      | some p =>
        simp only [Option.bind_some]
        split <;> exact drawK_eq call r _ _ _ k
    simp only [drawStep, drawRun, putK_eq]
    cases hg : o.guard with
    | none =>
      have hw : o.wanted st.s = true := by unfold ROp.wanted; rw [hg]
      simp only [hw, if_true]
      split
      · rename_i x hx
        split at hx
        · rename_i hc
          have : o.op = .mv x := by
            unfold isMv at hx
            split at hx
            · rename_i y hy; injection hx with hx; rw [hy, hx]
            · cases hx
          rw [this]
          simp only [RO.run, hc.1, Bool.false_eq_true, if_false]
          rw [if_pos hc.2]
          exact drawK_eq call r _ _ _ k
        · cases hx
      · exact key id
    | some g =>
      obtain ⟨t, b⟩ := g
      simp only
      by_cases hc : o.wr = false ∧ noRec o hs.length = true
      · rw [if_pos hc]
        obtain ⟨hwr, hlh⟩ := hc
        have hw0 : o.wanted st.s = (match st.s.getD t und with | .lit (.bool c) => c == b | _ => false) := by unfold ROp.wanted; rw [hg]; rfl
        by_cases hw : o.wanted st.s = true
        · rw [if_pos hw]
          have hgr : grd (st.s.getD t und) b (o.op.run call st.s st.h) st.h = o.op.run call st.s st.h := by
            rw [hw0] at hw
            unfold grd
            split at hw
            · rename_i c hcc; first | rw [if_pos hw] | (rw [hcc]; simp only; rw [if_pos hw])
            · cases hw
          rw [hgr]
          cases e : o.op.run call st.s st.h with
          | none => rfl
          | some p =>
            simp only [Option.bind_some, hwr, Bool.false_eq_true, if_false]
            rw [if_pos hlh]
            exact drawK_eq call r _ _ _ k
        · rw [if_neg hw]
          have hgr : grd (st.s.getD t und) b (o.op.run call st.s st.h) st.h = some (und, st.h) := by
            rw [hw0] at hw
            unfold grd
            split at hw
            · rename_i c hcc; first | rw [if_neg hw] | (rw [hcc]; simp only; rw [if_neg hw])
            · rename_i hd
              first
                | rfl
                | (split
                   · rename_i c hcc; exact absurd hcc (hd c)
                   · rfl)
          rw [hgr]
          simp only [Option.bind_some, hwr, Bool.false_eq_true, if_false]
          exact drawK_eq call r _ _ _ k
      · rw [if_neg hc]
        by_cases hw : o.wanted st.s = true
        · rw [if_pos hw, if_pos hw]; exact key id
        · rw [if_neg hw, if_neg hw]; exact drawK_eq call r _ _ _ k

/-! ### What is printed -/
inductive RV where
  | v (d : D)
  | cell (d : D) (ag : Bool) (k : Nat)
def resV (h : Hp) : List RV → Option (List D)
  | [] => some []
  | .v d :: r => match resV h r with
    | some l => if d.isTup then none else some (d :: l)
    | none => none
  | .cell p ag k :: r => match loadAt h p, resV h r with
    | some d, some l => if d.fits ag k then some (d :: l) else none
    | _, _ => none
def fin (l : List RV) (h : Hp) : Option (List D × Hp) := (resV h l).bind fun r => some (r, h)
/-- An operation on values. -/
def op (h : Hp) (o : RO) : Option (D × Hp) := RO.run (fun _ _ _ => none) [] h o
end Go.Rex
