import Derived.Test.YtijnmnpigjadhabRexZ
/- Rex, part ZA: code, and a function's body. -/
set_option linter.unusedVariables false
set_option linter.unusedSimpArgs false
namespace Go.Rex
open Go.RowKit Go.Lib

def Ex.out : Ex → Exit
  | .nrm => .normal
  | .ex id => .exit id
  | .ret => .ret

/-- A loop that comes to an end after so many rounds. -/
theorem wp_rounds {P : Program} {c : Code} {Q : Exit → Act → World → Prop} (I : Nat → Act → World → Prop) (round : ∀ m a w, I (m + 1) a w → c.wp P (Exit.then (fun a' w' => I m a' w') Q) a w) (h0 : ∀ a w, ¬ I 0 a w) :
    ∀ (m : Nat) (a : Act) (w : World), I m a w → (Code.loop c).wp P Q a w := by
  intro m a w hI
  intro b k cs
  have key : ∀ m a w, I m a w → ∃ e a' w', Q e a' w' ∧ Arrives P (lone (b.at a (.code c :: .inLoop c :: k)) cs w) b k cs e a' w' := by
    intro m
    induction m with
    | zero => intro a w hI; exact absurd hI (h0 a w)
    | succ m ih =>
      intro a w hI
      obtain ⟨e, a1, w1, hq, harr⟩ := round m a w hI b (.inLoop c :: k) cs
      cases e with
      | normal =>
        obtain ⟨e2, a2, w2, hq2, harr2⟩ := ih a1 w1 hq
        exact ⟨e2, a2, w2, hq2, .of_steps (Steps.trans harr (.one step_inLoop)) harr2⟩
      | _ => exact ⟨_, a1, w1, hq, .pass (x := .inLoop c) rfl (fun _ _ => .inl (by simp)) harr⟩
  obtain ⟨e, a', w', hq, harr⟩ := key m a w hI
  exact ⟨e, a', w', hq, .of_steps (.one step_loop) harr⟩

section
variable {P : Program} {A : Ann} {call : CallF} {f : FuncId}

/-- What is promised of an exit. -/
def Ends (P : Program) (Q : Exit → Act → World → Prop) (g : Gh) (w : World) (h : Hp) (ds : List Deferred) (e : Ex) (st' : St) : Prop :=
  ∀ a' w' g', SlotsOk g' w' st'.s a' → Hq g' w' st'.h → Ext g w h g' w' st'.h → a'.defers = ds → Q e.out a' w'

theorem rc_sound (hm : P.follows .mixedOrders = true) (hc : CallOk P call) (hsc : ScalOk A call) (n : Nat) : ∀ (c : Code) (rc : RC), dig P A f c = some rc → ∀ (s : List D) (h : Hp) (e : Ex) (st' : St) (g : Gh) (w : World) (a : Act) (Q : Exit → Act → World → Prop),
    rc.run call n ⟨s, h⟩ = some (e, st') → Hq g w h → SlotsOk g w s a → Ends P Q g w h a.defers e st' → c.wp P Q a w := by
  intro c
  induction c with
  | skip =>
    intro rc hd s h e st' g w a Q hr q hs hQ
    simp only [dig, Option.some.injEq] at hd; subst hd
    simp only [RC.run, Option.some.injEq, Prod.mk.injEq] at hr
    obtain ⟨rfl, rfl⟩ := hr
    exact wp_skip (hQ a w g hs q (Ext.refl _ _ _) rfl)
  | region id ops draw =>
    intro rc hd s h e st' g w a Q hr q hs hQ
    cases draw with
    | false =>
      simp only [dig, Option.map_eq_some_iff] at hd
      obtain ⟨l, hl, rfl⟩ := hd
      simp only [RC.run] at hr
      split at hr <;> (try contradiction)
      rename_i st1 hreg
      simp only [Option.some.injEq, Prod.mk.injEq] at hr
      obtain ⟨rfl, rfl⟩ := hr
      exact wp_region_list (reg_sound hc _ _ 0 a g w s h hl hreg q hs hQ)
    | true =>
      simp only [dig] at hd
      split at hd <;> (try contradiction)
      rename_i l hl
      split at hd <;> (try contradiction)
      rename_i hcnd
      injection hd with hd; subst hd
      simp only [Bool.and_eq_true] at hcnd
      simp only [RC.run] at hr
      split at hr <;> (try contradiction)
      rename_i st1 hreg
      split at hr <;> (try contradiction)
      rename_i st2 hdraw
      simp only [Option.some.injEq, Prod.mk.injEq] at hr
      obtain ⟨rfl, rfl⟩ := hr
      exact draw_sound hm hc hsc hl hcnd.1 hcnd.2 hreg hdraw q hs hQ
  | seq x y ihx ihy =>
    intro rc hd s h e st' g w a Q hr q hs hQ
    simp only [dig] at hd
    split at hd <;> (try contradiction)
    rename_i rx ry hx hy
    injection hd with hd; subst hd
    simp only [RC.run] at hr
    refine wp_seq ?_
    cases hrx : rx.run call n ⟨s, h⟩ with
    | none => simp [hrx] at hr
    | some z =>
      obtain ⟨e1, st1⟩ := z
      simp only [hrx] at hr
      cases e1 with
      | nrm =>
        refine ihx rx hx s h _ _ g w a _ hrx q hs (fun a1 w1 g1 k1 k2 k3 k4 => ?_)
        refine ihy ry hy st1.s st1.h e st' g1 w1 a1 Q hr k2 k1 (fun a2 w2 g2 m1 m2 m3 m4 => ?_)
        exact hQ a2 w2 g2 m1 m2 (k3.trans m3) (m4.trans k4)
      | ex id =>
        simp only [Option.some.injEq, Prod.mk.injEq] at hr
        obtain ⟨rfl, rfl⟩ := hr
        exact ihx rx hx s h _ _ g w a _ hrx q hs hQ
      | ret =>
        simp only [Option.some.injEq, Prod.mk.injEq] at hr
        obtain ⟨rfl, rfl⟩ := hr
        exact ihx rx hx s h _ _ g w a _ hrx q hs hQ
  | cond c x y ihx ihy =>
    intro rc hd s h e st' g w a Q hr q hs hQ
    simp only [dig] at hd
    split at hd <;> (try contradiction)
    rename_i rc rx ry hcd hx hy
    injection hd with hd; subst hd
    simp only [RC.run] at hr
    split at hr <;> (try contradiction)
    rename_i t ht
    have hv := opd_sound hs hcd
    rw [ht] at hv
    have hv := V_bool hv
    refine wp_cond hv ?_
    cases t with
    | true => exact ihx rx hx s h e st' g w a Q (by simpa using hr) q hs hQ
    | false => exact ihy ry hy s h e st' g w a Q (by simpa using hr) q hs hQ
  | block id x ih =>
    intro rc hd s h e st' g w a Q hr q hs hQ
    simp only [dig, Option.map_eq_some_iff] at hd
    obtain ⟨rx, hx, rfl⟩ := hd
    simp only [RC.run] at hr
    refine wp_block ?_
    cases hrx : rx.run call n ⟨s, h⟩ with
    | none => simp [hrx] at hr
    | some z =>
      obtain ⟨e1, st1⟩ := z
      simp only [hrx] at hr
      refine ih rx hx s h e1 st1 g w a _ hrx q hs (fun a1 w1 g1 k1 k2 k3 k4 => ?_)
      cases e1 with
      | ex i =>
        simp only at hr
        show (if i = id then Q .normal a1 w1 else Q (.exit i) a1 w1)
        split at hr
        · rename_i hi
          simp only [Option.some.injEq, Prod.mk.injEq] at hr
          obtain ⟨rfl, rfl⟩ := hr
          rw [if_pos hi]
          exact hQ a1 w1 g1 k1 k2 k3 k4
        · rename_i hi
          simp only [Option.some.injEq, Prod.mk.injEq] at hr
          obtain ⟨rfl, rfl⟩ := hr
          rw [if_neg hi]
          exact hQ a1 w1 g1 k1 k2 k3 k4
      | nrm =>
        simp only [Option.some.injEq, Prod.mk.injEq] at hr
        obtain ⟨rfl, rfl⟩ := hr
        exact hQ a1 w1 g1 k1 k2 k3 k4
      | ret =>
        simp only [Option.some.injEq, Prod.mk.injEq] at hr
        obtain ⟨rfl, rfl⟩ := hr
        exact hQ a1 w1 g1 k1 k2 k3 k4
  | loop x ih =>
    intro rc hd s h e st' g w a Q hr q hs hQ
    simp only [dig, Option.map_eq_some_iff] at hd
    obtain ⟨rx, hx, rfl⟩ := hd
    simp only [RC.run] at hr
    refine wp_rounds (fun m a1 w1 => ∃ s1 h1 g1, loopN (rx.run call n) m ⟨s1, h1⟩ = some (e, st') ∧ Hq g1 w1 h1 ∧ SlotsOk g1 w1 s1 a1 ∧ Ext g w h g1 w1 h1 ∧ a1.defers = a.defers) ?_ ?_ n a w ⟨s, h, g, hr, q, hs, Ext.refl _ _ _, rfl⟩
    · rintro m a1 w1 ⟨s1, h1, g1, k0, k1, k2, k3, k4⟩
      simp only [loopN] at k0
      cases hrx : rx.run call n ⟨s1, h1⟩ with
      | none => simp [hrx] at k0
      | some z =>
        obtain ⟨e1, st1⟩ := z
        simp only [hrx] at k0
        refine ih rx hx s1 h1 e1 st1 g1 w1 a1 _ hrx k1 k2 (fun a2 w2 g2 m1 m2 m3 m4 => ?_)
        cases e1 with
        | nrm => exact ⟨st1.s, st1.h, g2, k0, m2, m1, k3.trans m3, m4.trans k4⟩
        | ex i =>
          simp only [Option.some.injEq, Prod.mk.injEq] at k0
          obtain ⟨rfl, rfl⟩ := k0
          exact hQ a2 w2 g2 m1 m2 (k3.trans m3) (m4.trans k4)
        | ret =>
          simp only [Option.some.injEq, Prod.mk.injEq] at k0
          obtain ⟨rfl, rfl⟩ := k0
          exact hQ a2 w2 g2 m1 m2 (k3.trans m3) (m4.trans k4)
    · rintro a1 w1 ⟨s1, h1, g1, k0, _⟩
      simp [loopN] at k0
  | exit id =>
    intro rc hd s h e st' g w a Q hr q hs hQ
    simp only [dig, Option.some.injEq] at hd; subst hd
    simp only [RC.run, Option.some.injEq, Prod.mk.injEq] at hr
    obtain ⟨rfl, rfl⟩ := hr
    exact wp_exit (hQ a w g hs q (Ext.refl _ _ _) rfl)
  | ret =>
    intro rc hd s h e st' g w a Q hr q hs hQ
    simp only [dig, Option.some.injEq] at hd; subst hd
    simp only [RC.run, Option.some.injEq, Prod.mk.injEq] at hr
    obtain ⟨rfl, rfl⟩ := hr
    exact wp_ret (hQ a w g hs q (Ext.refl _ _ _) rfl)
  | _ => intro rc hd; simp [dig] at hd

/-- Values, one by one, none a tuple. -/
theorem VL_of {g : Gh} {w : World} : ∀ {ds : List D} {vs : List Value}, VL2 g w ds vs → (∀ d ∈ ds, d.isTup = false) → VL g w ds vs
  | [], [], _, _ => rfl
  | d :: ds, v :: vs, ⟨h1, h2⟩, h => ⟨v, vs, rfl, h1.v1 (fun l e => by have := h d (by simp); rw [e] at this; simp [D.isTup] at this), VL_of h2 (fun d hd => h d (by simp [hd]))⟩
  | [], _ :: _, h, _ => h.elim
  | _ :: _, [], h, _ => h.elim
theorem tup_V {g : Gh} {w : World} {ds : List D} {vs : List Value} (h : VL2 g w ds vs) (hn : ∀ d ∈ ds, d.isTup = false) : V g w (tupOf ds) (if h : vs.toArray.size = 1 then vs.toArray[0] else .tuple vs.toArray) := by
  have hl := h.len
  match ds, vs, h, hl with
  | [], [], _, _ => exact ⟨[], by simp, rfl⟩
  | [d], [v], ⟨h1, _⟩, _ => simpa [tupOf] using h1
  | d :: e :: ds, v :: u :: vs, h, _ =>
    refine ⟨v :: u :: vs, by simp, VL_of h hn⟩

theorem results_sound {g : Gh} {w : World} {a : Act} {st : St} (q : Hq g w st.h) (hs : SlotsOk g w st.s a) {fn : Func} {rs : List RRes} {l : List D} (hd : optL (digRes P) fn.results.toList = some rs) (hr : resOf st rs = some l) :
    ∃ v, (results fn a.tmps).run P w = .ok v w ∧ V g w (tupOf l) v := by
  have key : ∀ (xs : List ResultVar) (rs : List RRes) (l : List D), optL (digRes P) xs = some rs → resOf st rs = some l →
      ∃ vs : List Value, (xs.mapM (m := Sem) fun
        | .tmp t => pure (a.tmps.getD t undef)
        | .cell c t => do loadVar t (← asAddr (a.tmps.getD c undef))).run P w = .ok vs w ∧ VL2 g w l vs ∧ ∀ d ∈ l, d.isTup = false := by
    intro xs
    induction xs with
    | nil =>
      intro rs l hd hr
      simp only [optL, Option.some.injEq] at hd; subst hd
      simp only [resOf, Option.some.injEq] at hr; subst hr
      exact ⟨[], rfl, trivial, by simp⟩
    | cons x xs ih =>
      intro rs l hd hr
      simp only [optL] at hd
      split at hd <;> (try contradiction)
      rename_i b r hb hrr
      injection hd with hd; subst hd
      cases x with
      | tmp t =>
        simp only [digRes, Option.some.injEq] at hb; subst hb
        simp only [resOf] at hr
        split at hr <;> (try contradiction)
        rename_i l' hl'
        split at hr <;> (try contradiction)
        rename_i hnt
        injection hr with hr; subst hr
        obtain ⟨vs, k1, k2, k3⟩ := ih r l' hrr hl'
        refine ⟨a.tmps.getD t undef :: vs, by simp only [List.mapM_cons, Sem.run_bind, Sem.run_pure, Result.andThen_ok, k1], ⟨hs.2 t, k2⟩, fun d hd => ?_⟩
        rcases List.mem_cons.1 hd with rfl | hd
        · simpa using hnt
        · exact k3 d hd
      | cell c t =>
        simp only [digRes] at hb
        split at hb <;> (try contradiction)
        rename_i ag k hag hk
        injection hb with hb; subst hb
        simp only [resOf] at hr
        split at hr <;> (try contradiction)
        rename_i d0 l' hld hl'
        split at hr <;> (try contradiction)
        rename_i hf
        injection hr with hr; subst hr
        obtain ⟨vs, k1, k2, k3⟩ := ih r l' hrr hl'
        obtain ⟨b, o', cs, hv, hcs, hat⟩ := loadAt_sound q hld (hs.2 c)
        obtain ⟨v, hv1, hv2⟩ := run_loadVar (P := P) hag hk hf hcs hat
        refine ⟨v :: vs, ?_, ⟨hv2, k2⟩, fun d hd => ?_⟩
        · have : (asAddr (a.tmps.getD c undef)).run P w = .ok ⟨b, o', none⟩ w := by rw [hv]; simp [asAddr]
          simp only [List.mapM_cons, Sem.run_bind, this, Result.andThen_ok, hv1, Sem.run_pure, k1]
        · rcases List.mem_cons.1 hd with rfl | hd
          · cases d <;> simp [D.fits] at hf <;> rfl
          · exact k3 d hd
  obtain ⟨vs, k1, k2, k3⟩ := key _ _ _ hd hr
  refine ⟨_, ?_, tup_V k2 k3⟩
  unfold results
  rw [Array.mapM_eq_mapM_toList]
  simp only [Sem.run_bind, Sem.run_map]
  refine (congrArg (fun r => Result.andThen (Result.andThen r fun a w' => .ok a.toArray w') _) k1).trans ?_
  rfl

/-- A function's body. -/
theorem body_sound (hm : P.follows .mixedOrders = true) (hc : CallOk P call) (hsc : ScalOk A call) {n : Nat} {fn : Func} {rf : RFn} (hf : P.funcs[f]? = some fn) (hd : digFn P A f fn = some rf) {args l : List D} {h h' : Hp} (hr : bodyRun call n rf args h = some (l, h'))
    {g : Gh} {w : World} {vs : List Value} (q : Hq g w h) (hv : VL2 g w args vs) :
    CallRuns P f vs.toArray w fun v w' => ∃ g', V g' w' (tupOf l) v ∧ Hq g' w' h' ∧ Ext g w h g' w' h' := by
  unfold digFn at hd
  split at hd <;> (try contradiction)
  rename_i hname
  split at hd <;> (try contradiction)
  rename_i c hbody
  split at hd <;> (try contradiction)
  rename_i rc rs hrc hrs
  injection hd with hd; subst hd
  refine .inr ⟨?_, ?_⟩
  · unfold callFunc
    simp only [Sem.run_bind, run_program, Result.andThen_ok, hf, hbody]
    simp [hname]
  · unfold bodyRun at hr
    refine calls_of_wp hf hbody ?_
    have hlen := hv.len
    have hs : SlotsOk g w (args ++ List.replicate (fn.ntmps - args.length) und) { tmps := vs.toArray ++ Array.replicate (fn.ntmps - vs.toArray.size) undef, defers := [] } := by
      refine ⟨by simp [hlen], fun i => ?_⟩
      by_cases hi : i < args.length
      · have := hv.get i hi
        have hi' : i < vs.length := by omega
        simp only [List.getD_eq_getElem?_getD, List.getElem?_append_left hi, Array.getD_eq_getD_getElem?, Array.getElem?_append_left (show i < vs.toArray.size by simpa using hi')] at this ⊢
        simpa using this
      · have hi' : ¬ i < vs.length := by omega
        have e1 : (args ++ List.replicate (fn.ntmps - args.length) und).getD i und = und := by
          simp only [List.getD_eq_getElem?_getD, List.getElem?_append_right (Nat.le_of_not_lt hi), List.getElem?_replicate]
          split <;> rfl
        have e2 : (vs.toArray ++ Array.replicate (fn.ntmps - vs.toArray.size) undef).getD i undef = undef := by
          simp only [Array.getD_eq_getD_getElem?, Array.getElem?_append_right (show vs.toArray.size ≤ i by simpa using Nat.le_of_not_lt hi'), Array.getElem?_replicate]
          split <;> rfl
        show V g w _ ((vs.toArray ++ Array.replicate (fn.ntmps - vs.toArray.size) undef).getD i undef)
        rw [e1, e2]
        exact V_und
    have fin : ∀ (st : St) (e : Ex), rc.run call n ⟨args ++ List.replicate (fn.ntmps - args.length) und, h⟩ = some (e, st) → (e = .nrm ∨ e = .ret) → (resOf st rs = some l ∧ st.h = h') →
        c.wp P (bodyPost P fn fun
          | .returned v, w' => ∃ g', V g' w' (tupOf l) v ∧ Hq g' w' h' ∧ Ext g w h g' w' h'
          | _, _ => False) { tmps := vs.toArray ++ Array.replicate (fn.ntmps - vs.toArray.size) undef, defers := [] } w := by
      rintro st e hrun he ⟨hres, rfl⟩
      refine rc_sound hm hc hsc n c rc hrc _ h e st g w _ _ hrun q hs (fun a' w' g' k1 k2 k3 k4 => ?_)
      obtain ⟨v, hv1, hv2⟩ := results_sound (fn := fn) k2 k1 hrs hres
      rcases he with rfl | rfl
      · exact ⟨k4, v, hv1, g', hv2, k2, k3⟩
      · exact ⟨k4, v, hv1, g', hv2, k2, k3⟩
    simp only at hr
    split at hr <;> (try contradiction)
    · rename_i st hrun
      split at hr <;> (try contradiction)
      rename_i l' hres
      simp only [Option.some.injEq, Prod.mk.injEq] at hr
      exact fin st .nrm hrun (.inl rfl) ⟨by rw [hres, hr.1], hr.2⟩
    · rename_i st hrun
      split at hr <;> (try contradiction)
      rename_i l' hres
      simp only [Option.some.injEq, Prod.mk.injEq] at hr
      exact fin st .ret hrun (.inr rfl) ⟨by rw [hres, hr.1], hr.2⟩
end
end Go.Rex
