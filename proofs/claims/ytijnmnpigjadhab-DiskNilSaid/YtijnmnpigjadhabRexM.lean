import Derived.Test.YtijnmnpigjadhabRexL
/- Rex, part M: more operations. -/
set_option linter.unusedVariables false
set_option linter.unusedSimpArgs false
namespace Go.Rex
open Go.RowKit
section
variable {P : Program} {g : Gh} {w : World} {h h' : Hp} {s : List D} {a : Act} {call : CallF} {o : Oper} {d : D} {m : Bool} {ro : RO}

theorem op_fld (q : Hq g w h) (hs : SlotsOk g w s a) {t : TypeId} {x : Operand} {i : Nat} (ho : o.op = .field t x i) (hd : digOp P m (.field t x i) = some ro) (hr : ro.run call s h = some (d, h')) : OpOut P g w h a o d h' := by
  have he : execOp a.eval o = (do pure (.value (← Instr.field t (a.eval x) i))) := by unfold execOp; rw [ho]
  simp only [digOp] at hd
  split at hd
  · rename_i szs y fs0 hz hx hu0
    obtain ⟨fs, hu, hlen, hst, hpos, hoff⟩ := szsOf_sound hz
    rw [hu] at hu0; injection hu0 with hu0; injection hu0 with hu0; subst hu0
    split at hd
    · rename_i f hf
      split at hd
      · rename_i ag hag
        injection hd with hd; subst hd
        have hv := opd_sound hs hx
        obtain ⟨e1, n, e2, e3⟩ := hoff i f hf
        simp only [RO.run] at hr
        split at hr
        · rename_i szs' fl hy
          split at hr
          · rename_i hsz
            subst hsz
            split at hr
            · rename_i y' hf'
              split at hr
              · rename_i hfit
                simp only [Option.some.injEq, Prod.mk.injEq] at hr
                obtain ⟨rfl, rfl⟩ := hr
                rw [hy] at hv
                obtain ⟨c, hvc, hc⟩ := hv
                obtain ⟨c1, c', c2, rfl, hl, hcf, hcz, _⟩ := AggCs.split hc hf'
                rw [e2] at hcz; injection hcz with hcz
                have hsd : szs'.getD i 0 = n := by simp [List.getD, e2]
                rw [hsd] at hfit
                obtain ⟨v, h1, h2⟩ := part_sound (P := P) (c1 := c1) (c2 := c2) e3 hcf hcz.symm ⟨ag, hag, hfit⟩
                refine OpOut.of he (Out.same q (v := v) ?_ h2)
                unfold Instr.field
                simp only [Sem.run_bind, run_underlying hu, Result.andThen_ok, hf, hvc, asAgg, Sem.run_pure, e1, ← hl, h1]
              · cases hr
            · cases hr
          · cases hr
        · cases hr
      · cases hd
    · cases hd
  · cases hd

theorem op_ext (q : Hq g w h) (hs : SlotsOk g w s a) {x : Operand} {i : Nat} (ho : o.op = .extract x i) (hd : digOp P m (.extract x i) = some ro) (hr : ro.run call s h = some (d, h')) : OpOut P g w h a o d h' := by
  have he : execOp a.eval o = (do pure (.value (← Instr.extract (a.eval x) i))) := by unfold execOp; rw [ho]
  simp only [digOp, Option.map_eq_some_iff] at hd
  obtain ⟨y, hx, rfl⟩ := hd
  have hv := opd_sound hs hx
  simp only [RO.run] at hr
  split at hr
  · rename_i ds hy
    split at hr
    · rename_i e hde
      simp only [Option.some.injEq, Prod.mk.injEq] at hr
      obtain ⟨rfl, rfl⟩ := hr
      rw [hy] at hv
      obtain ⟨vs, hv, hl⟩ := hv
      have key : ∀ (ds : List D) (vs : List Value) (i : Nat) (e : D), VL g w ds vs → ds[i]? = some e → ∃ v, vs[i]? = some v ∧ V1 g w e v := by
        intro ds
        induction ds with
        | nil => intro vs i e _ hi; simp at hi
        | cons d ds ih =>
          intro vs i e hl hi
          obtain ⟨v, r, rfl, h1, h2⟩ := hl
          cases i with
          | zero => simp at hi; subst hi; exact ⟨v, rfl, h1⟩
          | succ i => obtain ⟨v', e1, e2⟩ := ih r i e h2 (by simpa using hi); exact ⟨v', by simpa using e1, e2⟩
      obtain ⟨v, h1, h2⟩ := key ds vs i e hl hde
      refine OpOut.of he (Out.same q (v := v) ?_ (V.of1 h2))
      simp [Instr.extract, hv, h1]
    · cases hr
  · cases hr

theorem op_mkf (q : Hq g w h) (hs : SlotsOk g w s a) {fn : Fn} {first caps : Array Operand} (ho : o.op = .makeFunc fn first caps) (hd : digOp P m (.makeFunc fn first caps) = some ro) (hr : ro.run call s h = some (d, h')) : OpOut P g w h a o d h' := by
  have he : execOp a.eval o = (do pure (.value (← Instr.makeFunc fn (first.map a.eval) (caps.map a.eval)))) := by unfold execOp; rw [ho]
  cases fn with
  | func f =>
    simp only [digOp] at hd
    · simp only [Option.map_eq_some_iff] at hd
      obtain ⟨cs, hcs, rfl⟩ := hd
      simp only [RO.run] at hr
      split at hr
      · rename_i hall
        simp only [Option.some.injEq, Prod.mk.injEq] at hr
        obtain ⟨rfl, rfl⟩ := hr
        refine OpOut.of he (Out.same q (v := .func (.func f) (first.map a.eval) (caps.map a.eval)) (by simp [Instr.makeFunc]) ?_)
        simp only [V, V1, Cs]
        refine ⟨(first.map a.eval).toList, (caps.map a.eval).toList, by rw [Array.toArray_toList, Array.toArray_toList], by simp, ?_⟩
        have key : ∀ (l : List Operand) (cs : List Opd), optL digOpd l = some cs → ((cs.map fun c => c.ev s).all D.isPtr) = true → CapCs g w (cs.map fun c => c.ev s) (l.map a.eval) := by
          intro l
          induction l with
          | nil => intro cs h _; simp only [optL, Option.some.injEq] at h; subst h; rfl
          | cons x l ih =>
            intro cs h hall
            simp only [optL] at h
            split at h
            · rename_i b r hb hr
              injection h with h; subst h
              simp only [List.map_cons, List.all_cons, Bool.and_eq_true] at hall
              refine ⟨a.eval x, l.map a.eval, rfl, hall.1, ?_, ih r hr hall.2⟩
              have hv := opd_sound hs hb
              have hp := hall.1
              show Cs g w (b.ev s) [a.eval x]
              cases hbe : b.ev s <;> rw [hbe] at hv hp <;> first | exact hv | (exfalso; simp [D.isPtr] at hp; done)
            · cases h
        have := key _ cs hcs hall
        simpa using this
      · cases hr
  | _ => simp [digOp] at hd

/-- What a call of a builtin is. -/
theorem exec_builtin {c : Call} {b : Builtin} (ho : o.op = .call c) (hc : c.callee = .builtin b) : execOp a.eval o = builtin b c.argTypes o.type (c.args.map fun | .const _ => true | _ => false) (c.args.map a.eval) := by
  unfold execOp
  rw [ho]
  simp only [resolve, hc, invoke]
  rfl
theorem arr1 {α : Type} {l : Array α} {x : α} (h : l.toList = [x]) : l = #[x] := Array.ext' (by simp [h])
theorem arr2 {α : Type} {l : Array α} {x y : α} (h : l.toList = [x, y]) : l = #[x, y] := Array.ext' (by simp [h])

theorem lenOf_sound {x : D} {n : Nat} {v : Value} (h : Rex.lenOf x = some n) (hv : V g w x v) : ∃ A cap, v = .slice A n cap := by
  unfold Rex.lenOf at h
  split at h
  · injection h with h; subst h
    exact ⟨none, 0, (V_lit.1 hv).1⟩
  · injection h with h; subst h
    simp only [V, V1, Cs] at hv
    obtain ⟨b, o, sp, cap, hv, _⟩ := hv
    injection hv with hv
    exact ⟨_, cap, hv⟩
  · injection h with h; subst h
    simp only [V, V1, Cs] at hv
    obtain ⟨i, cap, _, _, hv, _⟩ := hv
    injection hv with hv
    exact ⟨_, cap, hv⟩
  · cases h

theorem op_len (q : Hq g w h) (hs : SlotsOk g w s a) {c : Call} {x : Operand} {y : Opd} {t : TypeId} (ho : o.op = .call c) (hc : c.callee = .builtin .len) (ha : c.args.toList = [x]) (ht : c.argTypes.toList = [t]) (hx : digOpd x = some y) {b : Bool}
    (hu : if b then P.underlying t = some .string else ∃ e, P.underlying t = some (.slice e)) (hr : RO.run call s h (.len b y) = some (d, h')) : OpOut P g w h a o d h' := by
  have he : execOp a.eval o = (do pure (.value (← Builtin.len_ #[t] o.type #[a.eval x]))) := by
    rw [exec_builtin ho hc, arr1 ha, arr1 ht]; simp [builtin]
  have hv := opd_sound hs hx
  cases b with
  | true =>
    simp only [if_true] at hu
    simp only [RO.run] at hr
    split at hr
    · rename_i b hb
      simp only [Option.some.injEq, Prod.mk.injEq] at hr
      obtain ⟨rfl, rfl⟩ := hr
      rw [hb] at hv
      refine OpOut.of he (Out.same q (v := .int .i64 b.size) ?_ (V.lit rfl))
      simp [Builtin.len_, run_underlying hu, V_str hv, goInt]
    · cases hr
  | false =>
    simp only [Bool.false_eq_true, if_false] at hu
    obtain ⟨e, hu⟩ := hu
    simp only [RO.run] at hr
    split at hr
    · rename_i n hn
      simp only [Option.some.injEq, Prod.mk.injEq] at hr
      obtain ⟨rfl, rfl⟩ := hr
      obtain ⟨A, cap, hv⟩ := lenOf_sound hn hv
      refine OpOut.of he (Out.same q (v := .int .i64 n) ?_ (V.lit rfl))
      simp [Builtin.len_, run_underlying hu, hv, goInt]
    · cases hr

theorem op_cap (q : Hq g w h) (hs : SlotsOk g w s a) {c : Call} {x : Operand} {y : Opd} {t e : TypeId} (ho : o.op = .call c) (hc : c.callee = .builtin .cap) (ha : c.args.toList = [x]) (ht : c.argTypes.toList = [t]) (hx : digOpd x = some y)
    (hu : P.underlying t = some (.slice e)) (hr : RO.run call s h (.cap y) = some (d, h')) : OpOut P g w h a o d h' := by
  have he : execOp a.eval o = (do pure (.value (← Builtin.cap_ #[t] o.type #[a.eval x]))) := by
    rw [exec_builtin ho hc, arr1 ha, arr1 ht]; simp [builtin]
  have hv := opd_sound hs hx
  have key : ∀ A n k, a.eval x = .slice A n k → d = .lit (.int .i64 k) → h' = h → OpOut P g w h a o d h' := by
    rintro A n k hv rfl rfl
    refine OpOut.of he (Out.same q (v := .int .i64 k) ?_ (V.lit rfl))
    simp [Builtin.cap_, run_underlying hu, hv, goInt]
  simp only [RO.run] at hr
  split at hr
  · rename_i hy
    rw [hy] at hv
    simp only [Option.some.injEq, Prod.mk.injEq] at hr
    exact key none 0 0 (V_lit.1 hv).1 hr.1.symm hr.2.symm
  · rename_i es xs hy
    rw [hy] at hv
    simp only [V, V1, Cs] at hv
    obtain ⟨b, o', sp, cap, hv, h1, h2, h3⟩ := hv
    injection hv with hv
    simp only [Option.some.injEq, Prod.mk.injEq] at hr
    rw [h2 trivial] at hv
    exact key _ _ _ hv hr.1.symm hr.2.symm
  · rename_i es id ver off ln hy
    rw [hy] at hv
    simp only [V, V1, Cs] at hv
    obtain ⟨i, cap, h1, h2, hv, h3, h4, h5⟩ := hv
    injection hv with hv
    simp only [Option.some.injEq, Prod.mk.injEq] at hr
    simp only [if_true] at h5
    subst h5
    exact key _ _ _ hv hr.1.symm hr.2.symm
  · cases hr

theorem asPure_eq {α : Type} {S : Sem α} {v : α} (h : asPure S = some v) : S = .pure v := by
  cases S <;> simp [asPure] at h
  rw [h]
theorem run_asPure {α : Type} {S : Sem α} {v : α} (h : asPure S = some v) : S.run P w = .ok v w := by rw [asPure_eq h]; rfl

theorem binOp_int (op : BinOp) (t u : TypeId) (k k' : IntKind) (x y : Int) : binOp op t (.int k x) (.int k' y) = binOp op u (.int k x) (.int k' y) := by cases op <;> rfl
theorem binOp_str (op : BinOp) (t u : TypeId) (x y : ByteArray) : binOp op t (.string x) (.string y) = binOp op u (.string x) (.string y) := by cases op <;> rfl
theorem eqGuard_int (op : BinOp) (t : TypeId) (x y : Operand) (k k' : IntKind) (i j : Int) : (eqGuard op t x y (.int k i) (.int k' j)).run P w = .ok () w := by
  unfold eqGuard; cases op <;> simp
theorem eqGuard_str (op : BinOp) (t : TypeId) (x y : Operand) (i j : ByteArray) : (eqGuard op t x y (.string i) (.string j)).run P w = .ok () w := by
  unfold eqGuard; cases op <;> simp
theorem one_of_bin_int {op : BinOp} {k k' : IntKind} {x y : Int} {v : Value} (h : asPure (binOp op 0 (.int k x) (.int k' y)) = some v) : v.oneCell' = true := by
  cases op <;> simp only [binOp, Op.shift, Op.intArith, Op.intDiv, Op.intBits, Op.intCmp] at h <;>
    (repeat' split at h) <;> first | (simp [asPure, pure, Sem.pure, stuck, runtimePanic, Bind.bind, Sem.bind, program] at h; done) | (simp only [asPure, pure, Option.some.injEq] at h; subst h; rfl) | skip
  all_goals (simp [asPure, pure, stuck, runtimePanic, Bind.bind, Sem.bind, program] at h)
theorem one_of_bin_str {op : BinOp} {x y : ByteArray} {v : Value} (h : asPure (binOp op 0 (.string x) (.string y)) = some v) : v.oneCell' = true := by
  cases op <;> simp only [binOp, Op.stringOp] at h <;> (repeat' split at h) <;> first | (simp only [asPure, pure, Option.some.injEq] at h; subst h; rfl) | (simp [asPure, pure, stuck, unsupported] at h; done) | skip

theorem op_bin (q : Hq g w h) (hs : SlotsOk g w s a) {op : BinOp} {t t' : TypeId} {x y : Operand} {x' y' : Opd} (ho : o.op = .binOp op t x y t') (hx : digOpd x = some x') (hy : digOpd y = some y') (hr : RO.run call s h (.bin op x' y') = some (d, h')) : OpOut P g w h a o d h' := by
  have he : execOp a.eval o = (do pure (.value (← (do eqGuard op t x y (a.eval x) (a.eval y); binOp op t (a.eval x) (a.eval y))))) := by unfold execOp; rw [ho]
  have h1 := opd_sound hs hx
  have h2 := opd_sound hs hy
  simp only [RO.run] at hr
  split at hr
  · rename_i k i k' j hx' hy'
    rw [hx'] at h1; rw [hy'] at h2
    have h1 := V_int h1; have h2 := V_int h2
    split at hr
    · rename_i v hv
      simp only [Option.some.injEq, Prod.mk.injEq] at hr
      obtain ⟨rfl, rfl⟩ := hr
      refine OpOut.of he (Out.same q (v := v) ?_ (V.lit (one_of_bin_int hv)))
      rw [h1, h2]
      simp only [Sem.run_bind, eqGuard_int, Result.andThen_ok]
      rw [binOp_int op t 0]
      exact run_asPure hv
    · cases hr
  · rename_i i j hx' hy'
    rw [hx'] at h1; rw [hy'] at h2
    have h1 := V_str h1; have h2 := V_str h2
    split at hr
    · rename_i v hv
      simp only [Option.some.injEq, Prod.mk.injEq] at hr
      obtain ⟨rfl, rfl⟩ := hr
      refine OpOut.of he (Out.same q (v := v) ?_ (V.lit (one_of_bin_str hv)))
      rw [h1, h2]
      simp only [Sem.run_bind, eqGuard_str, Result.andThen_ok]
      rw [binOp_str op t 0]
      exact run_asPure hv
    · cases hr
  · cases hr
end
end Go.Rex
