import Derived.Test.YtijnmnpigjadhabRexQ
/- Rex, part R: appends, copies, clears: what becomes of the objects. -/
set_option linter.unusedVariables false
set_option linter.unusedSimpArgs false
namespace Go.Rex
open Go.RowKit Go.Lib
section
variable {P : Program} {g : Gh} {w : World} {h h' : Hp} {s : List D} {a : Act} {call : CallF} {o : Oper} {d : D} {m : Bool} {ro : RO}

theorem AppArg.self {i : TypeInfo} {z : Value} {u : TypeId} {x : Value} {n : Nat} {news : List Value} (h : AppArg P w i z u x n news) : news.length = n * i.size := h.1

theorem below_grown (w : World) (o : Obj) : Below w.heap.size w (w.drew.alloc o) := ((Below.refl _ w).drew).alloc (by simp [World.drew, -World.drew_eq]) o
theorem heap_grown (w : World) (c : List Value) (e : TypeId) : (w.drew.alloc (.cells c.toArray e)).heap[w.heap.size]? = some (.cells c.toArray e (0, 0)) := by
  simp [World.alloc, World.drew, -World.alloc_eq, -World.drew_eq]
theorem At_grown (w : World) (c : List Value) (e : TypeId) : At (w.drew.alloc (.cells c.toArray e)) w.heap.size 0 c := by
  intro j v hv
  rw [Nat.zero_add]
  simp only [World.cell?, heap_grown]
  simpa using hv
theorem At.left {b o : Nat} {c1 c2 : List Value} (h : At w b o (c1 ++ c2)) : At w b o c1 := by
  intro j v hv
  refine h j v ?_
  rw [List.getElem?_append_left (List.getElem?_eq_some_iff.1 hv).1]; exact hv
theorem flatten_rep_len (n : Nat) (l : List Value) : (List.replicate n l).flatten.length = n * l.length := by
  induction n with
  | zero => simp
  | succ n ih => rw [List.replicate_succ, List.flatten_cons, List.length_append, ih, Nat.succ_mul]; omega
theorem AggCs.append {es : Nat} : ∀ {xs ys : List D} {c1 c2 : List Value}, AggCs g w (List.replicate xs.length es) xs c1 → AggCs g w (List.replicate ys.length es) ys c2 → AggCs g w (List.replicate (xs ++ ys).length es) (xs ++ ys) (c1 ++ c2)
  | [], ys, c1, c2, h1, h2 => by
    have h1 : c1 = [] := h1
    subst h1; simpa using h2
  | x :: xs, ys, c1, c2, ⟨a, b, h1, h2, h3, h4⟩, h5 => ⟨a, b ++ c2, by simp [h1], h2, h3, AggCs.append h4 h5⟩

theorem append_sound (q : Hq g w h) {t u ty e : TypeId} {i : TypeInfo} {z : Value} {es : Nat} (ht : P.underlying t = some (.slice e)) (hi : P.info? e = some i) (hz : i.zero = some z) (hes : i.size = es) (hpos : 0 < es) (hb0 : 0 < i.bytes) (hzl : z.cells.toList.length = es)
    {x : D} {vx xa : Value} {ys : List D} {news : List Value} (hn : AggCs g w (List.replicate ys.length es) ys news) (hx : AppArg P w i z u xa ys.length news) (hv : V g w x vx)
    (hd : appendD h es (140737488355328 / i.bytes) x ys = some (d, h')) : Out P g w h (Builtin.append_ #[t, u] ty #[vx, xa]) d h' := by
  have hnl := hx.1
  -- nothing is added
  have same : ∀ A len cap, vx = .slice A len cap → len ≤ cap → ys = [] → Out P g w h (Builtin.append_ #[t, u] ty #[vx, xa]) x h := by
    intro A len cap hvx hlc hy
    subst hy
    have hnil : news = [] := List.eq_nil_of_length_eq_zero (by rw [hnl]; simp)
    subst hnil
    refine Out.same q (v := vx) ?_ hv
    rw [hvx]
    have := app_fit (P := P) (w := w) (ty := ty) ht hi hz hx (A := A) (len := len) (cap := cap) (by simpa using hlc) (w' := w) (by cases A <;> simp [storeCells])
    simpa using this
  -- a new row
  have fresh : ∀ A len cap olds xs, vx = .slice A len cap → xs.length = len → AggCs g w (List.replicate xs.length es) xs olds → ((A = none ∧ olds = []) ∨ ∃ b, A = some b ∧ ∀ j v, olds[j]? = some v → w.cell? (b.add j) = some v) → cap < len + ys.length → len + ys.length ≤ 140737488355328 / i.bytes →
      Out P g w h (Builtin.append_ #[t, u] ty #[vx, xa]) (.mo es h.length 0 0 (len + ys.length) false) (newOb h es (xs ++ ys)) := by
    intro A len cap olds xs hvx hxl hagg hA hcap hlim
    have holen := AggCs.size _ _ _ hagg
    rw [sumN_rep] at holen
    have hlim' : (len + ys.length) * i.bytes ≤ 140737488355328 := (Nat.le_div_iff_mul_le hb0).1 hlim
    have hrun := app_grow (P := P) (w := w) (ty := ty) ht hi hz hb0 hx (A := A) (len := len) (cap := cap) (olds := olds) (by rw [holen, hxl, hes]) hA hcap hlim'
    rw [← hvx] at hrun
    have hge := grownCap_ge w (len + ys.length) cap e
    generalize hC : grownCap w (len + ys.length) cap e = C at hrun hge
    generalize hT : (List.replicate (C - (len + ys.length)) z.cells.toList).flatten = T at hrun
    have hbl := below_grown w (.cells (olds ++ news ++ T).toArray e)
    have hl : Le g w g (w.drew.alloc (.cells (olds ++ news ++ T).toArray e)) := Le.of_below q.imm hbl
    have hTl : T.length = (C - (len + ys.length)) * es := by rw [← hT, flatten_rep_len, hzl]
    have htot : (olds ++ news ++ T).length = C * es := by
      rw [List.length_append, List.length_append, holen, hnl, hTl, hxl, hes, ← Nat.add_mul, ← Nat.add_mul]
      congr 1; omega
    have hrow := AggCs.row (AggCs.le hl _ _ _ (AggCs.append hagg hn)) (At.left (At_grown w (olds ++ news ++ T) e))
    obtain ⟨q', e'⟩ := q.make hbl w.heap.size (Nat.le_refl _) (by simp) es C (xs ++ ys) hpos ⟨_, _, _, heap_grown w _ e, by rw [List.size_toArray, htot]; exact Nat.le_refl _, by simp⟩ (by rw [List.length_append, hxl]; exact hge) hrow
    refine ⟨_, _, _, hrun, ?_, q', e'⟩
    simp only [V, V1, Cs]
    exact ⟨_, C, addInc_here _ _ _ _, rfl, by rw [Nat.zero_mul], by simp [hxl], hge, by simp⟩
  unfold appendD at hd
  split at hd
  · -- nil
    have hvx := nil_V hv
    split at hd
    · rename_i hy
      simp only [Option.some.injEq, Prod.mk.injEq] at hd
      obtain ⟨rfl, rfl⟩ := hd
      exact same _ _ _ hvx (Nat.le_refl _) (List.isEmpty_iff.1 hy)
    · rename_i hy
      split at hd
      · rename_i hlim
        simp only [Option.some.injEq, Prod.mk.injEq] at hd
        obtain ⟨rfl, rfl⟩ := hd
        have hne : ys.length ≠ 0 := fun e1 => hy (List.isEmpty_iff.2 (List.eq_nil_of_length_eq_zero e1))
        have := fresh none 0 0 [] [] hvx rfl rfl (.inl ⟨rfl, rfl⟩) (by omega) (by omega)
        simpa using this
      · cases hd
  · -- what never changes
    rename_i e' xs tg
    have hv' := hv
    simp only [V, V1, Cs] at hv'
    obtain ⟨b, off, sp, cap, hvx, hcap, htg, hrow, hsp⟩ := hv'
    injection hvx with hvx
    split at hd
    · rename_i hy
      simp only [Option.some.injEq, Prod.mk.injEq] at hd
      obtain ⟨rfl, rfl⟩ := hd
      exact same _ _ _ hvx hcap (List.isEmpty_iff.1 hy)
    · rename_i hy
      split at hd
      · rename_i hc
        simp only [Bool.and_eq_true, Bool.or_eq_true, List.isEmpty_iff, beq_iff_eq, decide_eq_true_eq] at hc
        simp only [Option.some.injEq, Prod.mk.injEq] at hd
        obtain ⟨rfl, rfl⟩ := hd
        have hne : ys.length ≠ 0 := fun e1 => hy (List.isEmpty_iff.2 (List.eq_nil_of_length_eq_zero e1))
        have hcapx := htg hc.1.1
        have hrow' : RowM g w b es off xs := by
          rcases hc.1.2 with rfl | rfl
          · trivial
          · exact hrow.row
        obtain ⟨olds, ho1, ho2⟩ := hrow'.agg
        refine fresh _ _ _ olds xs hvx rfl ho1 (.inr ⟨_, rfl, fun j v hj => ?_⟩) (by omega) hc.2
        by_cases hxs : xs = []
        · subst hxs
          have ho1 : olds = [] := ho1
          rw [ho1] at hj; simp at hj
        · have hs0 := hsp hxs
          subst hs0
          rw [addr_add]; exact ho2 j v hj
      · cases hd
  · -- an object's
    rename_i e' id ver off len tg
    have hv' := hv
    simp only [V, V1, Cs] at hv'
    obtain ⟨k, cap, hk, hke, hvx, hlen, hcap, hcap2⟩ := hv'
    injection hvx with hvx
    split at hd
    · rename_i hee
      have hee := beq_iff_eq.1 hee
      subst hee
      split at hd
      · rename_i hy
        simp only [Option.some.injEq, Prod.mk.injEq] at hd
        obtain ⟨rfl, rfl⟩ := hd
        exact same _ _ _ hvx hcap (List.isEmpty_iff.1 hy)
      · rename_i hy
        have hne : ys.length ≠ 0 := fun e1 => hy (List.isEmpty_iff.2 (List.eq_nil_of_length_eq_zero e1))
        split at hd
        · rename_i ob hob
          split at hd
          · rename_i hc
            obtain ⟨hobes, hlim⟩ := hc
            split at hd
            · rename_i htg
              subst htg
              split at hd
              · rename_i xs hxs
                simp only [Option.some.injEq, Prod.mk.injEq] at hd
                obtain ⟨rfl, rfl⟩ := hd
                obtain ⟨⟨A, cap', hvx', _, hA⟩⟩ := elemsOf_sound q hxs hv
                rw [hvx] at hvx'
                injection hvx' with e1 e2 e3
                simp only [if_true] at hcap2
                rcases hA with rfl | ⟨b, o', rfl, hrow⟩
                · exact fresh _ _ _ [] [] hvx e2.symm rfl (.inr ⟨_, rfl, fun j v hj => by simp at hj⟩) (by omega) hlim
                · injection e1 with e1
                  obtain ⟨olds, ho1, ho2⟩ := hrow.agg
                  exact fresh _ _ _ olds xs hvx e2.symm ho1 (.inr ⟨_, rfl, fun j v hj => by rw [e1, addr_add]; exact ho2 j v hj⟩) (by omega) hlim
              · cases hd
            · rename_i htg
              have htg : tg = false := by simpa using htg
              subst htg
              simp only [Bool.false_eq_true, if_false] at hcap2
              split at hd
              · rename_i hver
                subst hver
                have ok := q.obs id ob k hob hk
                have hkn := ok.n; have hkc := ok.cap
                obtain ⟨k', hk', _, _, hrow⟩ := ok.incs ob.ver ok.mv (Nat.le_refl _)
                rw [hk] at hk'; injection hk' with hk'; subst hk'
                rw [List.take_of_length_le (by rw [ok.n]; exact Nat.le_refl _), hobes] at hrow
                have hone := AggCs.one _ _ _ hn
                split at hd
                · -- over what stands there
                  rename_i hin
                  obtain ⟨hin, hfz⟩ := hin
                  simp only [Option.some.injEq, Prod.mk.injEq] at hd
                  obtain ⟨rfl, rfl⟩ := hd
                  have hb1 : (off + len) * e' + news.length ≤ k.cap * ob.es := by
                    rw [hnl, hes, ← Nat.add_mul, hobes]
                    exact Nat.mul_le_mul_right _ (by omega)
                  obtain ⟨r1, r2, r3⟩ := run_storeCells_ob (P := P) ok (o := (off + len) * e') hb1 hone
                  have hl : Le g w g (w.setCells k.blk ((off + len) * e') news) := r2.le (fun o' _ ho => ok.free hfz o' (by omega))
                  obtain ⟨q', e2⟩ := q.over hob hk r2 hb1 hfz (ob.xs.take (off + len) ++ ys ++ ob.xs.drop (off + len + ys.length)) (by simp; omega) (by
                    rw [hobes]
                    refine RowM.splice hl hrow hin hn r3 (fun p hp => r2.cell p ?_)
                    rwa [hnl, hes, ← Nat.add_mul])
                  refine ⟨.slice (some ⟨k.blk, off * e', none⟩) (len + ys.length) cap, _, g, ?_, ?_, q', e2⟩
                  · rw [hvx]
                    refine app_fit ht hi hz hx (by omega) ?_
                    simp only [addr_add]
                    rw [hes, ← Nat.add_mul]
                    exact r1
                  · simp only [V, V1, Cs]
                    exact ⟨k, cap, hk, hke, rfl, by omega, by omega, by simpa using hcap2⟩
                · split at hd
                  · -- it grows
                    rename_i hfull
                    obtain ⟨rfl, rfl⟩ := hfull
                    simp only [Option.some.injEq, Prod.mk.injEq] at hd
                    obtain ⟨rfl, rfl⟩ := hd
                    rw [Nat.zero_mul] at hvx
                    by_cases hroom : ob.xs.length + ys.length ≤ k.cap
                    · have hb1 : k.n * ob.es + news.length ≤ k.cap * ob.es := by
                        rw [hnl, hes, hobes, ← Nat.add_mul]
                        exact Nat.mul_le_mul_right _ (by omega)
                      obtain ⟨r1, r2, r3⟩ := run_storeCells_ob (P := P) ok (o := k.n * ob.es) hb1 hone
                      have hl : Le g w g (w.setCells k.blk (k.n * ob.es) news) := r2.le (fun o' ho1 ho2 => ok.tail o' ho1 (by omega))
                      have hrow2 : RowM g (w.setCells k.blk (k.n * ob.es) news) k.blk ob.es 0 (ob.xs ++ ys) := by
                        generalize w.setCells k.blk (k.n * ob.es) news = wS at r2 r3 hl
                        rw [hobes]
                        refine RowM.append (RowM.keep hl _ _ _ _ (fun j hj => r2.cell _ ?_) hrow) ?_
                        · rw [hkn, hobes]; omega
                        · rw [hkn, hobes] at r3
                          rw [Nat.zero_add]
                          exact AggCs.row (AggCs.le hl _ _ _ hn) r3
                      obtain ⟨q', e2⟩ := q.more hob hk k.blk k.cap ys hroom (.inl ⟨rfl, rfl, by rw [Nat.add_mul]; have := r2; rwa [hnl, hes, ← hobes] at this⟩) hrow2 ob.minv (.inl rfl)
                      refine ⟨.slice (some ⟨k.blk, 0, none⟩) (ob.xs.length + ys.length) cap, _, _, ?_, ?_, q', e2⟩
                      · rw [hvx]
                        refine app_fit ht hi hz hx (by omega) ?_
                        simp only [addr_add, Nat.zero_add]
                        rw [hes, ← hkn, ← hobes]
                        exact r1
                      · simp only [V, V1, Cs]
                        exact ⟨_, cap, addInc_here _ _ _ _, hobes, by rw [Nat.zero_mul], by simp, by omega, by simpa using hcap2⟩
                    · obtain ⟨olds, ho1, ho2⟩ := hrow.agg
                      have holen := AggCs.size _ _ _ ho1
                      rw [sumN_rep] at holen
                      have hlim' : (ob.xs.length + ys.length) * i.bytes ≤ 140737488355328 := (Nat.le_div_iff_mul_le hb0).1 hlim
                      have hrun := app_grow (P := P) (w := w) (ty := ty) ht hi hz hb0 hx (A := some ⟨k.blk, 0, none⟩) (len := ob.xs.length) (cap := cap) (olds := olds) (by rw [holen, hes]) (.inr ⟨_, rfl, fun j v hj => by rw [addr_add]; exact ho2 j v hj⟩) (by omega) hlim'
                      rw [← hvx] at hrun
                      have hge := grownCap_ge w (ob.xs.length + ys.length) cap e
                      generalize hC : grownCap w (ob.xs.length + ys.length) cap e = C at hrun hge
                      generalize hT : (List.replicate (C - (ob.xs.length + ys.length)) z.cells.toList).flatten = T at hrun
                      have hbl := below_grown w (.cells (olds ++ news ++ T).toArray e)
                      have hl : Le g w g (w.drew.alloc (.cells (olds ++ news ++ T).toArray e)) := Le.of_below q.imm hbl
                      have hTl : T.length = (C - (ob.xs.length + ys.length)) * e' := by rw [← hT, flatten_rep_len, hzl]
                      have htot : (olds ++ news ++ T).length = C * e' := by
                        rw [List.length_append, List.length_append, holen, hnl, hTl, hes, ← Nat.add_mul, ← Nat.add_mul]
                        congr 1; omega
                      have hrow2 := AggCs.row (AggCs.le hl _ _ _ (AggCs.append ho1 hn)) (At.left (At_grown w (olds ++ news ++ T) e))
                      obtain ⟨q', e2⟩ := q.more hob hk w.heap.size C ys hge (.inr ⟨Nat.le_refl _, by simp, hbl, _, _, _, heap_grown w _ e, by rw [List.size_toArray, htot, hobes]; exact Nat.le_refl _, by simp⟩) (by rw [hobes]; exact hrow2) ob.minv (.inl rfl)
                      refine ⟨_, _, _, hrun, ?_, q', e2⟩
                      simp only [V, V1, Cs]
                      exact ⟨_, C, addInc_here _ _ _ _, hobes, by rw [Nat.zero_mul], by simp, hge, by simp⟩
                  · cases hd
              · cases hd
          · cases hd
        · cases hd
    · cases hd
  · cases hd
end
end Go.Rex
