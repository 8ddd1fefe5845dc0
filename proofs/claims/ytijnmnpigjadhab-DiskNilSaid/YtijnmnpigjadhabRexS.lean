import Derived.Test.YtijnmnpigjadhabRexR
import Derived.Laws.StructEq
/- Rex, part S: appends, copies, clears as operations; comparisons. -/
set_option linter.unusedVariables false
set_option linter.unusedSimpArgs false
namespace Go.Rex
open Go.RowKit Go.Lib
section
variable {P : Program} {g : Gh} {w : World} {h h' : Hp} {s : List D} {a : Act} {call : CallF} {o : Oper} {d : D} {m : Bool} {ro : RO}

/-- What is known of an element's type. -/
theorem elem_info {e : TypeId} {es b : Nat} {zd : D} (hes : szOf P e = some es) (hb : bytesOf P e = some b) (hz : zeroOf P e = some zd) (hzs : zd.sz = es) :
    ∃ i z, P.info? e = some i ∧ i.zero = some z ∧ i.size = es ∧ i.bytes = b ∧ z.cells.toList.length = es ∧ ∀ g w, Cs g w zd z.cells.toList := by
  obtain ⟨z, i, hi, hzv, hV⟩ := zeroOf_sound hz
  refine ⟨i, z, hi, hzv, by simpa [szOf, hi] using hes, by simpa [bytesOf, hi] using hb, ?_, fun g w => ?_⟩
  · obtain ⟨c, hc, hcells⟩ := (hV ⟨fun _ _ => none, fun _ _ => False, 0⟩ default).cells
    rw [hcells]; simp only [List.toList_toArray]; rw [Cs.size _ _ hc, hzs]
  · obtain ⟨c, hc, hcells⟩ := (hV g w).cells
    rw [hcells]; exact hc

theorem SlOk.agg {es : Nat} {xs : List D} {v : Value} (hk : SlOk g w es xs v) : ∃ A cap c, v = .slice A xs.length cap ∧ xs.length ≤ cap ∧ AggCs g w (List.replicate xs.length es) xs c ∧ ((A = none ∧ c = []) ∨ ∃ b, A = some b ∧ ∀ j v, c[j]? = some v → w.cell? (b.add j) = some v) := by
  obtain ⟨A, cap, hv, hl, hA⟩ := hk
  rcases hA with rfl | ⟨b, o', rfl, hrow⟩
  · refine ⟨A, cap, [], hv, hl, rfl, ?_⟩
    cases A with
    | none => exact .inl ⟨rfl, rfl⟩
    | some A => exact .inr ⟨A, rfl, fun j v hj => by simp at hj⟩
  · obtain ⟨c, h1, h2⟩ := hrow.agg
    exact ⟨_, cap, c, hv, hl, h1, .inr ⟨_, rfl, fun j v hj => by rw [addr_add]; exact h2 j v hj⟩⟩

theorem exec_append {c : Call} {x y : Operand} {t u : TypeId} (ho : o.op = .call c) (hc : c.callee = .builtin .append) (ha : c.args.toList = [x, y]) (ht : c.argTypes.toList = [t, u]) :
    execOp a.eval o = (do pure (.value (← Builtin.append_ #[t, u] o.type #[a.eval x, a.eval y]))) := by
  rw [exec_builtin ho hc, arr2 ha, arr2 ht]; simp [builtin]

theorem op_app (q : Hq g w h) (hs : SlotsOk g w s a) {c : Call} {x y : Operand} {x' y' : Opd} {t u e e' : TypeId} {es b : Nat} {zd : D} (ho : o.op = .call c) (hc : c.callee = .builtin .append) (ha : c.args.toList = [x, y]) (ht : c.argTypes.toList = [t, u])
    (hx : digOpd x = some x') (hy : digOpd y = some y') (hu : P.underlying t = some (.slice e)) (hu' : P.underlying u = some (.slice e')) (hes : szOf P e = some es) (hb : bytesOf P e = some b) (hz : zeroOf P e = some zd) (hpos : 0 < b ∧ 0 < es ∧ zd.sz = es)
    (hr : RO.run call s h (.app es (140737488355328 / b) x' y') = some (d, h')) : OpOut P g w h a o d h' := by
  obtain ⟨i, z, hi, hzv, hsz, hby, hzl, hzc⟩ := elem_info hes hb hz hpos.2.2
  simp only [RO.run] at hr
  split at hr
  · rename_i ys hys
    obtain ⟨A, cap, news, hv, hl, hn, hA⟩ := (elemsOf_sound q hys (opd_sound hs hy)).agg
    have hnl := AggCs.size _ _ _ hn
    rw [sumN_rep] at hnl
    exact OpOut.of (exec_append ho hc ha ht) (append_sound q hu hi hzv hsz hpos.2.1 (by rw [hby]; exact hpos.1) hzl hn ⟨by rw [hnl, hsz], .inl ⟨e', A, cap, hu', hv, hA⟩⟩ (opd_sound hs hx) (by rw [hby]; exact hr))
  · cases hr
theorem op_appS (q : Hq g w h) (hs : SlotsOk g w s a) {c : Call} {x y : Operand} {x' y' : Opd} {t u e : TypeId} {b : Nat} {zd : D} (ho : o.op = .call c) (hc : c.callee = .builtin .append) (ha : c.args.toList = [x, y]) (ht : c.argTypes.toList = [t, u])
    (hx : digOpd x = some x') (hy : digOpd y = some y') (hu : P.underlying t = some (.slice e)) (hu' : P.underlying u = some .string) (hes : szOf P e = some 1) (hb : bytesOf P e = some b) (hz : zeroOf P e = some zd) (hpos : 0 < b ∧ zd.sz = 1)
    (hr : RO.run call s h (.appS (140737488355328 / b) x' y') = some (d, h')) : OpOut P g w h a o d h' := by
  obtain ⟨i, z, hi, hzv, hsz, hby, hzl, hzc⟩ := elem_info hes hb hz hpos.2
  simp only [RO.run] at hr
  split at hr
  · rename_i bs hbs
    have hv := opd_sound hs hy
    rw [hbs] at hv
    have hv := V_str hv
    exact OpOut.of (exec_append ho hc ha ht) (append_sound q hu hi hzv hsz Nat.one_pos (by rw [hby]; exact hpos.1) hzl (bytesCs bs) ⟨by simp [hsz, bytesD_length], .inr (.inl ⟨bs, hu', hv, by rw [bytesD_length], rfl⟩)⟩ (opd_sound hs hx) (by rw [hby]; exact hr))
  · cases hr
theorem op_appZ (q : Hq g w h) (hs : SlotsOk g w s a) {c : Call} {x y : Operand} {x' y' : Opd} {t u e : TypeId} {k : IntKind} {es b : Nat} {zd : D} (ho : o.op = .call c) (hc : c.callee = .builtin .append) (ha : c.args.toList = [x, y]) (ht : c.argTypes.toList = [t, u])
    (hx : digOpd x = some x') (hy : digOpd y = some y') (hu : P.underlying t = some (.slice e)) (hu' : P.underlying u = some (.int k)) (hes : szOf P e = some es) (hb : bytesOf P e = some b) (hz : zeroOf P e = some zd) (hpos : 0 < b ∧ 0 < es ∧ zd.sz = es)
    (hr : RO.run call s h (.appZ es (140737488355328 / b) zd x' y') = some (d, h')) : OpOut P g w h a o d h' := by
  obtain ⟨i, z, hi, hzv, hsz, hby, hzl, hzc⟩ := elem_info hes hb hz hpos.2.2
  simp only [RO.run] at hr
  split at hr
  · rename_i n hn
    split at hr
    · rename_i hcnd
      obtain ⟨_, hlim⟩ := hcnd
      obtain ⟨k', hv⟩ := natOf_sound hn (opd_sound hs hy)
      have hag := AggCs.rep (hzc g w) n
      rw [hzl] at hag
      have hlim' : n * b ≤ 140737488355328 := (Nat.le_div_iff_mul_le hpos.1).1 hlim
      have h63 : n ≤ 140737488355328 := by
        have : n * 1 ≤ n * b := Nat.mul_le_mul_left _ hpos.1
        omega
      exact OpOut.of (exec_append ho hc ha ht) (append_sound q hu hi hzv hsz hpos.2.1 (by rw [hby]; exact hpos.1) hzl (ys := List.replicate n zd) (by simpa using hag) ⟨by rw [flatten_rep_len, hzl, hsz]; simp, .inr (.inr ⟨k, k', hu', by simpa using hv, by simp, by simpa [hby] using hlim', by simpa using h63⟩)⟩ (opd_sound hs hx) (by rw [hby]; exact hr))
    · cases hr
  · cases hr

theorem AggCs.takeN {es : Nat} : ∀ {ys : List D} {c : List Value} (k : Nat), AggCs g w (List.replicate ys.length es) ys c → AggCs g w (List.replicate (ys.take k).length es) (ys.take k) (c.take (min ys.length k * es))
  | [], c, k, h => by
    have h : c = [] := h
    subst h; simp; rfl
  | y :: ys, c, 0, h => by simp; rfl
  | y :: ys, c, k + 1, ⟨c1, c2, h1, h2, h3, h4⟩ => by
    subst h1
    refine ⟨c1, c2.take (min ys.length k * es), ?_, h2, h3, AggCs.takeN k h4⟩
    simp only [List.length_cons]
    rw [show min (ys.length + 1) (k + 1) = min ys.length k + 1 by omega, Nat.succ_mul, Nat.add_comm, List.take_append, h3]
    rw [List.take_of_length_le (by omega)]
    simp

theorem op_cpy (q : Hq g w h) (hs : SlotsOk g w s a) {c : Call} {x y : Operand} {x' y' : Opd} {t u e : TypeId} {es : Nat} (ho : o.op = .call c) (hc : c.callee = .builtin .copy) (ha : c.args.toList = [x, y]) (ht : c.argTypes.toList = [t, u])
    (hx : digOpd x = some x') (hy : digOpd y = some y') (hu : P.underlying t = some (.slice e)) (hes : szOf P e = some es) (hpos : 0 < es)
    (hr : RO.run call s h (.cpy es x' y') = some (d, h')) : OpOut P g w h a o d h' := by
  have he : execOp a.eval o = (do pure (.value (← Builtin.copy_ #[t, u] o.type #[a.eval x, a.eval y]))) := by
    rw [exec_builtin ho hc, arr2 ha, arr2 ht]; simp [builtin]
  have h1 := opd_sound hs hx
  have h2 := opd_sound hs hy
  simp only [RO.run] at hr
  split at hr
  · rename_i n ys hn hys
    split at hr
    · rename_i h1' hov
      simp only [Option.some.injEq, Prod.mk.injEq] at hr
      obtain ⟨rfl, rfl⟩ := hr
      obtain ⟨A, cap, hv⟩ := lenOf_sound hn h1
      have hov' := hov
      -- the source
      have src : ∃ cs : List Value, AggCs g w (List.replicate (ys.take n).length es) (ys.take n) cs ∧ (Builtin.lenOf (a.eval y)).run P w = .ok ys.length w ∧ (Builtin.firstCells es (Nat.min ys.length n) (a.eval y)).run P w = .ok cs.toArray w := by
        have slice : elemsOf h es (y'.ev s) = some ys → ∃ cs : List Value, AggCs g w (List.replicate (ys.take n).length es) (ys.take n) cs ∧ (Builtin.lenOf (a.eval y)).run P w = .ok ys.length w ∧ (Builtin.firstCells es (Nat.min ys.length n) (a.eval y)).run P w = .ok cs.toArray w := fun hel => by
          obtain ⟨B, cap', cs, hvy, _, hagg, hB⟩ := (elemsOf_sound q hel h2).agg
          have hcl := AggCs.size _ _ _ hagg
          rw [sumN_rep] at hcl
          refine ⟨cs.take (min ys.length n * es), AggCs.takeN n hagg, by rw [hvy]; rfl, ?_⟩
          rw [hvy]
          rcases hB with ⟨rfl, rfl⟩ | ⟨b, rfl, hB⟩
          · simpa using run_firstCells_none (P := P) w es (Nat.min ys.length n) ys.length cap'
          · refine run_firstCells_some w es (Nat.min ys.length n) b ys.length cap' _ ?_ (fun j v hj => ?_)
            · rw [List.length_take, hcl]
              have : min ys.length n * es ≤ ys.length * es := Nat.mul_le_mul_right _ (Nat.min_le_left _ _)
              show min (min ys.length n * es) (ys.length * es) = min ys.length n * es
              omega
            · rw [List.getElem?_take] at hj
              split at hj
              · exact hB j v hj
              · cases hj
        split at hys
        · rename_i b hb
          split at hys
          · rename_i h1e
            subst h1e
            injection hys with hys; subst hys
            rw [hb] at h2
            have h2 := V_str h2
            refine ⟨_, AggCs.takeN n (bytesCs b), by rw [h2, bytesD_length]; rfl, ?_⟩
            rw [h2]
            simp only [Builtin.firstCells, Sem.run_pure]
            congr 1
            apply Array.ext'
            simp [bytesD_length, ByteArray.data_extract]
          · cases hys
        · exact slice hys
      obtain ⟨cs, hagg, hlen, hfirst⟩ := src
      rw [hv] at h1
      obtain ⟨w', hst, q', e'⟩ := over_sound (P := P) q hpos hov h1 hagg
      refine OpOut.of he ⟨.int .i64 (min ys.length n : Nat), w', g, ?_, V.lit rfl, q', e'⟩
      have hz : ∀ n, szOf P e = some n → (sizeOf e).run P w = .ok n w := fun n h => run_sizeOf h
      cases A with
      | none =>
        simp only [Sem.run_pure] at hst; cases hst
        simp [Builtin.copy_, run_underlying hu, hv, hlen, hz _ hes, hfirst, goInt]
      | some A =>
        simp [Builtin.copy_, run_underlying hu, hv, hlen, hz _ hes, hfirst, goInt, hst]
    · cases hr
  · cases hr

theorem op_clr (q : Hq g w h) (hs : SlotsOk g w s a) {c : Call} {x : Operand} {x' : Opd} {t e : TypeId} {es : Nat} {zd : D} (ho : o.op = .call c) (hc : c.callee = .builtin .clear) (ha : c.args.toList = [x]) (ht : c.argTypes.toList = [t])
    (hx : digOpd x = some x') (hu : P.underlying t = some (.slice e)) (hes : szOf P e = some es) (hz : zeroOf P e = some zd) (hpos : 0 < es)
    (hr : RO.run call s h (.clr es zd x') = some (d, h')) : OpOut P g w h a o d h' := by
  have he : execOp a.eval o = (do pure (.value (← Builtin.clear_ #[t] o.type #[a.eval x]))) := by
    rw [exec_builtin ho hc, arr1 ha, arr1 ht]; simp [builtin]
  have h1 := opd_sound hs hx
  simp only [RO.run] at hr
  split at hr
  · rename_i n hn
    split at hr
    · rename_i hzs
      split at hr
      · rename_i h2 hov
        simp only [Option.some.injEq, Prod.mk.injEq] at hr
        obtain ⟨rfl, rfl⟩ := hr
        obtain ⟨A, cap, hv⟩ := lenOf_sound hn h1
        obtain ⟨z, i, hi, hzv, hV⟩ := zeroOf_sound hz
        obtain ⟨cz, hcz, hcells⟩ := (hV g w).cells
        have hczl : cz.length = es := by rw [Cs.size _ _ hcz, hzs]
        have hag := AggCs.rep hcz n
        rw [hczl] at hag
        rw [hv] at h1
        obtain ⟨w', hst, q', e'⟩ := over_sound (P := P) q hpos hov h1 (news := (List.replicate n cz).flatten) (by simpa using hag)
        refine OpOut.of he ⟨.tuple #[], w', g, ?_, ⟨[], rfl, rfl⟩, q', e'⟩
        rw [hv]
        cases A with
        | none =>
          simp only [Sem.run_pure] at hst; cases hst
          simp [Builtin.clear_, run_underlying hu]
        | some A =>
          cases n with
          | zero =>
            simp [storeCells] at hst; subst hst
            simp [Builtin.clear_, run_underlying hu]
          | succ n =>
            simp [Builtin.clear_, run_underlying hu, zeroValue, typeInfo, hi, hzv, zeroCells_toList, hcells, hst]
      · cases hr
    · cases hr
  · cases hr
end
end Go.Rex
