import Derived.Test.YtijnmnpigjadhabRexK
/- Rex, part L: more operations. -/
set_option linter.unusedVariables false
set_option linter.unusedSimpArgs false
namespace Go.Rex
open Go.RowKit
section
variable {P : Program} {g : Gh} {w : World} {h h' : Hp} {s : List D} {a : Act} {call : CallF} {o : Oper} {d : D} {m : Bool} {ro : RO}

/-- A new row: as an object, or as what never changes. -/
theorem row_new (q : Hq g w h) {e : TypeId} {es : Nat} (hes : 0 < es) {xs : List D} {c : List Value} (hc : AggCs g w (List.replicate xs.length es) xs c) (mm : Bool)
    (hd : (if mm then some (D.mo es h.length 0 0 xs.length false, newOb h es xs) else some (D.sl es xs true, h)) = some (d, h')) :
    let w' : World := { w with heap := w.heap.push (.cells c.toArray e) }
    ∃ g', V g' w' d (.slice (some ⟨w.heap.size, 0, none⟩) xs.length xs.length) ∧ Hq g' w' h' ∧ Ext g w h g' w' h' := by
  intro w'
  have hb := below_push w (.cells c.toArray e)
  have hcl : c.length = xs.length * es := by
    have := AggCs.size _ _ _ hc
    rw [sumN_rep] at this; exact this
  have hl : Le g w g w' := Le.of_below q.imm hb
  have hrow := AggCs.row (AggCs.le hl _ _ _ hc) (At_push w c e _)
  split at hd
  · simp only [Option.some.injEq, Prod.mk.injEq] at hd
    obtain ⟨rfl, rfl⟩ := hd
    obtain ⟨q', e'⟩ := q.make hb w.heap.size (Nat.le_refl _) (by simp) es xs.length xs hes ⟨c.toArray, e, (0, 0), by simp, by simp [hcl], by simp⟩ (Nat.le_refl _) hrow
    refine ⟨_, ?_, q', e'⟩
    simp only [V, V1, Cs]
    exact ⟨_, _, addInc_here _ _ _ _, rfl, by simp, by simp, Nat.le_refl _, by simp⟩
  · simp only [Option.some.injEq, Prod.mk.injEq] at hd
    obtain ⟨rfl, rfl⟩ := hd
    obtain ⟨q', e'⟩ := q.fresh (.cells c.toArray e)
    refine ⟨_, ?_, q', e'⟩
    simp only [V, V1, Cs]
    refine ⟨w.heap.size, 0, none, _, rfl, Nat.le_refl _, fun _ => rfl, RowM.rowI ?_ (fun j _ => .inr rfl), fun _ => rfl⟩
    have hle : Le g w' (g.addImm fun b _ => b = w.heap.size) w' := ⟨fun _ _ _ x => x, fun _ _ x => Or.inl x, fun _ _ _ => rfl⟩
    exact RowM.keep hle _ _ _ _ (fun _ _ => rfl) hrow

theorem op_bsl (q : Hq g w h) (hs : SlotsOk g w s a) {t : TypeId} {n : Nat} {ps : Array (Nat × Operand)} (ho : o.op = .buildSlice t n ps) (hd : digOp P m (.buildSlice t n ps) = some ro) (hr : ro.run call s h = some (d, h')) : OpOut P g w h a o d h' := by
  have he : execOp a.eval o = (do pure (.value (← Instr.buildSlice t n (ps.map fun (i, x) => (i, a.eval x))))) := by unfold execOp; rw [ho]
  simp only [digOp] at hd
  split at hd
  · rename_i e hu
    split at hd
    · rename_i k z qs hk hz hp
      split at hd
      · rename_i hc
        obtain ⟨hk0, hlim, hzs⟩ := hc
        injection hd with hd; subst hd
        simp only [RO.run] at hr
        split at hr
        · rename_i xs hf
          obtain ⟨v, i, hi, hv, hV⟩ := zeroOf_sound hz
          obtain ⟨zc, hzc, hcells⟩ := (hV g w).cells
          have hzl : zc.length = k := by rw [Cs.size _ _ hzc, hzs]
          have hzr := run_zeroValue (P := P) (w := w) hi hv
          have hpo := partsOk_of (fun x y hx => opd_sound hs hx) ps.toList qs hp
          rw [List.length_replicate] at hf
          -- the cells ahead of the parts
          let cells : Array Value := (Array.range (n * k)).map (fun i => zc.toArray[i % zc.toArray.size]!)
          have hcl : cells.toList = (List.replicate n zc).flatten := by
            have := rep_cells zc.toArray n
            simp only [List.size_toArray, hzl] at this
            simpa [cells, hzl] using this
          have hag : AggCs g w (List.replicate n k) (List.replicate n z) cells.toList := by
            rw [hcl, ← hzl]; exact AggCs.rep hzc n
          obtain ⟨cs, h1, h2⟩ := fill_sound (g := g) (w := w) (s := s) (szs := List.replicate n k) (fun i => some (i * k, k)) (fun i n' hin => by
            have hil : i < n := by have := (List.getElem?_eq_some_iff.1 hin).1; simpa using this
            rw [List.getElem?_replicate, if_pos hil] at hin
            injection hin with hin
            rw [List.take_replicate, sumN_rep, Nat.min_eq_left (by omega), ← hin]) qs _ (List.replicate n z) xs cells hag (by rw [← parts_toList] at hpo; exact hpo) hf
          have hxl : xs.length = n := by have := h2.lens; simpa using this.symm
          obtain ⟨g', hv', q', e'⟩ := row_new (e := e) q hk0 (by rw [hxl]; exact h2) m hr
          refine OpOut.of he ⟨_, _, g', ?_, hv', q', e'⟩
          have hcells' : ((Array.range (n * k)).map (fun i => (if n * k = 0 then (#[] : Array Value) else v.cells)[i % (if n * k = 0 then (#[] : Array Value) else v.cells).size]!)) = cells := by
            by_cases h0 : n * k = 0
            · simp [cells, h0]
            · simp only [if_neg h0, hcells, cells]
          unfold Instr.buildSlice
          simp only [Sem.run_bind, run_underlying hu, Result.andThen_ok, run_sizeOf hk]
          rw [if_neg (by omega)]
          by_cases h0 : n * k = 0
          · simp only [h0, if_true, if_pos, Sem.run_bind, Sem.run_pure, Result.andThen_ok] at hcells' ⊢
            rw [hcells', h1]
            simp [newRow, hxl]
          · simp only [if_neg h0, Sem.run_bind, hzr, Result.andThen_ok, Sem.run_pure] at hcells' ⊢
            rw [hcells', h1]
            simp [newRow, hxl]
        · cases hr
      · cases hd
    · cases hd
  · cases hd

theorem V_int {k : IntKind} {n : Int} {v : Value} (h : V g w (.lit (.int k n)) v) : v = .int k n := (V_lit.1 h).1
theorem V_str {b : ByteArray} {v : Value} (h : V g w (.lit (.string b)) v) : v = .string b := (V_lit.1 h).1
theorem natOf_sound {x : D} {n : Nat} {v : Value} (h : natOf x = some n) (hv : V g w x v) : ∃ k, v = .int k (n : Int) := by
  unfold natOf at h
  split at h
  · rename_i k i
    split at h
    · rename_i hi
      injection h with h; subst h
      exact ⟨k, by rw [V_int hv]; congr 1; omega⟩
    · cases h
  · cases h

theorem op_fa (q : Hq g w h) (hs : SlotsOk g w s a) {t : TypeId} {x : Operand} {i : Nat} (ho : o.op = .fieldAddr t x i) (hd : digOp P m (.fieldAddr t x i) = some ro) (hr : ro.run call s h = some (d, h')) : OpOut P g w h a o d h' := by
  have he : execOp a.eval o = (do pure (.value (← Instr.fieldAt t (a.eval x) i))) := by unfold execOp; rw [ho]
  simp only [digOp] at hd
  split at hd
  · rename_i szs y hz hx
    split at hd
    · rename_i hi
      injection hd with hd; subst hd
      have hv := opd_sound hs hx
      obtain ⟨fs, hu, hlen, hst, hpos, hoff⟩ := szsOf_sound hz
      have hif : i < fs.size := by omega
      obtain ⟨e1, n, e2, e3⟩ := hoff i fs[i] (by simp [hif])
      have hn : 0 < n := hpos n (List.mem_of_getElem? e2)
      have hrun : ∀ b off, (Instr.fieldAt t (.pointer (some ⟨b, off, none⟩)) i).run P w = .ok (.pointer (some ⟨b, off + sumN (szs.take i), none⟩)) w := by
        intro b off
        unfold Instr.fieldAt
        simp [run_underlying hu, hif, Instr.sureAddr, fieldPlace, run_sizeOf e3, show n ≠ 0 by omega, addr_add, e1]
      simp only [RO.run] at hr
      split at hr
      · rename_i szs' fl hy
        split at hr
        · rename_i hsz
          subst hsz
          split at hr
          · rename_i f hf
            simp only [Option.some.injEq, Prod.mk.injEq] at hr
            obtain ⟨rfl, rfl⟩ := hr
            rw [hy] at hv
            simp only [V, V1, Cs] at hv
            obtain ⟨b, off, c, hv, hc, hat, him⟩ := hv
            injection hv with hv
            obtain ⟨c1, c', c2, rfl, hl, hcf, hcz, _⟩ := AggCs.split hc hf
            refine OpOut.of he (Out.same q (v := .pointer (some ⟨b, off + sumN (szs'.take i), none⟩)) (by rw [hv]; exact hrun b off) ?_)
            simp only [V, V1, Cs]
            refine ⟨b, _, c', rfl, hcf, ?_, ?_⟩
            · rw [← hl]; exact At.sub hat
            · rw [← hl]; exact Im.sub him (by simp)
          · cases hr
        · cases hr
      · rename_i id ver off j p hy
        have hr2 : some (D.ptr id ver (off + sumN (szs.take i)) ((j :: p) ++ [i]), h) = some (d, h') := by
          rw [← hr, if_pos hi]
        simp only [Option.some.injEq, Prod.mk.injEq] at hr2
        obtain ⟨rfl, rfl⟩ := hr2
        rw [hy] at hv
        simp only [V, V1, Cs] at hv
        obtain ⟨k, hk, hv, hj⟩ := hv
        injection hv with hv
        refine OpOut.of he (Out.same q (v := .pointer (some ⟨k.blk, off + sumN (szs.take i), none⟩)) (by rw [hv]; exact hrun _ _) ?_)
        simp only [V, V1, Cs]
        exact ⟨k, hk, rfl, hj⟩
      · cases hr
    · cases hd
  · cases hd

theorem part_sound {t : TypeId} {n : Nat} {f : D} {c1 c' c2 : List Value} (hn : szOf P t = some n) (hc : Cs g w f c') (hl : c'.length = n) (hag : ∃ ag, aggT P t = some ag ∧ f.fits ag n = true) :
    ∃ v, (part t (c1 ++ c' ++ c2).toArray c1.length).run P w = .ok v w ∧ V g w f v := by
  obtain ⟨ag, ha, hf⟩ := hag
  unfold part
  simp only [Sem.run_bind, run_isAgg ha, Result.andThen_ok]
  cases ag with
  | true =>
    cases f with
    | agg szs fs =>
      simp only [if_true, Sem.run_bind, run_sizeOf hn, Result.andThen_ok, Sem.run_pure]
      subst hl
      refine ⟨_, rfl, c', ?_, hc⟩
      congr 1
      apply Array.ext'
      simp
    | _ => simp [D.fits] at hf
  | false =>
    have h1 : c'.length = 1 := by
      rw [Cs.size _ _ hc]
      cases f <;> simp [D.fits] at hf <;> rfl
    obtain ⟨v, rfl⟩ := List.length_eq_one_iff.1 h1
    refine ⟨v, by simp, ?_⟩
    cases f with
    | agg szs fs => simp [D.fits] at hf
    | tup l => simp [D.fits] at hf
    | _ => exact hc
end
end Go.Rex
