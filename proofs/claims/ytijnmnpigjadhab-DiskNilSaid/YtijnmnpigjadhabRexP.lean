import Derived.Test.YtijnmnpigjadhabRexO
import Derived.Laws.MakeOwn
/- Rex, part P: texts and bytes, new rows, rows written over. -/
set_option linter.unusedVariables false
set_option linter.unusedSimpArgs false
namespace Go.Rex
open Go.RowKit Go.Lib
section
variable {P : Program} {g : Gh} {w : World} {h h' : Hp} {s : List D} {a : Act} {call : CallF} {o : Oper} {d : D} {m : Bool} {ro : RO}

theorem bytesOfD_sound : ∀ {l : List D} {bs : List UInt8}, bytesOfD l = some bs → ∃ ns : List Int, ns.length = l.length ∧ bs = ns.map (fun n => UInt8.ofNat n.toNat) ∧ l = ns.map fun n => .lit (.int .u8 n)
  | [], bs, h => by simp only [bytesOfD, Option.some.injEq] at h; subst h; exact ⟨[], rfl, rfl, rfl⟩
  | d :: l, bs, h => by
    unfold bytesOfD at h
    split at h
    · rename_i e; cases e
    · rename_i n r e
      injection e with e1 e2; subst e1 e2
      split at h
      · rename_i l' hl
        injection h with h; subst h
        obtain ⟨ns, h1, h2, h3⟩ := bytesOfD_sound hl
        exact ⟨n :: ns, by simp [h1], by simp [h2], by simp [h3]⟩
      · cases h
    · cases h
theorem RowM.ints {b : Nat} {k : IntKind} : ∀ {ns : List Int} {o' : Nat}, RowM g w b 1 o' (ns.map fun n => .lit (.int k n)) → ∀ i, i < ns.length → w.cell? ⟨b, o' + i, none⟩ = some (.int k (ns.getD i 0))
  | n :: ns, o', ⟨⟨c, h1, h2, h3⟩, hr⟩, i, hi => by
    cases i with
    | zero =>
      have := h3 0 (.int k n) (by rw [h1.1]; rfl)
      simpa using this
    | succ i =>
      have := RowM.ints hr i (by simpa using hi)
      rw [show o' + (i + 1) = o' + 1 + i by omega, this]
      simp
  | [], _, _, i, hi => by simp at hi

theorem op_b2s (q : Hq g w h) (hs : SlotsOk g w s a) {t u e : TypeId} {x : Operand} {y : Opd} (ho : o.op = .convert t u x) (ht : P.underlying t = some (.slice e)) (hu : P.underlying u = some .string) (he8 : P.underlying e = some (.int .u8)) (hx : digOpd x = some y) (hr : RO.run call s h (.b2s y) = some (d, h')) : OpOut P g w h a o d h' := by
  have he : execOp a.eval o = (do pure (.value (← convert t u (a.eval x)))) := by unfold execOp; rw [ho]
  have h1 := opd_sound hs hx
  simp only [RO.run] at hr
  split at hr
  · rename_i l hl
    split at hr
    · rename_i bs hbs
      simp only [Option.some.injEq, Prod.mk.injEq] at hr
      obtain ⟨rfl, rfl⟩ := hr
      obtain ⟨ns, hn, rfl, rfl⟩ := bytesOfD_sound hbs
      obtain ⟨⟨A, cap, hv, _, hA⟩⟩ := elemsOf_sound q hl h1
      refine OpOut.of he (Out.same q (v := .string ⟨(ns.map fun n => UInt8.ofNat n.toNat).toArray⟩) ?_ (V.lit rfl))
      rw [hv]
      rcases hA with hA | ⟨b, o', rfl, hrow⟩
      · have : ns = [] := by simpa using hA
        subst this
        cases A with
        | none => exact run_convert_bytes_nil w t e ht he8 _ _ u hu
        | some A =>
          rw [run_convert_bytes_string w t u e _ _ cap ht he8 hu]
          simp [Conv.bytesToString, loadCells]
          rfl
      · rw [List.length_map]
        exact run_convert_bytes_arg w t e ht he8 b o' ns.length cap ns rfl (RowM.ints hrow) u hu
    · cases hr
  · cases hr

theorem bytesCs (b : ByteArray) : AggCs g w (List.replicate (bytesD b).length 1) (bytesD b) (b.data.toList.map fun c => Value.int .u8 c.toNat) := by
  unfold bytesD
  induction b.data.toList with
  | nil => rfl
  | cons c l ih => exact ⟨[.int .u8 c.toNat], _, rfl, ⟨rfl, rfl⟩, rfl, by simpa using ih⟩
theorem bytesD_length (b : ByteArray) : (bytesD b).length = b.size := by simp [bytesD]

theorem op_s2b (q : Hq g w h) (hs : SlotsOk g w s a) {t u e : TypeId} {x : Operand} {y : Opd} (ho : o.op = .convert t u x) (ht : P.underlying t = some .string) (hu : P.underlying u = some (.slice e)) (he8 : P.underlying e = some (.int .u8)) (hx : digOpd x = some y) (hr : RO.run call s h (.s2b m y) = some (d, h')) : OpOut P g w h a o d h' := by
  have he : execOp a.eval o = (do pure (.value (← convert t u (a.eval x)))) := by unfold execOp; rw [ho]
  have h1 := opd_sound hs hx
  simp only [RO.run] at hr
  split at hr
  · rename_i b hb
    rw [hb] at h1
    have h1 := V_str h1
    have hrun := run_convert_string_bytes (P := P) w t u e b ht hu he8
    rw [← h1] at hrun
    have hbl : Below w.heap.size w (bytesWorld w e b) := by
      refine ⟨?_, ?_, ?_, by rw [bytesWorld_size]; omega, fun k hk => bytesWorld_at_old w e b k hk⟩ <;> (unfold bytesWorld World.freeze; split <;> rfl)
    have hcs : (bytesCells w e b).size = grownCap w b.size 0 e := by
      have := grownCap_ge w b.size 0 e
      simp [bytesCells]; omega
    have hat : At (bytesWorld w e b) w.heap.size 0 (b.data.toList.map fun c => Value.int .u8 c.toNat) := by
      intro j v hv
      have hj : j < b.size := by have := (List.getElem?_eq_some_iff.1 hv).1; simpa using this
      rw [Nat.zero_add, bytesWorld_cell w e b j hj, ← hv]
      simp [List.getD]
      have : j < b.data.toList.length := by simpa using hj
      simp [hj, this]
    have hl : Le g w g (bytesWorld w e b) := Le.of_below q.imm hbl
    have hrow := AggCs.row (bytesCs (g := g) (w := bytesWorld w e b) b) hat
    have hge := grownCap_ge w b.size 0 e
    cases m with
    | true =>
      simp only [if_true, Option.some.injEq, Prod.mk.injEq] at hr
      obtain ⟨rfl, rfl⟩ := hr
      obtain ⟨q', e'⟩ := q.make hbl w.heap.size (Nat.le_refl _) (by rw [bytesWorld_size]; omega) 1 (grownCap w b.size 0 e) (bytesD b) Nat.one_pos
        ⟨_, _, _, bytesWorld_at_new w e b, by rw [hcs]; omega, fun o ho => by rw [hcs]; simp only; omega⟩ (by rw [bytesD_length]; exact hge) hrow
      refine OpOut.of he ⟨_, _, _, hrun, ?_, q', e'⟩
      simp only [V, V1, Cs]
      exact ⟨_, _, addInc_here _ _ _ _, rfl, by rw [Nat.zero_mul], by simp [bytesD_length], hge, by simp⟩
    | false =>
      simp only [Bool.false_eq_true, if_false, Option.some.injEq, Prod.mk.injEq] at hr
      obtain ⟨rfl, rfl⟩ := hr
      obtain ⟨q', e'⟩ := q.grow hbl (fun b' _ => b' = w.heap.size) (fun b' o' hb' => by subst hb'; rw [bytesWorld_size]; omega)
      refine OpOut.of he ⟨_, _, _, hrun, ?_, q', e'⟩
      simp only [V, V1, Cs]
      refine ⟨w.heap.size, 0, none, _, by rw [bytesD_length], by rw [bytesD_length]; exact hge, (fun z => by cases z), RowM.rowI ?_ (fun j _ => .inr rfl), fun _ => rfl⟩
      have hle : Le g (bytesWorld w e b) (g.addImm fun b _ => b = w.heap.size) (bytesWorld w e b) := ⟨fun _ _ _ x => x, fun _ _ x => Or.inl x, fun _ _ _ => rfl⟩
      exact RowM.keep hle _ _ _ _ (fun _ _ => rfl) hrow
  · cases hr

theorem op_msl (q : Hq g w h) (hs : SlotsOk g w s a) {t e : TypeId} {es b : Nat} {z : D} {l c : Operand} {l' c' : Opd} (ho : o.op = .makeSlice t l c) (ht : P.underlying t = some (.slice e)) (hes : szOf P e = some es) (hb : bytesOf P e = some b) (hz : zeroOf P e = some z)
    (hl : digOpd l = some l') (hc : digOpd c = some c') (hpos : 0 < es ∧ 0 < b) (hr : RO.run call s h (.msl m es (140737488355328 / b) z l' c') = some (d, h')) : OpOut P g w h a o d h' := by
  have he : execOp a.eval o = (do pure (.value (← Instr.makeSlice t (a.eval l) (a.eval c)))) := by unfold execOp; rw [ho]
  have h1 := opd_sound hs hl
  have h2 := opd_sound hs hc
  simp only [RO.run] at hr
  split at hr
  · rename_i n k hn hk
    obtain ⟨kl, hvl⟩ := natOf_sound hn h1
    obtain ⟨kc, hvc⟩ := natOf_sound hk h2
    split at hr
    · rename_i hcnd
      obtain ⟨rfl, hlim, hzs⟩ := hcnd
      obtain ⟨v, i, hi, hzv, hV⟩ := zeroOf_sound hz
      obtain ⟨cz, hcz, hcells⟩ := (hV g w).cells
      have hisz : i.size = es := by simp [szOf, hi] at hes; exact hes
      have hib : i.bytes = b := by simp [bytesOf, hi] at hb; exact hb
      have hczl : cz.length = es := by rw [Cs.size _ _ hcz, hzs]
      have hbn : b * n ≤ 140737488355328 := by rw [Nat.mul_comm]; exact (Nat.le_div_iff_mul_le hpos.2).1 hlim
      have hn63 : n ≤ 140737488355328 := by
        have : 1 * n ≤ b * n := Nat.mul_le_mul_right _ hpos.2
        omega
      have hbi : (i.bytes : Int) * (n : Int) ≤ 281474976710656 := by
        rw [hib]
        have h3 : ((b * n : Nat) : Int) ≤ 281474976710656 := by omega
        rwa [Int.natCast_mul] at h3
      have hrun := run_make (P := P) w t e i v ht hi hzv kl kc (n : Int) (n : Int) (by omega) (Int.le_refl _) hbi (by omega)
      rw [← hvl, ← hvc] at hrun
      have hmc : (madeCells v.cells ((n : Int).toNat * i.size)).toList = (List.replicate n cz).flatten := by
        have := rep_cells v.cells n
        unfold madeCells
        rw [Int.toNat_natCast, hisz, ← hczl]
        rw [hcells] at this ⊢
        simpa using this
      have hagg := AggCs.rep hcz n
      rw [hczl] at hagg
      have key : ∀ (xs : List D), xs = List.replicate n z → (if m then some (D.mo es h.length 0 0 xs.length false, newOb h es xs) else some (D.sl es xs true, h)) = some (d, h') → OpOut P g w h a o d h' := by
        intro xs hxs hd
        have hxl : xs.length = n := by rw [hxs]; simp
        obtain ⟨g', hv', q', e'⟩ := row_new (e := e) q hpos.1 (xs := xs) (by rw [hxl, hxs]; exact hagg) m hd
        refine OpOut.of he ⟨_, _, g', ?_, hv', q', e'⟩
        rw [hrun]
        simp only [Int.toNat_natCast, hxl]
        simp only [Int.toNat_natCast] at hmc
        rw [← hmc]
        rfl
      refine key _ rfl ?_
      rw [List.length_replicate]
      exact hr
    · cases hr
  · cases hr

/-! ### Elements written over -/
theorem RowM.splice {w' : World} (hl : Le g w g w') {b es : Nat} {xs ys : List D} {off : Nat} {c : List Value} (hr : RowM g w b es 0 xs) (hoff : off + ys.length ≤ xs.length) (hc : AggCs g w (List.replicate ys.length es) ys c)
    (ha : At w' b (off * es) c) (hout : ∀ p, ¬ (off * es ≤ p ∧ p < (off + ys.length) * es) → w'.cell? ⟨b, p, none⟩ = w.cell? ⟨b, p, none⟩) : RowM g w' b es 0 (xs.take off ++ ys ++ xs.drop (off + ys.length)) := by
  have h1 : (xs.take off).length = off := by simp; omega
  rw [List.append_assoc]
  refine RowM.append (RowM.keep hl _ _ _ _ (fun j hj => hout _ (by rw [h1] at hj; omega)) (hr.take off)) ?_
  rw [h1, Nat.zero_add]
  refine RowM.append (AggCs.row (AggCs.le hl _ _ _ hc) ha) ?_
  have := hr.drop (off + ys.length)
  rw [Nat.zero_add, Nat.add_mul] at this
  refine RowM.keep hl _ _ _ _ (fun j hj => hout _ (fun hc => ?_)) this
  have := hc.2
  rw [Nat.add_mul] at this
  omega
theorem over_sound (q : Hq g w h) {es : Nat} (hes : 0 < es) {x : D} {ys : List D} {A : Option Addr} {len cap : Nat} {news : List Value} (hd : overD h es x ys = some h') (hv : V g w x (.slice A len cap))
    (hn : AggCs g w (List.replicate ys.length es) ys news) : ∃ w', (match A with | some a => storeCells a news | none => (pure () : Sem Unit)).run P w = .ok () w' ∧ Hq g w' h' ∧ Ext g w h g w' h' := by
  have hnl := AggCs.size _ _ _ hn
  rw [sumN_rep] at hnl
  unfold overD at hd
  split at hd
  · rename_i he
    have he := List.isEmpty_iff.1 he
    subst he
    injection hd with hd; subst hd
    have : news = [] := List.eq_nil_of_length_eq_zero (by simpa using hnl)
    subst this
    exact ⟨w, by cases A <;> simp [storeCells], q, Ext.refl _ _ _⟩
  · split at hd
    · rename_i e id ver off ln tg
      simp only [V, V1, Cs] at hv
      obtain ⟨i, cap', hi, hie, hv, hlen, hcap, _⟩ := hv
      injection hv with hv; injection hv with h1 h2 h3; subst h1 h2 h3
      split at hd
      · rename_i ob hob
        split at hd
        · rename_i hc
          obtain ⟨rfl, hes', rfl, hfz, hyl, hol⟩ := hc
          injection hd with hd; subst hd
          have k := q.obs id ob i hob hi
          obtain ⟨k', hk', _, _, hrow⟩ := k.incs ob.ver k.mv (Nat.le_refl _)
          rw [hi] at hk'; injection hk' with hk'; subst hk'
          rw [List.take_of_length_le (by rw [k.n]; exact Nat.le_refl _), hes'] at hrow
          have hone := AggCs.one _ _ _ hn
          have hb1 : off * e + news.length ≤ i.cap * ob.es := by
            rw [hnl, ← Nat.add_mul, hes']
            exact Nat.mul_le_mul_right _ (by have := k.cap; have := k.n; omega)
          obtain ⟨r1, r2, r3⟩ := run_storeCells_ob (P := P) k (o := off * e) hb1 hone
          have hl : Le g w g (w.setCells i.blk (off * e) news) := r2.le (fun o' _ ho => k.free hfz o' (by omega))
          refine ⟨_, r1, q.over hob hi r2 hb1 hfz _ (by simp; omega) ?_⟩
          rw [hes']
          refine RowM.splice hl hrow (by omega) hn r3 (fun p hp => r2.cell p ?_)
          rwa [hnl, ← Nat.add_mul]
        · cases hd
      · cases hd
    · cases hd
end
end Go.Rex
