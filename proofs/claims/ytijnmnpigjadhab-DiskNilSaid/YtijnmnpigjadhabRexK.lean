import Derived.Test.YtijnmnpigjadhabRexJ
/- Rex, part K: more operations. -/
set_option linter.unusedVariables false
set_option linter.unusedSimpArgs false
namespace Go.Rex
open Go.RowKit
section
variable {P : Program} {g : Gh} {w : World} {h h' : Hp} {s : List D} {a : Act} {call : CallF} {o : Oper} {d : D} {m : Bool} {ro : RO}

theorem shapeOk_sound {t : TypeId} {szs : List Nat} (h : shapeOk P t szs = true) : szsOf P t = some szs ∨ ∃ n e k, P.underlying t = some (.array n e) ∧ szOf P e = some k ∧ szs = List.replicate n k := by
  unfold shapeOk at h
  rw [Bool.or_eq_true] at h
  rcases h with h | h
  · exact .inl (beq_iff_eq.1 h)
  · split at h
    · rename_i n e hu
      split at h
      · rename_i k hk
        exact .inr ⟨n, e, k, hu, hk, beq_iff_eq.1 h⟩
      · cases h
    · cases h
theorem run_mapM_sizes : ∀ (l : List Field) (z : List Nat), (∀ (i : Nat) (f : Field), l[i]? = some f → ∃ n, z[i]? = some n ∧ szOf P f.type = some n) →
    (l.mapM (m := Sem) fun f => do pure (f.offset, ← sizeOf f.type)).run P w = .ok (l.zipIdx.map fun x => (x.1.offset, z.getD x.2 0)) w := by
  intro l
  have gen : ∀ (l : List Field) (z : List Nat) (k : Nat), (∀ (i : Nat) (f : Field), l[i]? = some f → ∃ n, z[k + i]? = some n ∧ szOf P f.type = some n) →
      (l.mapM (m := Sem) fun f => do pure (f.offset, ← sizeOf f.type)).run P w = .ok ((l.zipIdx k).map fun x => (x.1.offset, z.getD x.2 0)) w := by
    intro l
    induction l with
    | nil => intro z k _; simp
    | cons x l ih =>
      intro z k hz
      obtain ⟨n, hn, hs⟩ := hz 0 x (by simp)
      have := ih z (k + 1) (fun i f hf => by
        obtain ⟨n, h1, h2⟩ := hz (i + 1) f (by simpa using hf)
        exact ⟨n, by rw [← h1]; congr 1; omega, h2⟩)
      simp only [List.mapM_cons, Sem.run_bind, run_sizeOf hs, Result.andThen_ok, Sem.run_pure, this, List.zipIdx_cons, List.map_cons]
      rw [Nat.add_zero] at hn
      simp [hn]
  intro z hz
  exact gen l z 0 (by simpa using hz)

theorem parts_toList (ps : Array (Nat × Operand)) (ρ : Operand → Value) : (ps.map fun (i, x) => (i, ρ x)).toList = ps.toList.map fun p => (p.1, ρ p.2) := by simp

theorem op_build (q : Hq g w h) (hs : SlotsOk g w s a) {t : TypeId} {ps : Array (Nat × Operand)} (ho : o.op = .build t ps) (hd : digOp P m (.build t ps) = some ro) (hr : ro.run call s h = some (d, h')) : OpOut P g w h a o d h' := by
  have he : execOp a.eval o = (do pure (.value (← Instr.build t (ps.map fun (i, x) => (i, a.eval x))))) := by unfold execOp; rw [ho]
  simp only [digOp] at hd
  split at hd
  · rename_i szs z qs hz hp
    split at hd
    · rename_i hsh
      replace hsh := shapeOk_sound hsh
      injection hd with hd; subst hd
      simp only [RO.run] at hr
      split at hr
      · rename_i fs hf
        simp only [Option.some.injEq, Prod.mk.injEq] at hr
        obtain ⟨rfl, rfl⟩ := hr
        obtain ⟨v, i, hi, hv, hV⟩ := zeroOf_sound hz
        obtain ⟨c, rfl, hc⟩ := hV g w
        have hpo := partsOk_of (fun x y hx => opd_sound hs hx) ps.toList qs hp
        refine OpOut.of he ?_
        have hzr := run_zeroValue (P := P) (w := w) hi hv
        rcases hsh with hsh | hsh
        · obtain ⟨fl, hu, hl, hsz, _, hoff⟩ := szsOf_sound hsh
          have hmm := run_mapM_sizes (P := P) (w := w) fl.toList szs (fun i f hf => (hoff i f (by simpa using hf)).2)
          obtain ⟨cs, h1, h2⟩ := fill_sound (g := g) (w := w) (s := s) (szs := szs) (fun i => (fl.toList.zipIdx.map fun x => (x.1.offset, szs.getD x.2 0)).toArray[i]?) (fun i n hin => by
            have hil : i < szs.length := (List.getElem?_eq_some_iff.1 hin).1
            have hif : i < fl.size := by omega
            obtain ⟨e1, n', e2, e3⟩ := hoff i fl[i] (by simp [hif])
            rw [hin] at e2; injection e2 with e2; subst e2
            simp [hif, e1, hin]) qs _ z fs c.toArray hc (by rw [← parts_toList] at hpo; exact hpo) hf
          refine Out.same q (v := .agg cs) ?_ ⟨cs.toList, by simp, h2⟩
          unfold Instr.build
          simp only [Sem.run_bind, hzr, Result.andThen_ok, run_underlying hu, Value.cells]
          rw [Array.mapM_eq_mapM_toList]
          simp only [Sem.run_map, hmm, Result.andThen_ok, h1, Sem.run_pure]
        · obtain ⟨n, e, k, hu, hk, rfl⟩ := hsh
          obtain ⟨cs, h1, h2⟩ := fill_sound (g := g) (w := w) (s := s) (szs := List.replicate n k) (fun i => some (i * k, k)) (fun i n' hin => by
            have hil : i < n := by have := (List.getElem?_eq_some_iff.1 hin).1; simpa using this
            rw [List.getElem?_replicate, if_pos hil] at hin
            injection hin with hin
            rw [List.take_replicate, sumN_rep, Nat.min_eq_left (by omega), ← hin]) qs _ z fs c.toArray hc (by rw [← parts_toList] at hpo; exact hpo) hf
          refine Out.same q (v := .agg cs) ?_ ⟨cs.toList, by simp, h2⟩
          unfold Instr.build
          simp only [Sem.run_bind, hzr, Result.andThen_ok, run_underlying hu, Value.cells, run_sizeOf hk, h1, Sem.run_pure]
      · cases hr
    · cases hd
  · cases hd
end
end Go.Rex
