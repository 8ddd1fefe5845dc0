import Derived.Test.YtijnmnpigjadhabRexOp
import Derived.DataReads
import Derived.ChangeShapes
/- Rex, what a law is handed. -/
set_option linter.unusedVariables false
namespace Go.Rex

inductive Ty where
  | bool
  | int (k : IntKind)
  | str
  | sl (es : Nat) (e : Ty)
  | st (szs : List Nat) (fs : List Ty)
  | arr (n es : Nat) (e : Ty)
  deriving Inhabited
def offs (P : Program) : Nat → List Field → Option Nat
  | o, [] => some o
  | o, f :: r => if f.offset = o then offs P (o + P.cellsOf f.type) r else none
def tyOf (P : Program) : Nat → TypeId → Option Ty
  | 0, _ => none
  | n + 1, t =>
    match P.underlying t with
    | some .bool => some .bool
    | some (.int k) => some (.int k)
    | some .string => some .str
    | some (.slice e) => match tyOf P n e with
      | some T => if 0 < P.cellsOf e then some (.sl (P.cellsOf e) T) else none
      | none => none
    | some (.struct fs) => match optL (fun f => tyOf P n f.type) fs.toList with
      | some l => if offs P 0 fs.toList = some (P.cellsOf t) then some (.st (fs.toList.map fun f => P.cellsOf f.type) l) else none
      | none => none
    | some (.array m e) => match tyOf P n e with
      | some T => if P.cellsOf t = m * P.cellsOf e then some (.arr m (P.cellsOf e) T) else none
      | none => none
    | _ => none
mutual
/-- What a datum of a type looks like, as it comes in. -/
def Shp : Ty → D → Prop
  | .bool, d => ∃ b, d = .lit (.bool b)
  | .int k, d => ∃ n, d = .lit (.int k n) ∧ (Lit.int k n).wf = true
  | .str, d => ∃ l, d = S l ∧ l.length ≤ maxLen
  | .sl es e, d => ∃ nl xs, d = slD es nl false xs ∧ xs.length ≤ maxLen ∧ ∀ x ∈ xs, Shp e x
  | .st szs fs, d => ∃ ds, d = .agg szs ds ∧ ShpL fs ds
  | .arr n es e, d => ∃ ds, d = .agg (List.replicate n es) ds ∧ ds.length = n ∧ ∀ x ∈ ds, Shp e x
def ShpL : List Ty → List D → Prop
  | [], ds => ds = []
  | t :: ts, ds => ∃ d r, ds = d :: r ∧ Shp t d ∧ ShpL ts r
end

theorem list_of {α : Type} {n : Nat} {Q : Nat → α → Prop} (h : ∀ i, i < n → ∃ d, Q i d) : ∃ xs : List α, xs.length = n ∧ ∀ i d, xs[i]? = some d → Q i d := by
  induction n with
  | zero => exact ⟨[], rfl, fun i d h => by simp at h⟩
  | succ n ih =>
    obtain ⟨xs, h1, h2⟩ := ih (fun i hi => h i (by omega))
    obtain ⟨d, hd⟩ := h n (by omega)
    refine ⟨xs ++ [d], by simp [h1], fun i e he => ?_⟩
    by_cases hi : i < xs.length
    · rw [List.getElem?_append_left hi] at he; exact h2 i e he
    · rw [List.getElem?_append_right (by omega)] at he
      have hin : i - xs.length = 0 := by
        have := (List.getElem?_eq_some_iff.1 he).1; simp at this; omega
      rw [hin] at he; simp at he; subst he
      have : i = n := by omega
      subst this; exact hd
theorem rowI_of {g : Gh} {w : World} {b es : Nat} : ∀ (xs : List D) (o : Nat), (∀ i d, xs[i]? = some d → ∃ c, Cs g w d c ∧ c.length = es ∧ At w b (o + i * es) c ∧ Im g b (o + i * es) es) → RowI g w b es o xs
  | [], _, _ => trivial
  | x :: xs, o, h => by
    refine ⟨?_, rowI_of xs (o + es) (fun i d hd => ?_)⟩
    · have := h 0 x (by simp)
      simpa using this
    · have := h (i + 1) d (by simpa using hd)
      rwa [show o + (i + 1) * es = o + es + i * es by rw [Nat.succ_mul]; omega] at this
theorem aggCs_rep {g : Gh} {w : World} {es : Nat} : ∀ (ds : List D) (cs : List Value), cs.length = ds.length * es → (∀ i d, ds[i]? = some d → Cs g w d ((cs.drop (i * es)).take es)) → AggCs g w (List.replicate ds.length es) ds cs
  | [], cs, hl, _ => by
    have : cs = [] := List.eq_nil_of_length_eq_zero (by simpa using hl)
    subst this; rfl
  | d :: ds, cs, hl, h => by
    rw [List.length_cons, List.replicate_succ]
    refine ⟨cs.take es, cs.drop es, (List.take_append_drop _ _).symm, by simpa using h 0 d (by simp), ?_, aggCs_rep ds (cs.drop es) ?_ (fun i e he => ?_)⟩
    · rw [List.length_take]; rw [List.length_cons, Nat.succ_mul] at hl; omega
    · rw [List.length_drop]; rw [List.length_cons, Nat.succ_mul] at hl; omega
    · have := h (i + 1) e (by simpa using he)
      rw [List.drop_drop, show es + i * es = (i + 1) * es by rw [Nat.succ_mul]; omega]
      exact this

section
variable {H : Type} {enc : TypeId × Value → H} {P : Program} {w : World} {base : Nat} {spare : Nat → Bool} {held : Bool} {g : Gh}
theorem fields_D {n : Nat} {fuel : Nat} (ih : ∀ t T cs x, tyOf P n t = some T → DataW.trod enc P w base spare held fuel t cs = some x → ∃ d, Shp T d ∧ Cs g w d cs) :
    ∀ (fs : List Field) (l : List Ty) (o e : Nat) (cs : List Value) (xs : List (DataW H × List MemPlace)), optL (fun f => tyOf P n f.type) fs = some l → offs P o fs = some e → cs.length = e →
      fs.mapM (fun f => DataW.trod enc P w base spare held fuel f.type ((cs.drop f.offset).take (P.cellsOf f.type))) = some xs →
      o ≤ e ∧ ∃ ds, ShpL l ds ∧ AggCs g w (fs.map fun f => P.cellsOf f.type) ds (cs.drop o)
  | [], l, o, e, cs, xs, hl, ho, hc, hx => by
    simp only [optL, Option.some.injEq] at hl; subst hl
    simp only [offs, Option.some.injEq] at ho; subst ho
    exact ⟨Nat.le_refl _, [], rfl, by rw [List.drop_eq_nil_of_le (by omega)]; rfl⟩
  | f :: fs, l, o, e, cs, xs, hl, ho, hc, hx => by
    simp only [optL] at hl
    split at hl <;> (try contradiction)
    rename_i T r hT hr
    injection hl with hl; subst hl
    simp only [offs] at ho
    split at ho <;> (try contradiction)
    rename_i hfo
    rw [List.mapM_cons] at hx
    cases h1 : DataW.trod enc P w base spare held fuel f.type ((cs.drop f.offset).take (P.cellsOf f.type)) with
    | none => rw [h1] at hx; simp at hx
    | some y =>
      rw [h1] at hx
      cases h2 : fs.mapM (fun f => DataW.trod enc P w base spare held fuel f.type ((cs.drop f.offset).take (P.cellsOf f.type))) with
      | none => rw [h2] at hx; simp at hx
      | some ys =>
        obtain ⟨d, hd1, hd2⟩ := ih _ _ _ _ hT h1
        obtain ⟨hle, ds, hs1, hs2⟩ := fields_D ih fs r (o + P.cellsOf f.type) e cs ys hr ho hc h2
        refine ⟨by omega, d :: ds, ⟨d, ds, rfl, hd1, hs1⟩, ?_⟩
        rw [hfo] at hd2
        refine ⟨(cs.drop o).take (P.cellsOf f.type), (cs.drop o).drop (P.cellsOf f.type), (List.take_append_drop _ _).symm, hd2, ?_, ?_⟩
        · rw [List.length_take, List.length_drop]
          show min (P.cellsOf f.type) _ = P.cellsOf f.type
          omega
        · rw [List.drop_drop]; exact hs2
theorem mapM_range {α : Type} {f : Nat → Option α} {n : Nat} {xs : List α} (h : (List.range n).mapM f = some xs) (i : Nat) (hi : i < n) : ∃ x, f i = some x := by
  have hl := mapM_some_length h
  have := mapM_some_get h i i (by simp [hi])
  cases e : f i with
  | some x => exact ⟨x, rfl⟩
  | none =>
    rw [e] at this
    have := List.getElem?_eq_none_iff.1 this.symm
    simp at hl; omega
theorem trod_D (hg : ∀ b o v, w.cell? ⟨b, o, none⟩ = some v → g.imm b o) : ∀ (n : Nat) (fuel : Nat) (t : TypeId) (T : Ty) (cs : List Value) (x : DataW H × List MemPlace),
    tyOf P n t = some T → DataW.trod enc P w base spare held fuel t cs = some x → ∃ d, Shp T d ∧ Cs g w d cs
  | 0, _, _, _, _, _, h, _ => by simp [tyOf] at h
  | n + 1, 0, _, _, _, _, _, h => by simp [DataW.trod] at h
  | n + 1, fuel + 1, t, T, cs, x, ht, hx => by
    have ih := fun t T cs x => trod_D hg n fuel t T cs x
    simp only [tyOf] at ht
    split at ht
    · rename_i hu
      injection ht with ht; subst ht
      obtain ⟨b, h1, h2⟩ := DataW.trod_bool hu hx
      subst h1
      exact ⟨.lit (.bool b), ⟨b, rfl⟩, rfl, rfl⟩
    · rename_i k hu
      injection ht with ht; subst ht
      obtain ⟨m, h1, h2, h3⟩ := DataW.trod_int hu hx
      subst h1
      exact ⟨.lit (.int k m), ⟨m, rfl, h3⟩, rfl, rfl⟩
    · rename_i hu
      injection ht with ht; subst ht
      simp only [DataW.trod, hu] at hx
      split at hx <;> (try contradiction)
      all_goals (rename_i e1; try cases e1)
      rename_i s
      split at hx <;> (try contradiction)
      rename_i hs
      exact ⟨.lit (.string s), ⟨s.data.toList, rfl, by simpa using hs⟩, rfl, rfl⟩
    · rename_i e hu
      split at ht <;> (try contradiction)
      rename_i T' hT'
      split at ht <;> (try contradiction)
      rename_i hpos
      injection ht with ht; subst ht
      simp only [DataW.trod, hu] at hx
      split at hx <;> (try contradiction)
      all_goals (rename_i e1; try cases e1)
      · exact ⟨nilD, ⟨true, [], rfl, Nat.zero_le _, fun x h => by cases h⟩, rfl, rfl⟩
      · rename_i a len cap
        split at hx <;> (try contradiction)
        rename_i hc
        obtain ⟨hc1, hc2, hc3⟩ := hc
        cases hm : (List.range len).mapM fun i => (w.cells? base (a.add (i * P.cellsOf e)) (P.cellsOf e)).bind (DataW.trod enc P w base spare held fuel e) with
        | none => rw [hm] at hx; simp at hx
        | some elems =>
          have each : ∀ i, i < len → ∃ d, Shp T' d ∧ ∃ c, Cs g w d c ∧ w.cells? base (a.add (i * P.cellsOf e)) (P.cellsOf e) = some c := by
            intro i hi
            obtain ⟨y, hy⟩ := mapM_range hm i hi
            cases hcs : w.cells? base (a.add (i * P.cellsOf e)) (P.cellsOf e) with
            | none => rw [hcs] at hy; simp at hy
            | some c =>
              rw [hcs] at hy
              obtain ⟨d, h1, h2⟩ := ih _ _ _ _ hT' hy
              exact ⟨d, h1, c, h2, rfl⟩
          obtain ⟨xs, hxl, hxs⟩ := list_of each
          have hspot : xs ≠ [] → a.spot = none := by
            intro hne
            have hlen : 0 < len := by rw [← hxl]; exact List.length_pos_iff.2 hne
            obtain ⟨d, _, c, _, hc⟩ := each 0 hlen
            obtain ⟨_, hcl, hcc⟩ := World.cells?_some hc
            have := hcc 0 hpos
            rw [List.getElem?_eq_getElem (by omega)] at this
            simp only [Nat.zero_mul, Addr.add, if_true] at this
            unfold World.cell? at this
            split at this <;> (try contradiction)
            split at this <;> (try contradiction)
            rename_i hsp
            simpa using hsp
          refine ⟨slD (P.cellsOf e) false false xs, ⟨false, xs, rfl, by omega, fun d hd => ?_⟩, ?_⟩
          · obtain ⟨i, hi⟩ := List.getElem?_of_mem hd
            exact (hxs i d hi).1
          · show Cs g w (.sl (P.cellsOf e) xs false) _
            refine ⟨a.block, a.off, a.spot, cap, by rw [hxl], by omega, (fun z => by cases z), ?_, hspot⟩
            refine rowI_of xs a.off (fun i d hd => ?_)
            have hs := hspot (by intro hh; rw [hh] at hd; simp at hd)
            obtain ⟨_, c, h1, h2⟩ := hxs i d hd
            obtain ⟨_, hcl, hcc⟩ := World.cells?_some h2
            have hadd : ∀ j, (a.add (i * P.cellsOf e)).add j = ⟨a.block, a.off + i * P.cellsOf e + j, none⟩ := by
              intro j
              obtain ⟨b, o, sp⟩ := a
              simp only at hs; subst hs
              unfold Addr.add
              split <;> split <;> simp_all
            have hat : At w a.block (a.off + i * P.cellsOf e) c := by
              intro j v hv
              have hj : j < c.length := (List.getElem?_eq_some_iff.1 hv).1
              rw [← hadd j, hcc j (by omega)]; exact hv
            refine ⟨c, h1, hcl, hat, fun j hj => ?_⟩
            exact hg _ _ _ (hat j c[j] (by rw [List.getElem?_eq_getElem (by omega)]))
    · rename_i fs hu
      split at ht <;> (try contradiction)
      rename_i l hl
      split at ht <;> (try contradiction)
      rename_i ho
      injection ht with ht; subst ht
      simp only [DataW.trod, hu] at hx
      split at hx <;> (try contradiction)
      rename_i hcl
      cases hm : fs.toList.mapM (fun f => DataW.trod enc P w base spare held fuel f.type ((cs.drop f.offset).take (P.cellsOf f.type))) with
      | none => rw [hm] at hx; simp at hx
      | some xs =>
        obtain ⟨_, ds, h1, h2⟩ := fields_D (g := g) ih fs.toList l 0 _ cs xs hl ho hcl hm
        exact ⟨.agg _ ds, ⟨ds, rfl, h1⟩, h2⟩
    · rename_i m e hu
      split at ht <;> (try contradiction)
      rename_i T' hT'
      split at ht <;> (try contradiction)
      rename_i hsz
      injection ht with ht; subst ht
      simp only [DataW.trod, hu] at hx
      split at hx <;> (try contradiction)
      rename_i hcl
      cases hm : (List.range m).mapM (fun i => DataW.trod enc P w base spare held fuel e ((cs.drop (i * P.cellsOf e)).take (P.cellsOf e))) with
      | none => rw [hm] at hx; simp at hx
      | some elems =>
        have each : ∀ i, i < m → ∃ d, Shp T' d ∧ Cs g w d ((cs.drop (i * P.cellsOf e)).take (P.cellsOf e)) := by
          intro i hi
          obtain ⟨y, hy⟩ := mapM_range hm i hi
          exact ih _ _ _ _ hT' hy
        obtain ⟨xs, hxl, hxs⟩ := list_of each
        refine ⟨.agg (List.replicate m (P.cellsOf e)) xs, ⟨xs, rfl, hxl, fun d hd => ?_⟩, ?_⟩
        · obtain ⟨i, hi⟩ := List.getElem?_of_mem hd
          exact (hxs i d hi).1
        · have := aggCs_rep xs cs (by rw [hcl, hsz, hxl]) (fun i d hd => (hxs i d hd).2)
          rw [hxl] at this; exact this
    · cases ht
end
mutual
theorem shp_flat : ∀ (T : Ty) (d : D), Shp T d → d.flat = true ∧ d.isTup = false
  | .bool, d, h => by obtain ⟨b, rfl⟩ := h; exact ⟨rfl, rfl⟩
  | .int k, d, h => by obtain ⟨n, rfl, _⟩ := h; exact ⟨rfl, rfl⟩
  | .str, d, h => by obtain ⟨l, rfl, _⟩ := h; exact ⟨rfl, rfl⟩
  | .sl es e, d, h => by
    obtain ⟨nl, xs, rfl, _, hx⟩ := h
    exact ⟨flat_slD (flatL_all.2 fun x hm => (shp_flat e x (hx x hm)).1), tup_slD⟩
  | .st szs fs, d, h => by
    obtain ⟨ds, rfl, hd⟩ := h
    exact ⟨shpL_flat fs ds hd, rfl⟩
  | .arr n es e, d, h => by
    obtain ⟨ds, rfl, _, hx⟩ := h
    exact ⟨flatL_all.2 fun x hm => (shp_flat e x (hx x hm)).1, rfl⟩
theorem shpL_flat : ∀ (Ts : List Ty) (ds : List D), ShpL Ts ds → flatL ds = true
  | [], ds, h => by have h : ds = [] := h; subst h; rfl
  | t :: ts, ds, h => by
    obtain ⟨d, r, rfl, h1, h2⟩ := h
    rw [flatL_cons, (shp_flat t d h1).1, shpL_flat ts r h2]; rfl
end
end Go.Rex
