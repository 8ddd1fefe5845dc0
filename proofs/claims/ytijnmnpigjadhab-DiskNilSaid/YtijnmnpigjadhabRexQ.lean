import Derived.Test.YtijnmnpigjadhabRexP
/- Rex, part Q: appends, copies, clears. -/
set_option linter.unusedVariables false
set_option linter.unusedSimpArgs false
namespace Go.Rex
open Go.RowKit Go.Lib
section
variable {P : Program} {g : Gh} {w : World} {h h' : Hp} {s : List D} {a : Act} {call : CallF} {o : Oper} {d : D} {m : Bool} {ro : RO}

/-- What an append adds: its cells. -/
def AppArg (P : Program) (w : World) (i : TypeInfo) (z : Value) (u : TypeId) (x : Value) (n : Nat) (news : List Value) : Prop :=
  news.length = n * i.size ∧ (
    (∃ e A c, P.underlying u = some (.slice e) ∧ x = .slice A n c ∧ ((A = none ∧ news = []) ∨ ∃ b, A = some b ∧ ∀ j v, news[j]? = some v → w.cell? (b.add j) = some v)) ∨
    (∃ b : ByteArray, P.underlying u = some .string ∧ x = .string b ∧ b.size = n ∧ news = b.data.toList.map fun c => Value.int .u8 c.toNat) ∨
    (∃ k k', P.underlying u = some (.int k) ∧ x = .int k' (n : Int) ∧ news = (List.replicate n z.cells.toList).flatten ∧ n * i.bytes ≤ 140737488355328 ∧ n ≤ 140737488355328))

theorem zeroCells_toList (z : Array Value) (n : Nat) : Builtin.zeroCells z n = (List.replicate n z.toList).flatten.toArray := by
  apply Array.ext'
  rw [List.toList_toArray, ← rep_cells]
  rfl
theorem bytes_cells (b : ByteArray) : (b.extract 0 b.size).data.map (fun c : UInt8 => Value.int .u8 (c.toNat : Int)) = (b.data.toList.map fun c => Value.int .u8 c.toNat).toArray := by
  rw [ByteArray.extract_zero_size]
  apply Array.ext'
  simp

/-- There is room. -/
theorem app_fit {t u ty e : TypeId} {i : TypeInfo} {z : Value} (ht : P.underlying t = some (.slice e)) (hi : P.info? e = some i) (hz : i.zero = some z) {x : Value} {n : Nat} {news : List Value} (hx : AppArg P w i z u x n news)
    {A : Option Addr} {len cap : Nat} (hroom : len + n ≤ cap) {w' : World} (hst : (match A with | some a => storeCells (a.add (len * i.size)) news | none => (pure () : Sem Unit)).run P w = .ok () w') :
    (Builtin.append_ #[t, u] ty #[.slice A len cap, x]).run P w = .ok (.slice A (len + n) cap) w' := by
  obtain ⟨hl, hx⟩ := hx
  rcases hx with ⟨e', B, c, hu, rfl, hB⟩ | ⟨b, hu, rfl, rfl, rfl⟩ | ⟨k, k', hu, rfl, rfl, hb, hn⟩
  · have hf : (Builtin.firstCells i.size n (.slice B n c)).run P w = .ok news.toArray w := by
      rcases hB with ⟨rfl, rfl⟩ | ⟨b, rfl, hB⟩
      · exact run_firstCells_none w _ _ _ _
      · exact run_firstCells_some w _ _ b n c news hl hB
    cases A with
    | none => simp [Builtin.append_, run_underlying ht, run_underlying hu, sizeOf, typeInfo, hi, Builtin.lenOf, hroom, hf] at hst ⊢; exact hst
    | some A => simp [Builtin.append_, run_underlying ht, run_underlying hu, sizeOf, typeInfo, hi, Builtin.lenOf, hroom, hf, hst]
  · have hf : (Builtin.firstCells i.size b.size (.string b)).run P w = .ok (b.data.toList.map fun c => Value.int .u8 c.toNat).toArray w := by
      simp only [Builtin.firstCells, bytes_cells, Sem.run_pure]
    cases A with
    | none => simp [Builtin.append_, run_underlying ht, run_underlying hu, sizeOf, typeInfo, hi, Builtin.lenOf, hroom, hf] at hst ⊢; exact hst
    | some A => simp only [Builtin.append_, Builtin.lenOf]; simp [run_underlying ht, run_underlying hu, sizeOf, typeInfo, hi, hroom]; rw [hf]; simp [hst]
  · have wn : IntKind.i64.wrap (n : Int) = n := by rw [IntKind.wrap_i64]; omega
    have n1 : ¬ ((n : Int) < 0) := by omega
    have n2 : ¬ (281474976710656 < (n : Int) * (i.bytes : Int)) := by
      have h3 : ((n * i.bytes : Nat) : Int) ≤ 281474976710656 := by omega
      rw [Int.natCast_mul] at h3; omega
    by_cases h0 : n * i.size = 0
    · have hnil := List.eq_nil_of_length_eq_zero (hl.trans h0)
      cases A with
      | none =>
        simp only [Sem.run_pure] at hst; cases hst
        simp only [Builtin.append_]
        simp [run_underlying ht, run_underlying hu, sizeOf, typeInfo, hi, asInt, asIntOf, wn, n1, n2, hroom]
        simp [h0]
      | some A =>
        simp only [hnil] at hst
        simp only [Builtin.append_]
        simp [run_underlying ht, run_underlying hu, sizeOf, typeInfo, hi, asInt, asIntOf, wn, n1, n2, hroom]
        simp [h0, hst]
    · cases A with
      | none =>
        simp only [Sem.run_pure] at hst; cases hst
        simp only [Builtin.append_]
        simp [run_underlying ht, run_underlying hu, sizeOf, typeInfo, hi, asInt, asIntOf, wn, n1, n2, hroom]
        simp [h0, zeroValue, typeInfo, hi, hz]
      | some A =>
        simp only [Builtin.append_]
        simp [run_underlying ht, run_underlying hu, sizeOf, typeInfo, hi, asInt, asIntOf, wn, n1, n2, hroom]
        simp [h0, zeroValue, typeInfo, hi, hz, zeroCells_toList, hst]
/-- There is none: a new row. -/
theorem app_grow {t u ty e : TypeId} {i : TypeInfo} {z : Value} (ht : P.underlying t = some (.slice e)) (hi : P.info? e = some i) (hz : i.zero = some z) (hb0 : 0 < i.bytes) {x : Value} {n : Nat} {news : List Value} (hx : AppArg P w i z u x n news)
    {A : Option Addr} {len cap : Nat} {olds : List Value} (hlo : olds.length = len * i.size) (hA : (A = none ∧ olds = []) ∨ ∃ b, A = some b ∧ ∀ j v, olds[j]? = some v → w.cell? (b.add j) = some v)
    (hg : cap < len + n) (hlim : (len + n) * i.bytes ≤ 140737488355328) :
    (Builtin.append_ #[t, u] ty #[.slice A len cap, x]).run P w = .ok (.slice (some ⟨w.heap.size, 0, none⟩) (len + n) (grownCap w (len + n) cap e))
      (w.drew.alloc (.cells (olds ++ news ++ (List.replicate (grownCap w (len + n) cap e - (len + n)) z.cells.toList).flatten).toArray e)) := by
  obtain ⟨hl, hx⟩ := hx
  have hn : ¬ (len + n ≤ cap) := by omega
  have h63 : len + n ≤ 140737488355328 := by
    have : (len + n) * 1 ≤ (len + n) * i.bytes := Nat.mul_le_mul_left _ hb0
    omega
  have h63' : ¬ (9223372036854775807 < ((len : Int) + (n : Int))) := by omega
  have h48' : ¬ (281474976710656 < Builtin.nextslicecap (len + n) cap * i.bytes) := by
    have := growslice_fits hg hlim; omega
  have hfo : (Builtin.firstCells i.size len (.slice A len cap)).run P w.drew = .ok olds.toArray w.drew := by
    rcases hA with ⟨rfl, rfl⟩ | ⟨b, rfl, hA⟩
    · exact run_firstCells_none _ _ _ _ _
    · exact run_firstCells_some _ _ _ b len cap olds hlo (by simpa using hA)
  have fin : ∀ (w' : World) (X Y Z : List Value), (Sem.run P (newRow e (X.toArray ++ Y.toArray ++ Z.toArray)) w' : Result Addr) = .ok ⟨w'.heap.size, 0, none⟩ (w'.alloc (.cells (X ++ Y ++ Z).toArray e)) := by
    intro w' X Y Z
    simp [newRow]
  rcases hx with ⟨e', B, c, hu, rfl, hB⟩ | ⟨b, hu, rfl, rfl, rfl⟩ | ⟨k, k', hu, rfl, rfl, hb, hn2⟩
  · have hf : (Builtin.firstCells i.size n (.slice B n c)).run P w.drew = .ok news.toArray w.drew := by
      rcases hB with ⟨rfl, rfl⟩ | ⟨b, rfl, hB⟩
      · exact run_firstCells_none _ _ _ _ _
      · exact run_firstCells_some _ _ _ b n c news hl (by simpa using hB)
    simp [Builtin.append_, run_underlying ht, run_underlying hu, sizeOf, typeInfo, zeroValue, hi, hz, Builtin.lenOf, hn, h63', h48', Question.forced, hf, hfo, newRow, grownCap, zeroCells_toList]
  · have hf : (Builtin.firstCells i.size b.size (.string b)).run P w.drew = .ok (b.data.toList.map fun c => Value.int .u8 c.toNat).toArray w.drew := by
      simp only [Builtin.firstCells, bytes_cells, Sem.run_pure]
    simp only [Builtin.append_, Builtin.lenOf]
    simp [run_underlying ht, run_underlying hu, sizeOf, typeInfo, zeroValue, hi, hz, hn, h63', h48', Question.forced, hfo]
    rw [hf]
    simp [newRow, grownCap, zeroCells_toList]
  · have wn : IntKind.i64.wrap (n : Int) = n := by rw [IntKind.wrap_i64]; omega
    have n1 : ¬ ((n : Int) < 0) := by omega
    have n2 : ¬ (281474976710656 < (n : Int) * (i.bytes : Int)) := by
      have h3 : ((n * i.bytes : Nat) : Int) ≤ 281474976710656 := by omega
      rw [Int.natCast_mul] at h3; omega
    simp only [Builtin.append_]
    simp [run_underlying ht, run_underlying hu, sizeOf, typeInfo, hi, asInt, asIntOf, wn, n1, n2, hn, h63', h48', Question.forced, hfo]
    by_cases h0 : n * i.size = 0
    · have hnil := List.eq_nil_of_length_eq_zero (hl.trans h0)
      rw [hnil]
      simp [h0, zeroValue, typeInfo, hi, hz, newRow, grownCap, zeroCells_toList]
    · simp [h0, zeroValue, typeInfo, hi, hz, newRow, grownCap, zeroCells_toList]
end
end Go.Rex
