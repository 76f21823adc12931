/- What the program means: all folds of a sheet, and the best. No conditions. -/
import Derived.Test.YtdooejjnjfgnjaaInk32
set_option linter.unusedVariables false
set_option linter.unusedSimpArgs false
namespace Ink
open Go
def foldsD (a b : Nat) : List FoldM := (List.range a).map (fun (i : Nat) => (⟨(i : Int) + 1, false, 8⟩ : FoldM)) ++ (List.range b).map fun (i : Nat) => (⟨(i : Int) + 1, true, 8⟩ : FoldM)
theorem foldsD_zero : foldsD 0 0 = [] := rfl
theorem foldsD_a {a : Nat} : foldsD (a + 1) 0 = foldsD a 0 ++ [⟨(a : Int) + 1, false, 8⟩] := by
  unfold foldsD; rw [List.range_succ]; simp
theorem foldsD_b {a b : Nat} : foldsD a (b + 1) = foldsD a b ++ [⟨(b : Int) + 1, true, 8⟩] := by
  unfold foldsD; rw [List.range_succ (n := b)]; simp
theorem foldsD_len {a b : Nat} : (foldsD a b).length = a + b := by unfold foldsD; simp
theorem foldsD_map {a b : Nat} : ((foldsD a b).map foldD).length = a + b := by rw [List.length_map, foldsD_len]
theorem foldsD_take {a b : Nat} : ((foldsD a b).map foldD).take (a + b) = (foldsD a b).map foldD := by
  rw [← foldsD_map (a := a) (b := b), List.take_length]
abbrev foldsM (s : SheetM) : List FoldM := foldsD (s.w.toNat - 1) (s.h.toNat - 1)
theorem foldsM_ax {s : SheetM} (hv : validS s) {f : FoldM} (h : f ∈ foldsM s) : 1 ≤ f.axis ∧ f.axis ≤ 7 := by
  have := hv.1
  have := hv.2.1
  unfold foldsM foldsD at h
  rcases List.mem_append.1 h with h | h
  · obtain ⟨i, hi, rfl⟩ := List.mem_map.1 h
    have := List.mem_range.1 hi
    dsimp only; omega
  · obtain ⟨i, hi, rfl⟩ := List.mem_map.1 h
    have := List.mem_range.1 hi
    dsimp only; omega
noncomputable def bestTo (s : SheetM) (l : List FoldM) : Nat → FoldM × Int
  | 0 => (⟨0, false, 0⟩, -1)
  | i + 1 => match l[i]? with
    | some f => if (bestTo s l i).2 < 0 ∨ offM s f < (bestTo s l i).2 then (f, offM s f) else bestTo s l i
    | none => bestTo s l i
section
variable {s : SheetM} {l : List FoldM} {i : Nat} {f : FoldM}
theorem bestTo_zero : bestTo s l 0 = (⟨0, false, 0⟩, -1) := rfl
theorem bestTo_yes (h : l[i]? = some f) (h2 : (bestTo s l i).2 < 0 ∨ offM s f < (bestTo s l i).2) : bestTo s l (i + 1) = (f, offM s f) := by rw [bestTo, h]; exact if_pos h2
theorem bestTo_no (h : l[i]? = some f) (h2 : ¬ ((bestTo s l i).2 < 0 ∨ offM s f < (bestTo s l i).2)) : bestTo s l (i + 1) = bestTo s l i := by rw [bestTo, h]; exact if_neg h2
theorem offM_bd (hs : s.Ok) (hm : small s) : 0 ≤ offM s f ∧ offM s f ≤ 196605 * 64 := by
  have h1 := offTo_bd (l := pairsM s f) hs (i := (pairsM s f).length)
  have h2 : (pairsM s f).length ≤ s.w.toNat * s.h.toNat := pairsTo_len
  have h3 : s.w.toNat * s.h.toNat ≤ 8 * 8 := Nat.mul_le_mul (by omega) (by omega)
  unfold offM
  omega
theorem bestTo_nn (hs : s.Ok) (hm : small s) (hi : 1 ≤ i) (hl : i ≤ l.length) : 0 ≤ (bestTo s l i).2 := by
  induction i with
  | zero => omega
  | succ i ih =>
    obtain ⟨f, hf⟩ : ∃ f, l[i]? = some f := ⟨l[i], List.getElem?_eq_getElem (by omega)⟩
    have ho := (offM_bd (f := f) hs hm).1
    by_cases h2 : (bestTo s l i).2 < 0 ∨ offM s f < (bestTo s l i).2
    · rw [bestTo_yes hf h2]; exact ho
    · rw [bestTo_no hf h2]; omega
end
noncomputable abbrev bestA (s : SheetM) : FoldM × Int := bestTo s (foldsM s) (foldsM s).length
noncomputable def bestF (s : SheetM) : FoldM := if validS s ∧ 0 ≤ (bestA s).2 then (bestA s).1 else ⟨0, false, 0⟩
noncomputable def bestN (s : SheetM) : Int := if validS s ∧ 0 ≤ (bestA s).2 then (bestA s).2 else 0
noncomputable def bestC (s : SheetM) : Int := if validS s then (if 0 ≤ (bestA s).2 then 0 else 6) else 1
noncomputable def bestV (s : SheetM) : AV := .tup [.agg shFold (foldD (bestF s)), .int .i64 (bestN s), .int .i64 (bestC s)]
theorem bestV_bad {s} (h : ¬ validS s) : bestV s = .tup [.agg shFold (foldD ⟨0, false, 0⟩), .int .i64 0, .int .i64 1] := by simp [bestV, bestF, bestN, bestC, h]
theorem bestV_none {s} (h : validS s) (h2 : ¬ 0 ≤ (bestA s).2) : bestV s = .tup [.agg shFold (foldD ⟨0, false, 0⟩), .int .i64 0, .int .i64 6] := by
  simp only [bestV, bestF, bestN, bestC, h, h2, and_false, if_false, if_true]
theorem bestV_ok {s} (h : validS s) (h2 : 0 ≤ (bestA s).2) : bestV s = .tup [.agg shFold (foldD (bestA s).1), .int .i64 (bestA s).2, .int .i64 0] := by
  simp only [bestV, bestF, bestN, bestC, h, h2, and_self, if_true]
end Ink
