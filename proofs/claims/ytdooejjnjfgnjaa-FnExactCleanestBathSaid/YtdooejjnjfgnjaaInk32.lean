/- What the program means: by how much the cells of pairs differ. No conditions. -/
import Derived.Test.YtdooejjnjfgnjaaInk31
set_option linter.unusedVariables false
set_option linter.unusedSimpArgs false
namespace Ink
open Go
def sizeM (d : Int) : Int := maxM d (0 - d)
theorem mm_size {d : Int} : mm true d (0 - d) = sizeM d := by
  unfold mm sizeM maxM
  simp only [if_true]
  split <;> split <;> omega
theorem sizeM_nn {d : Int} : 0 ≤ sizeM d := by unfold sizeM maxM; split <;> omega
theorem sizeM_le {d : Int} (h : -65535 ≤ d ∧ d ≤ 65535) : sizeM d ≤ 65535 := by unfold sizeM maxM; split <;> omega
def diffK (f g : Nat → Int) (k : Nat) : Int := sizeM (f k - g k)
theorem diffK_bd {f g : Nat → Int} (hf : ∀ i, -32768 ≤ f i ∧ f i < 32768) (hg : ∀ i, -32768 ≤ g i ∧ g i < 32768) (k : Nat) : 0 ≤ diffK f g k ∧ diffK f g k ≤ 65535 := by
  have := hf k
  have := hg k
  exact ⟨sizeM_nn, sizeM_le (by omega)⟩
theorem diffTo_bd {f g : Nat → Int} (hf : ∀ i, -32768 ≤ f i ∧ f i < 32768) (hg : ∀ i, -32768 ≤ g i ∧ g i < 32768) {n : Nat} : 0 ≤ sumTo (diffK f g) n ∧ sumTo (diffK f g) n ≤ 65535 * (n : Int) := by
  have := sumTo_le (f := diffK f g) (n := n) (a := 0) (b := 65535) fun k _ => diffK_bd hf hg k
  omega
abbrev pairA (s : SheetM) (p : PairM) : Nat → Int := s.dye p.ay.toNat p.ax.toNat
abbrev pairB (s : SheetM) (p : PairM) : Nat → Int := s.dye p.by'.toNat p.bx.toNat
def pairOff (s : SheetM) (p : PairM) : Int := sumTo (diffK (pairA s p) (pairB s p)) 3
def offTo (s : SheetM) (l : List PairM) : Nat → Int
  | 0 => 0
  | i + 1 => offTo s l i + (match l[i]? with | some p => pairOff s p | none => 0)
def mxInk (f : Nat → Int) (m : Int) : Nat → Int
  | 0 => m
  | k + 1 => maxM (mxInk f m k) (f k)
def mxTo (s : SheetM) (l : List PairM) : Nat → Int
  | 0 => 0
  | i + 1 => (match l[i]? with | some p => mxInk (diffK (pairA s p) (pairB s p)) (mxTo s l i) 3 | none => mxTo s l i)
section
variable {s : SheetM} {l : List PairM} {i : Nat} {p : PairM}
theorem offTo_zero : offTo s l 0 = 0 := rfl
theorem offTo_succ (h : l[i]? = some p) : offTo s l (i + 1) = offTo s l i + pairOff s p := by rw [offTo, h]
theorem mxTo_zero : mxTo s l 0 = 0 := rfl
theorem mxTo_succ (h : l[i]? = some p) : mxTo s l (i + 1) = mxInk (diffK (pairA s p) (pairB s p)) (mxTo s l i) 3 := by rw [mxTo, h]
theorem mxInk_zero {f m} : mxInk f m 0 = m := rfl
theorem mxInk_succ {f m} {k : Nat} : mxInk f m (k + 1) = maxM (mxInk f m k) (f k) := rfl
theorem offTo_bd (hs : s.Ok) : 0 ≤ offTo s l i ∧ offTo s l i ≤ 196605 * (i : Int) := by
  induction i with
  | zero => simp [offTo]
  | succ i ih =>
    rw [offTo]
    split
    · rename_i p _
      have := diffTo_bd (f := pairA s p) (g := pairB s p) (fun k => hs.dye _ _ k) (fun k => hs.dye _ _ k) (n := 3)
      unfold pairOff
      omega
    · omega
end
noncomputable def offM (s : SheetM) (f : FoldM) : Int := offTo s (pairsM s f) (pairsM s f).length
noncomputable def mxM (s : SheetM) (f : FoldM) : Int := mxTo s (pairsM s f) (pairsM s f).length
noncomputable def offV (s : SheetM) (f : FoldM) : AV := .tup [.int .i64 (if askF s f true = 0 then offM s f else 0), .int .i64 (askF s f true)]
noncomputable def mirV (s : SheetM) (f : FoldM) : AV := .tup [.bool (decide (askF s f true = 0 ∧ offM s f = 0)), .int .i64 (askF s f true)]
section
variable {s : SheetM} {f : FoldM} {c : Int}
theorem offV_ok (e : askF s f true = 0) : offV s f = .tup [.int .i64 (offM s f), .int .i64 0] := by simp [offV, e]
theorem offV_no (e : askF s f true = c) (hc : c ≠ 0) : offV s f = .tup [.int .i64 0, .int .i64 c] := by simp [offV, e, hc]
theorem mirV_ok (e : askF s f true = 0) : mirV s f = .tup [.bool (decide (offM s f = 0)), .int .i64 0] := by simp [mirV, e]
theorem mirV_no (e : askF s f true = c) (hc : c ≠ 0) : mirV s f = .tup [.bool false, .int .i64 c] := by simp [mirV, e, hc]
end
theorem pair_list {s : SheetM} {f : FoldM} (hm : small s) {i : Nat} (hi : i < (pairsM s f).length) : ∃ p, (pairsM s f)[i]? = some p ∧ ((pairsM s f).map pairV)[i]? = some (pairD p.ax p.ay p.bx p.by') ∧ in8 p.ax p.ay ∧ in8 p.bx p.by' := by
  refine ⟨(pairsM s f)[i], List.getElem?_eq_getElem hi, map_get (g := pairV) (List.getElem?_eq_getElem hi), ?_⟩
  have := pairsTo_mem (s := s) (f := f) hm (Nat.le_refl _) (List.getElem_mem hi)
  exact ⟨this.1, this.2.1⟩
end Ink
