/- What the program means: baths. No conditions. -/
import Derived.Test.YtdooejjnjfgnjaaInk34
set_option linter.unusedVariables false
set_option linter.unusedSimpArgs false
namespace Ink
open Go
def rinIt (s : SheetM) (share : Int) : Nat → SheetM
  | 0 => s
  | n + 1 => (rinseM (rinIt s share n) share).1
def bathO (s : SheetM) (share : Int) (k : Nat) : Nat → Int := (rinseM (rinIt s share k) share).2
def bathD (s : SheetM) (share : Int) (k : Nat) : DV := a1 .i64 (upTo (bathO s share k) 0 3)
def bathsD (s : SheetM) (share : Int) (n : Nat) : List DV := (List.range n).map (bathD s share)
def bathN (s : SheetM) (share : Int) (k : Nat) : Int := bathO s share k 0 + bathO s share k 1 + bathO s share k 2
section
variable {s : SheetM} {share : Int} {n k : Nat}
theorem rinIt_zero : rinIt s share 0 = s := rfl
theorem rinIt_succ : rinIt s share (n + 1) = (rinseM (rinIt s share n) share).1 := rfl
theorem bathsD_zero : bathsD s share 0 = [] := rfl
theorem bathsD_succ : bathsD s share (n + 1) = bathsD s share n ++ [a1 .i64 (upTo (rinseM (rinIt s share n) share).2 0 3)] := by unfold bathsD; rw [List.range_succ, List.map_append]; rfl
theorem bathsD_len : (bathsD s share n).length = n := by unfold bathsD; simp
theorem bathsD_take : (bathsD s share n).take n = bathsD s share n := by
  have := bathsD_len (s := s) (share := share) (n := n)
  rw [List.take_of_length_le (by omega)]
theorem bathsD_get (h : k < n) : (bathsD s share n)[k]? = some (a1 .i64 (upTo (bathO s share k) 0 3)) := by unfold bathsD; rw [List.getElem?_map, List.getElem?_range h]; rfl
theorem rinIt_ok (hd : dyeOk s) (hm : small s) (hs : 1 ≤ share ∧ share ≤ 15) : dyeOk (rinIt s share n) ∧ small (rinIt s share n) ∧ (rinIt s share n).w = s.w ∧ (rinIt s share n).h = s.h := by
  induction n with
  | zero => exact ⟨hd, hm, rfl, rfl⟩
  | succ n ih =>
    obtain ⟨h1, h2, h3, h4⟩ := ih
    have hr : RinOk (rinIt s share n) _ (rinseM (rinIt s share n) share) := RinOk.to (share := share) h1 hs h2 _ (Nat.le_refl _)
    rw [rinIt_succ]
    refine ⟨fun y x k hy hx hk => ?_, ?_, hr.w.trans h3, hr.h.trans h4⟩
    · have a := hr.dye y x k hy hx hk
      have b := h1 y x k hy hx hk
      omega
    · have a := hr.w
      have b := hr.h
      unfold small
      rw [a, b]
      exact h2
theorem bathO_bd (hd : dyeOk s) (hm : small s) (hs : 1 ≤ share ∧ share ≤ 15) (q : Nat) : 0 ≤ bathO s share k q ∧ bathO s share k q ≤ 192000 := by
  obtain ⟨h1, h2, h3, h4⟩ := rinIt_ok (n := k) hd hm hs
  have hr0 : RinOk (rinIt s share k) (3000 * (((rinIt s share k).w.toNat * (rinIt s share k).h.toNat : Nat) : Int)) (rinseM (rinIt s share k) share) := RinOk.to (share := share) h1 hs h2 _ (Nat.le_refl _)
  have hr := hr0.sum q
  have hwh : (rinIt s share k).w.toNat * (rinIt s share k).h.toNat ≤ 8 * 8 := Nat.mul_le_mul (by omega) (by omega)
  unfold bathO
  omega
end
def cleanTo (s : SheetM) (share bound : Int) : Nat → Option Nat
  | 0 => none
  | n + 1 => match cleanTo s share bound n with
    | some k => some k
    | none => if bathN s share n ≤ bound then some n else none
theorem cleanTo_none {s : SheetM} {share bound : Int} {n : Nat} (h : ∀ j < n, ¬ bathN s share j ≤ bound) : cleanTo s share bound n = none := by
  induction n with
  | zero => rfl
  | succ n ih => rw [cleanTo, ih fun j hj => h j (by omega)]; exact if_neg (h n (by omega))
theorem cleanTo_some {s : SheetM} {share bound : Int} {n i : Nat} (h : ∀ j < i, ¬ bathN s share j ≤ bound) (hi : bathN s share i ≤ bound) (hn : i < n) : cleanTo s share bound n = some i := by
  obtain ⟨d, rfl⟩ : ∃ d, n = i + 1 + d := ⟨n - (i + 1), by omega⟩
  induction d with
  | zero => rw [Nat.add_zero, cleanTo, cleanTo_none h]; exact if_pos hi
  | succ d ih => rw [← Nat.add_assoc, cleanTo, ih (by omega)]
def cleanP (share rinses bound : Int) : Prop := (1 ≤ share ∧ share ≤ 15) ∧ (0 ≤ rinses ∧ rinses ≤ 100) ∧ 0 ≤ bound
instance {a b c} : Decidable (cleanP a b c) := by unfold cleanP; infer_instance
noncomputable def cleanC (s : SheetM) (share rinses bound : Int) : Int := codeM s (decide (cleanP share rinses bound))
noncomputable def cleanV (s : SheetM) (share rinses bound : Int) : AV :=
  .tup [.int .i64 (if cleanC s share rinses bound = 0 then (match cleanTo s share bound rinses.toNat with | some k => (k : Int) | none => 0) else 0),
    .int .i64 (if cleanC s share rinses bound = 0 then (match cleanTo s share bound rinses.toNat with | some _ => 0 | none => 6) else cleanC s share rinses bound)]
section
variable {s : SheetM} {share rinses bound c : Int} {i : Nat}
theorem cleanV_no (e : cleanC s share rinses bound = c) (hc : c ≠ 0) : cleanV s share rinses bound = .tup [.int .i64 0, .int .i64 c] := by
  simp only [cleanV, e, hc, if_false]
theorem cleanV_some (e : cleanC s share rinses bound = 0) (h : cleanTo s share bound rinses.toNat = some i) : cleanV s share rinses bound = .tup [.int .i64 i, .int .i64 0] := by
  simp only [cleanV, e, h, if_true]
theorem cleanV_none (e : cleanC s share rinses bound = 0) (h : cleanTo s share bound rinses.toNat = none) : cleanV s share rinses bound = .tup [.int .i64 0, .int .i64 6] := by
  simp only [cleanV, e, h, if_true]
end
end Ink
