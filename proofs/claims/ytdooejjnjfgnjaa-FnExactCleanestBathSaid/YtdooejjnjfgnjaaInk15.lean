/- Ends of functions whose result holds no pointer; lists of spots. No conditions. -/
import Derived.Test.YtdooejjnjfgnjaaInk14
set_option linter.unusedVariables false
set_option linter.unusedSimpArgs false
namespace Ink
open Go

mutual
def plain : AV → Bool
  | .int _ _ => true
  | .bool _ => true
  | .str _ => true
  | .agg _ _ => true
  | .tup l => plains l
  | .nils => true
  | .nilp => true
  | _ => false
def plains : List AV → Bool
  | [] => true
  | a :: l => plain a && plains l
end
mutual
theorem plain_ren {σ : Nat → Nat} {m : Nat} : ∀ {v : AV}, plain v = true → ren σ v = v ∧ inScope m v
  | .int _ _, _ => ⟨by unfold ren; rfl, trivial⟩
  | .bool _, _ => ⟨by unfold ren; rfl, trivial⟩
  | .str _, _ => ⟨by unfold ren; rfl, trivial⟩
  | .agg _ _, _ => ⟨by unfold ren; rfl, trivial⟩
  | .nils, _ => ⟨by unfold ren; rfl, trivial⟩
  | .nilp, _ => ⟨by unfold ren; rfl, trivial⟩
  | .tup l, h => by
    have := plains_ren (σ := σ) (m := m) (l := l) (by unfold plain at h; exact h)
    exact ⟨by unfold ren; rw [this.1], this.2⟩
theorem plains_ren {σ : Nat → Nat} {m : Nat} : ∀ {l : List AV}, plains l = true → rens σ l = l ∧ inScopes m l
  | [], _ => ⟨by unfold rens; rfl, trivial⟩
  | a :: l, h => by
    simp only [plains, Bool.and_eq_true] at h
    have h1 := plain_ren (σ := σ) (m := m) h.1
    have h2 := plains_ren (σ := σ) (m := m) h.2
    exact ⟨by unfold rens; rw [h1.1, h2.1], h1.2, h2.2⟩
end

def noRef : Blk → Bool
  | .ref _ => false
  | .dead _ => false
  | _ => true
def noRefs (A : Heap) : Bool := A.all noRef

theorem headW_of {A : Heap} {n : Nat} (h : noRefs A = true) : headW n A := fun i x hi => by
  have := List.all_eq_true.1 h _ (List.mem_of_getElem? hi)
  simp [noRef] at this

/-- The result holds no pointer: the call's own blocks are forgotten. -/
theorem fin_plain {A L : Heap} {v v' : AV} {n : Nat} {H : Heap} (hH : H = A ++ L) (hn : A.length = n) (hA : noRefs A = true) (hp : plain v' = true) (hv : v = v') : fin n v H v' A := by
  subst hH; subst hn; subst hv
  obtain ⟨h1, h2⟩ := plain_ren (σ := sg A.length []) (m := A.length) hp
  exact fin_drop (headW_of hA) h2 h1
theorem fin_0 {L : Heap} {v v' : AV} (hp : plain v' = true) (hv : v = v') : fin 0 v L v' [] := fin_plain (A := []) rfl rfl rfl hp hv
theorem fin_1 {B : Blk} {L : Heap} {v v' : AV} (hB : noRef B = true) (hp : plain v' = true) (hv : v = v') : fin 1 v (B :: L) v' [B] := fin_plain (A := [B]) rfl rfl (by simp [noRefs, hB]) hp hv
theorem fin_2 {B C : Blk} {L : Heap} {v v' : AV} (hB : noRef B = true) (hC : noRef C = true) (hp : plain v' = true) (hv : v = v') : fin 2 v (B :: C :: L) v' [B, C] := fin_plain (A := [B, C]) rfl rfl (by simp [noRefs, hB, hC]) hp hv

/-- What is kept: blocks of the call's own, by their places. -/
theorem weak_of {n : Nat} {E E' : Env} {H : Heap} (A L : Heap) (τ : List Nat) (L' : Heap) (hH : H = A ++ L) (hn : A.length = n) (hA : noRefs A = true) (hnd : τ.Nodup)
    (hT : tailW (sg n τ) (A ++ L').length L τ L') (hE : envW (sg n τ) (A ++ L').length E E') : WeakS n E H E' (A ++ L') :=
  ⟨sg n τ, ⟨A, L, L', τ, hH, hn, rfl, hnd, headW_of hA, rfl, hT⟩, hE⟩
theorem fin_of {n : Nat} {v v' : AV} {H : Heap} (A L : Heap) (τ : List Nat) (L' : Heap) (hH : H = A ++ L) (hn : A.length = n) (hA : noRefs A = true) (hnd : τ.Nodup)
    (hT : tailW (sg n τ) (A ++ L').length L τ L') (hs : inScope (A ++ L').length v') (hv : v = ren (sg n τ) v') : fin n v H v' (A ++ L') :=
  ⟨sg n τ, ⟨A, L, L', τ, hH, hn, rfl, hnd, headW_of hA, rfl, hT⟩, hs, hv⟩

section
variable {n m : Nat} {L : Heap} {σ : Nat → Nat} {E : Env}
theorem w_tn : tailW σ m L [] [] = True := by unfold tailW; rfl
theorem w_tc {k τ B L'} : tailW σ m L (k :: τ) (B :: L') = (onSome L[k]? (BlkW σ m B) ∧ tailW σ m L τ L') := by rw [tailW]
theorem w_data {s v B} : BlkW σ m (.data s v) B = (B = .data s v) := by unfold BlkW; rfl
theorem w_seq {wr e l wr' e' l'} : BlkW σ m (.seq wr e l) (.seq wr' e' l') = (e' = e ∧ l <+: l' ∧ (wr = true → wr' = true)) := by
  simp only [BlkW, eq_iff_iff]
  constructor
  · rintro ⟨a, b, h, h2, h3⟩; cases h; exact ⟨rfl, h2, h3⟩
  · rintro ⟨rfl, h2, h3⟩; exact ⟨_, _, rfl, h2, h3⟩
theorem w_ref {x B} : BlkW σ m (.ref x) B = (inScope m x ∧ B = .ref (ren σ x)) := by unfold BlkW; rfl
theorem w_en : envW σ m E [] = True := by unfold envW; rfl
theorem w_ec {t v r} : envW σ m E ((t, v) :: r) = ((inScope m v ∧ look E t = ren σ v) ∧ envW σ m E r) := by rw [envW]
theorem w_sc_ptr {b p τ} : inScope m (.ptr b p τ) = (b < m) := by unfold inScope; rfl
theorem w_sc_rptr {b} : inScope m (.rptr b) = (b < m) := by unfold inScope; rfl
theorem w_sc_slc {b lo l} : inScope m (.slc b lo l) = (b < m) := by unfold inScope; rfl
theorem w_sc_int {k i} : inScope m (.int k i) = True := by unfold inScope; rfl
theorem w_sc_bool {b} : inScope m (.bool b) = True := by unfold inScope; rfl
theorem w_sc_str {b} : inScope m (.str b) = True := by unfold inScope; rfl
theorem w_sc_agg {τ v} : inScope m (.agg τ v) = True := by unfold inScope; rfl
theorem w_sc_junk : inScope m .junk = True := by unfold inScope; rfl
theorem w_sc_nils : inScope m .nils = True := by unfold inScope; rfl
theorem w_sc_fn {f c d} : inScope m (.fn f c d) = (inScopes m c ∧ inScopes m d) := by rw [inScope]
theorem w_sc_tup {l} : inScope m (.tup l) = inScopes m l := by rw [inScope]
theorem w_sc_n : inScopes m [] = True := by unfold inScopes; rfl
theorem w_sc_c {a l} : inScopes m (a :: l) = (inScope m a ∧ inScopes m l) := by rw [inScopes]
theorem w_ptr {b p τ} : ren σ (.ptr b p τ) = .ptr (σ b) p τ := by unfold ren; rfl
theorem w_rptr {b} : ren σ (.rptr b) = .rptr (σ b) := by unfold ren; rfl
theorem w_slc {b lo l} : ren σ (.slc b lo l) = .slc (σ b) lo l := by unfold ren; rfl
theorem w_int {k i} : ren σ (.int k i) = .int k i := by unfold ren; rfl
theorem w_bool {b} : ren σ (.bool b) = .bool b := by unfold ren; rfl
theorem w_str {b} : ren σ (.str b) = .str b := by unfold ren; rfl
theorem w_agg {τ v} : ren σ (.agg τ v) = .agg τ v := by unfold ren; rfl
theorem w_nils : ren σ .nils = .nils := by unfold ren; rfl
theorem w_junk : ren σ .junk = .junk := by unfold ren; rfl
theorem w_fn {f c d} : ren σ (.fn f c d) = .fn f (rens σ c) (rens σ d) := by rw [ren]
theorem w_tup {l} : ren σ (.tup l) = .tup (rens σ l) := by rw [ren]
theorem w_rn : rens σ [] = [] := by unfold rens; rfl
theorem w_rc {a l} : rens σ (a :: l) = ren σ a :: rens σ l := by rw [rens]
theorem w_sg {τ i} : sg n τ i = if i < n then i else n + τ.getD (i - n) 0 := rfl
theorem w_kap {κ i} : kap κ m n i = if i < m then κ.getD i 0 else n + (i - m) := rfl
theorem w_rd {s v} : renB σ (.data s v) = .data s v := rfl
theorem w_rs {wr e l} : renB σ (.seq wr e l) = .seq wr e l := rfl
end
end Ink
