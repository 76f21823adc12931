/- Contracts of functions of the program, by the texts that it imports. No conditions. -/
import Derived.Test.YtlfhpibbmgjgnaaInkGg
set_option linter.unusedVariables false
set_option linter.unusedSimpArgs false
/- What the program means: neighbours, drying and running. No conditions. -/
namespace Ink
open Go
structure SpotM where
  x : Int
  y : Int
def besideL (x y : Int) : List SpotM := [⟨x, y - 1⟩, ⟨x + 1, y⟩, ⟨x, y + 1⟩, ⟨x - 1, y⟩]
def freeP (s : SheetM) (x y : Int) : Prop := hasP s x y ∧ ¬ waxP s x y
noncomputable instance {s x y} : Decidable (freeP s x y) := Classical.propDecidable _
noncomputable def freeB (s : SheetM) (p : SpotM) : Bool := decide (freeP s p.x p.y)
noncomputable def nbrs (s : SheetM) (x y : Int) : List SpotM := (besideL x y).filter (freeB s)
def dryCnt (s : SheetM) (l : List SpotM) : Nat → Int
  | 0 => 0
  | i + 1 => dryCnt s l i + (match l[i]? with | some p => (if wetM s p.x p.y = 0 then 1 else 0) | none => 0)
noncomputable def lossM (s : SheetM) (x y : Int) : Int := minM (1 + dryCnt s (nbrs s x y) (nbrs s x y).length) (wetM s x y)
abbrev DryM := SheetM × Int
noncomputable def dryTo (s : SheetM) : Nat → DryM
  | 0 => (s, 0)
  | n + 1 => if wetM s (n % s.w.toNat : Nat) (n / s.w.toNat : Nat) = 0 then dryTo s n
    else ({ (dryTo s n).1 with wet := u2 (dryTo s n).1.wet (n / s.w.toNat) (n % s.w.toNat) (wetM s (n % s.w.toNat : Nat) (n / s.w.toNat : Nat) - lossM s (n % s.w.toNat : Nat) (n / s.w.toNat : Nat)) }, (dryTo s n).2 + lossM s (n % s.w.toNat : Nat) (n / s.w.toNat : Nat))
end Ink
/- Callers whose own blocks may hold pointers; where a list is first to be deleted from. No conditions. -/
namespace Ink
open Go
mutual
theorem ren_in {n : Nat} {σ : Nat → Nat} (h : ∀ i, i < n → σ i = i) : ∀ {a : AV}, inScope n a → ren σ a = a
  | .int _ _, _ => by simp [ren]
  | .bool _, _ => by simp [ren]
  | .str _, _ => by simp [ren]
  | .agg _ _, _ => by simp [ren]
  | .ptr b p τ, hs => by simp only [inScope] at hs; simp [ren, h b hs]
  | .rptr b, hs => by simp only [inScope] at hs; simp [ren, h b hs]
  | .nilp, _ => by simp [ren]
  | .nils, _ => by simp [ren]
  | .wz, _ => by simp [ren]
  | .slc b _ _, hs => by simp only [inScope] at hs; simp [ren, h b hs]
  | .wsl b _, hs => by simp only [inScope] at hs; simp [ren, h b hs]
  | .slk b _ _ _, hs => by simp only [inScope] at hs; simp [ren, h b hs]
  | .fn _ c d, hs => by simp only [inScope] at hs; simp [ren, rens_in h hs.1, rens_in h hs.2]
  | .tup l, hs => by simp only [inScope] at hs; simp [ren, rens_in h hs]
  | .junk, _ => by simp [ren]
  | .raw _, _ => by simp [ren]
  | .mp b, hs => by simp only [inScope] at hs; simp [ren, h b hs]
theorem rens_in {n : Nat} {σ : Nat → Nat} (h : ∀ i, i < n → σ i = i) : ∀ {l : List AV}, inScopes n l → rens σ l = l
  | [], _ => by simp [rens]
  | a :: l, hs => by simp only [inScopes] at hs; simp [rens, ren_in h hs.1, rens_in h hs.2]
end
theorem rens_sg {n : Nat} {τ : List Nat} {l : List AV} (h : inScopes n l) : rens (sg n τ) l = l := rens_in (fun i hi => by unfold sg; rw [if_pos hi]) h
theorem headS {A : Heap} {n : Nat} (h : ∀ B ∈ A, inScopeB n B) : headW n A := fun _ x hi => by
  have h1 : inScope n x := h _ (List.mem_of_getElem? hi)
  exact ⟨h1, fun σ hσ => ren_in hσ h1⟩
theorem weak_s {n : Nat} {E E' : Env} {H H' : Heap} (τ : List Nat) (hn : n ≤ H.length) (hA : H'.take n = H.take n) (hr : ∀ B ∈ H.take n, inScopeB n B) (hnd : τ.Nodup)
    (hT : tailW (sg n τ) H'.length (H.drop n) τ (H'.drop n)) (hE : envW (sg n τ) H'.length E E') : WeakS n E H E' H' := by
  have e : H.take n ++ H'.drop n = H' := by rw [← hA, List.take_append_drop]
  have : WeakS n E H E' (H.take n ++ H'.drop n) := ⟨sg n τ, ⟨H.take n, H.drop n, H'.drop n, τ, (List.take_append_drop n H).symm, by simp; omega, rfl, hnd, headS hr, rfl, by rw [e]; exact hT⟩, by rw [e]; exact hE⟩
  rwa [e] at this
theorem fin_s {n : Nat} {v v' : AV} {H H' : Heap} (τ : List Nat) (hn : n ≤ H.length) (hA : H'.take n = H.take n) (hr : ∀ B ∈ H.take n, inScopeB n B) (hnd : τ.Nodup)
    (hT : tailW (sg n τ) H'.length (H.drop n) τ (H'.drop n)) (hs : inScope H'.length v') (hv : v = ren (sg n τ) v') : fin n v H v' H' := by
  have e : H.take n ++ H'.drop n = H' := by rw [← hA, List.take_append_drop]
  have : fin n v H v' (H.take n ++ H'.drop n) := ⟨sg n τ, ⟨H.take n, H.drop n, H'.drop n, τ, (List.take_append_drop n H).symm, by simp; omega, rfl, hnd, headS hr, rfl, by rw [e]; exact hT⟩, by rw [e]; exact hs, hv⟩
  rwa [e] at this
def fstD {α : Type} (keep : α → Bool) (l : List α) : Nat := l.findIdx fun v => !keep v
section
variable {α : Type} {keep : α → Bool} {l : List α} {i : Nat} {v : α}
theorem fstD_le : fstD keep l ≤ l.length := List.findIdx_le_length
theorem fstD_hit (h : l[i]? = some v) (hk : keep v = false) (hi : i ≤ fstD keep l) : fstD keep l = i := by
  by_cases h2 : i < fstD keep l
  · have h3 := List.not_of_lt_findIdx h2
    obtain ⟨h6, h4⟩ := List.getElem?_eq_some_iff.1 h
    rw [h4] at h3
    simp [hk] at h3
  · omega
theorem fstD_miss (h : l[i]? = some v) (hk : keep v = true) (hi : i ≤ fstD keep l) : i + 1 ≤ fstD keep l := by
  by_cases h2 : i = fstD keep l
  · exfalso
    have hl : l.findIdx (fun v => !keep v) < l.length := by
      have := (List.getElem?_eq_some_iff.1 h).1
      unfold fstD at h2; omega
    have h3 := List.findIdx_getElem (w := hl)
    have h4 : l[l.findIdx (fun v => !keep v)] = v := by
      have := List.getElem?_eq_some_iff.1 h
      unfold fstD at h2
      subst h2
      exact this.2
    rw [h4] at h3
    simp [hk] at h3
  · omega
end
end Ink
/- Contracts at any heap whose blocks may hold pointers. No conditions. -/
namespace Ink
open Go
theorem fin_sp {A L : Heap} {v v' : AV} {n : Nat} {H : Heap} (hA : ∀ B ∈ A, inScopeB n B) (hH : H = A ++ L) (hn : A.length = n) (hp : plain v' = true) (hv : v = v') : fin n v H v' A := by
  subst hH; subst hn; subst hv
  obtain ⟨h1, h2⟩ := plain_ren (σ := sg A.length []) (m := A.length) hp
  exact fin_drop (headS hA) h2 h1
end Ink
namespace Ink
open Go
section
variable {s : SheetM} {x y : Int} {k : Nat} {p : SpotM}
end
end Ink
/- What the program means: rounds of drying. No conditions. -/
namespace Ink
open Go
def wetOk (s : SheetM) : Prop := ∀ y x, y < 8 → x < 8 → 0 ≤ s.wet y x ∧ s.wet y x ≤ 200
section
variable {s : SheetM} {n m : Nat}
noncomputable def dryM (s : SheetM) : DryM := dryTo s (s.w.toNat * s.h.toNat)
structure Fit (s : SheetM) : Prop where
  ok : s.Ok
  wet : wetOk s
  small : small s
noncomputable def dryR (s : SheetM) : Nat → DryM
  | 0 => (s, 0)
  | k + 1 => ((dryM (dryR s k).1).1, (dryR s k).2 + (dryM (dryR s k).1).2)
end
end Ink
/- What the program means: rounds and their codes. No conditions. -/
namespace Ink
open Go
section
variable {R : Nat → DryM} {s : SheetM} {r : Int}
end
end Ink
/- What the program means: behind how many rounds a sheet is dry; its rings. No conditions. -/
namespace Ink
open Go
section
variable {s : SheetM} {n m : Nat}
noncomputable def goneB (s : SheetM) (k : Nat) : Bool := decide ((dryM (dryR s k).1).2 = 0)
noncomputable def dryK (s : SheetM) : Nat := (List.range 201).findIdx (goneB s)
end
end Ink
/- What the program means: rings. No conditions. -/
namespace Ink
open Go
open Classical in noncomputable def upG (P : Nat → Nat → Prop) (y x : Nat) : Nat → Nat → Int := fun j i => if ((j < y ∧ i < 8) ∨ (j = y ∧ i < x)) ∧ P j i then -1 else 0
section
variable {P : Nat → Nat → Prop} {y x : Nat} {s : SheetM}
noncomputable def ring0 (s : SheetM) : Nat → Nat → Int := upG (fun j i => ¬ freeP s (i : Int) (j : Int)) 8 0
noncomputable def ringC (o t : SheetM) (W : Nat) (r : Int) (g : Nat → Nat → Int) : Nat → Nat → Nat → Int
  | 0 => g
  | n + 1 => if 0 < wetM o ((n % W : Nat) : Int) ((n / W : Nat) : Int) ∧ wetM t ((n % W : Nat) : Int) ((n / W : Nat) : Int) = 0 then u2 (ringC o t W r g n) (n / W) (n % W) r else ringC o t W r g n
variable {o t : SheetM} {W n : Nat} {r : Int} {g : Nat → Nat → Int}
noncomputable def ringR (s : SheetM) : Nat → Nat → Nat → Int
  | 0 => ring0 s
  | k + 1 => ringC (dryR s k).1 (dryR s (k + 1)).1 s.w.toNat ((k : Int) + 1) (ringR s k) (s.w.toNat * s.h.toNat)
noncomputable def ringsM (s : SheetM) : Nat → Nat → Int := ringR s (dryK s)
end
end Ink
/- What the program means: units that are given, and rounds of running. No conditions. -/
namespace Ink
open Go
structure Flow (s : SheetM) : Prop where
  fit : Fit s
  dye : dyeOk s
section
variable {s : SheetM} {x y w : Int} {p : SpotM} {k : Nat}
variable {t : DryM} {l : List SpotM} {i n : Nat}
end
end Ink
