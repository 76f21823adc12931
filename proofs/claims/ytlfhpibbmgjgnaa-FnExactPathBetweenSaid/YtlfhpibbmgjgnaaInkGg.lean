/- Contracts of functions of the program, by the texts that it imports. No conditions. -/
import Derived.Test.YtlfhpibbmgjgnaaInkGf
set_option linter.unusedVariables false
set_option linter.unusedSimpArgs false
/- What the program means: brushes, more. No conditions. -/
namespace Ink
open Go
theorem arr3_fl0 {k : IntKind} : (Sh.arr 3 (.int k)).fld 0 = some (.int k) := rfl
theorem arr3_fl1 {k : IntKind} : (Sh.arr 3 (.int k)).fld 1 = some (.int k) := rfl
theorem arr3_fl2 {k : IntKind} : (Sh.arr 3 (.int k)).fld 2 = some (.int k) := rfl
theorem u1_three {a b c : Int} {f : Nat → Int} (ha : a = f 0) (hb : b = f 1) (hc : c = f 2) : u1 (u1 (u1 (fun _ => 0) 0 a) 1 b) 2 c = upTo f 0 3 := by
  funext j
  unfold u1 upTo
  match j with
  | 0 => simp [ha]
  | 1 => simp [hb]
  | 2 => simp [hc]
  | j + 3 =>
    rw [if_neg (by omega), if_neg (by omega), if_neg (by omega), if_neg (by omega)]
def nB (b : BrushM) : BrushM := ⟨n3 b.dye, b.water, b.share⟩
theorem nB_Ok {b : BrushM} (h : b.Ok) : (nB b).Ok := ⟨fun i => upTo_P (p := fun x => -32768 ≤ x ∧ x < 32768) h.dye (by omega) i, h.water, h.share⟩
theorem leaveD_wax {s b x y} (h : waxP s x y) : upTo (leaveD s b x y) 0 3 = fun _ => 0 := by
  have : leaveD s b x y = fun _ => 0 := by funext k; unfold leaveD; rw [if_pos h]
  rw [this]; exact upTo_const
theorem leaveW_wax {s b x y} (h : waxP s x y) : leaveW s b x y = 0 := by unfold leaveW; rw [if_pos h]
end Ink
/- What the program means: the order of spots; sums over pairs. No conditions. -/
namespace Ink
open Go
def cmpI (a b : Int) : Int := if a < b then -1 else if b < a then 1 else 0
def orI (a b : Int) : Int := if a = 0 then b else a
def ordI (ax ay bx by' : Int) : Int := orI (cmpI ay by') (cmpI ax bx)
theorem ordI_lt {f : FoldM} {x y : Int} : ordI x y (partX f x) (partY f y) < 0 ↔ firstP f x y := by
  unfold ordI orI cmpI partX partY firstP
  by_cases h : f.down = true
  · simp only [h, if_true]
    split <;> split at * <;> (try split at *) <;> omega
  · simp only [h, if_false]
    split <;> split at * <;> (try split at *) <;> (try split) <;> (try split) <;> (try split at *) <;> (try simp only [Bool.false_eq_true, if_false]) <;> omega
end Ink
/- What the program means: by how much the cells of pairs differ. No conditions. -/
namespace Ink
open Go
def sizeM (d : Int) : Int := maxM d (0 - d)
theorem mm_size {d : Int} : mm true d (0 - d) = sizeM d := by
  unfold mm sizeM maxM
  simp only [if_true]
  split <;> split <;> omega
theorem sizeM_nn {d : Int} : 0 ≤ sizeM d := by unfold sizeM maxM; split <;> omega
theorem sizeM_le {d : Int} (h : -65535 ≤ d ∧ d ≤ 65535) : sizeM d ≤ 65535 := by unfold sizeM maxM; split <;> omega
def diffK (f g : Nat → Int) (k : Nat) : Int := sizeM (f k - g k)
theorem diffK_bd {f g : Nat → Int} (hf : ∀ i, -32768 ≤ f i ∧ f i < 32768) (hg : ∀ i, -32768 ≤ g i ∧ g i < 32768) (k : Nat) : 0 ≤ diffK f g k ∧ diffK f g k ≤ 65535 := by
  have := hf k
  have := hg k
  exact ⟨sizeM_nn, sizeM_le (by omega)⟩
theorem diffTo_bd {f g : Nat → Int} (hf : ∀ i, -32768 ≤ f i ∧ f i < 32768) (hg : ∀ i, -32768 ≤ g i ∧ g i < 32768) {n : Nat} : 0 ≤ sumTo (diffK f g) n ∧ sumTo (diffK f g) n ≤ 65535 * (n : Int) := by
  have := sumTo_le (f := diffK f g) (n := n) (a := 0) (b := 65535) fun k _ => diffK_bd hf hg k
  omega
abbrev pairA (s : SheetM) (p : PairM) : Nat → Int := s.dye p.ay.toNat p.ax.toNat
abbrev pairB (s : SheetM) (p : PairM) : Nat → Int := s.dye p.by'.toNat p.bx.toNat
def pairOff (s : SheetM) (p : PairM) : Int := sumTo (diffK (pairA s p) (pairB s p)) 3
def offTo (s : SheetM) (l : List PairM) : Nat → Int
  | 0 => 0
  | i + 1 => offTo s l i + (match l[i]? with | some p => pairOff s p | none => 0)
def mxInk (f : Nat → Int) (m : Int) : Nat → Int
  | 0 => m
  | k + 1 => maxM (mxInk f m k) (f k)
def mxTo (s : SheetM) (l : List PairM) : Nat → Int
  | 0 => 0
  | i + 1 => (match l[i]? with | some p => mxInk (diffK (pairA s p) (pairB s p)) (mxTo s l i) 3 | none => mxTo s l i)
section
variable {s : SheetM} {l : List PairM} {i : Nat} {p : PairM}
theorem offTo_zero : offTo s l 0 = 0 := rfl
theorem offTo_succ (h : l[i]? = some p) : offTo s l (i + 1) = offTo s l i + pairOff s p := by rw [offTo, h]
theorem mxTo_zero : mxTo s l 0 = 0 := rfl
theorem mxTo_succ (h : l[i]? = some p) : mxTo s l (i + 1) = mxInk (diffK (pairA s p) (pairB s p)) (mxTo s l i) 3 := by rw [mxTo, h]
theorem mxInk_zero {f m} : mxInk f m 0 = m := rfl
theorem mxInk_succ {f m} {k : Nat} : mxInk f m (k + 1) = maxM (mxInk f m k) (f k) := rfl
theorem offTo_bd (hs : s.Ok) : 0 ≤ offTo s l i ∧ offTo s l i ≤ 196605 * (i : Int) := by
  induction i with
  | zero => simp [offTo]
  | succ i ih =>
    rw [offTo]
    split
    · rename_i p _
      have := diffTo_bd (f := pairA s p) (g := pairB s p) (fun k => hs.dye _ _ k) (fun k => hs.dye _ _ k) (n := 3)
      unfold pairOff
      omega
    · omega
end
noncomputable def offM (s : SheetM) (f : FoldM) : Int := offTo s (pairsM s f) (pairsM s f).length
noncomputable def mxM (s : SheetM) (f : FoldM) : Int := mxTo s (pairsM s f) (pairsM s f).length
noncomputable def offV (s : SheetM) (f : FoldM) : AV := .tup [.int .i64 (if askF s f true = 0 then offM s f else 0), .int .i64 (askF s f true)]
noncomputable def mirV (s : SheetM) (f : FoldM) : AV := .tup [.bool (decide (askF s f true = 0 ∧ offM s f = 0)), .int .i64 (askF s f true)]
section
variable {s : SheetM} {f : FoldM} {c : Int}
theorem offV_ok (e : askF s f true = 0) : offV s f = .tup [.int .i64 (offM s f), .int .i64 0] := by simp [offV, e]
theorem offV_no (e : askF s f true = c) (hc : c ≠ 0) : offV s f = .tup [.int .i64 0, .int .i64 c] := by simp [offV, e, hc]
theorem mirV_ok (e : askF s f true = 0) : mirV s f = .tup [.bool (decide (offM s f = 0)), .int .i64 0] := by simp [mirV, e]
theorem mirV_no (e : askF s f true = c) (hc : c ≠ 0) : mirV s f = .tup [.bool false, .int .i64 c] := by simp [mirV, e, hc]
end
theorem zhn {s : SheetM} {f : FoldM} (hm : small s) {i : Nat} (hi : i < (pairsM s f).length) : ∃ p, (pairsM s f)[i]? = some p ∧ ((pairsM s f).map pairV)[i]? = some (pairD p.ax p.ay p.bx p.by') ∧ in8 p.ax p.ay ∧ in8 p.bx p.by' := by
  refine ⟨(pairsM s f)[i], List.getElem?_eq_getElem hi, map_get (g := pairV) (List.getElem?_eq_getElem hi), ?_⟩
  have := pairsTo_mem (s := s) (f := f) hm (Nat.le_refl _) (List.getElem_mem hi)
  exact ⟨this.1, this.2.1⟩
end Ink
/- What the program means: all folds of a sheet, and the best. No conditions. -/
namespace Ink
open Go
def foldsD (a b : Nat) : List FoldM := (List.range a).map (fun (i : Nat) => (⟨(i : Int) + 1, false, 8⟩ : FoldM)) ++ (List.range b).map fun (i : Nat) => (⟨(i : Int) + 1, true, 8⟩ : FoldM)
theorem foldsD_zero : foldsD 0 0 = [] := rfl
theorem foldsD_a {a : Nat} : foldsD (a + 1) 0 = foldsD a 0 ++ [⟨(a : Int) + 1, false, 8⟩] := by
  unfold foldsD; rw [List.range_succ]; simp
theorem foldsD_b {a b : Nat} : foldsD a (b + 1) = foldsD a b ++ [⟨(b : Int) + 1, true, 8⟩] := by
  unfold foldsD; rw [List.range_succ (n := b)]; simp
theorem foldsD_len {a b : Nat} : (foldsD a b).length = a + b := by unfold foldsD; simp
theorem foldsD_map {a b : Nat} : ((foldsD a b).map foldD).length = a + b := by rw [List.length_map, foldsD_len]
theorem foldsD_take {a b : Nat} : ((foldsD a b).map foldD).take (a + b) = (foldsD a b).map foldD := by
  rw [← foldsD_map (a := a) (b := b), List.take_length]
abbrev foldsM (s : SheetM) : List FoldM := foldsD (s.w.toNat - 1) (s.h.toNat - 1)
theorem foldsM_ax {s : SheetM} (hv : validS s) {f : FoldM} (h : f ∈ foldsM s) : 1 ≤ f.axis ∧ f.axis ≤ 7 := by
  have := hv.1
  have := hv.2.1
  unfold foldsM foldsD at h
  rcases List.mem_append.1 h with h | h
  · obtain ⟨i, hi, rfl⟩ := List.mem_map.1 h
    have := List.mem_range.1 hi
    dsimp only; omega
  · obtain ⟨i, hi, rfl⟩ := List.mem_map.1 h
    have := List.mem_range.1 hi
    dsimp only; omega
noncomputable def bestTo (s : SheetM) (l : List FoldM) : Nat → FoldM × Int
  | 0 => (⟨0, false, 0⟩, -1)
  | i + 1 => match l[i]? with
    | some f => if (bestTo s l i).2 < 0 ∨ offM s f < (bestTo s l i).2 then (f, offM s f) else bestTo s l i
    | none => bestTo s l i
section
variable {s : SheetM} {l : List FoldM} {i : Nat} {f : FoldM}
theorem bestTo_zero : bestTo s l 0 = (⟨0, false, 0⟩, -1) := rfl
theorem bestTo_yes (h : l[i]? = some f) (h2 : (bestTo s l i).2 < 0 ∨ offM s f < (bestTo s l i).2) : bestTo s l (i + 1) = (f, offM s f) := by rw [bestTo, h]; exact if_pos h2
theorem bestTo_no (h : l[i]? = some f) (h2 : ¬ ((bestTo s l i).2 < 0 ∨ offM s f < (bestTo s l i).2)) : bestTo s l (i + 1) = bestTo s l i := by rw [bestTo, h]; exact if_neg h2
theorem offM_bd (hs : s.Ok) (hm : small s) : 0 ≤ offM s f ∧ offM s f ≤ 196605 * 64 := by
  have h1 := offTo_bd (l := pairsM s f) hs (i := (pairsM s f).length)
  have h2 : (pairsM s f).length ≤ s.w.toNat * s.h.toNat := pairsTo_len
  have h3 : s.w.toNat * s.h.toNat ≤ 8 * 8 := Nat.mul_le_mul (by omega) (by omega)
  unfold offM
  omega
theorem bestTo_nn (hs : s.Ok) (hm : small s) (hi : 1 ≤ i) (hl : i ≤ l.length) : 0 ≤ (bestTo s l i).2 := by
  induction i with
  | zero => omega
  | succ i ih =>
    obtain ⟨f, hf⟩ : ∃ f, l[i]? = some f := ⟨l[i], List.getElem?_eq_getElem (by omega)⟩
    have ho := (offM_bd (f := f) hs hm).1
    by_cases h2 : (bestTo s l i).2 < 0 ∨ offM s f < (bestTo s l i).2
    · rw [bestTo_yes hf h2]; exact ho
    · rw [bestTo_no hf h2]; omega
end
noncomputable abbrev bestA (s : SheetM) : FoldM × Int := bestTo s (foldsM s) (foldsM s).length
noncomputable def bestF (s : SheetM) : FoldM := if validS s ∧ 0 ≤ (bestA s).2 then (bestA s).1 else ⟨0, false, 0⟩
noncomputable def bestN (s : SheetM) : Int := if validS s ∧ 0 ≤ (bestA s).2 then (bestA s).2 else 0
noncomputable def bestC (s : SheetM) : Int := if validS s then (if 0 ≤ (bestA s).2 then 0 else 6) else 1
noncomputable def bestV (s : SheetM) : AV := .tup [.agg shFold (foldD (bestF s)), .int .i64 (bestN s), .int .i64 (bestC s)]
theorem bestV_bad {s} (h : ¬ validS s) : bestV s = .tup [.agg shFold (foldD ⟨0, false, 0⟩), .int .i64 0, .int .i64 1] := by simp [bestV, bestF, bestN, bestC, h]
theorem bestV_none {s} (h : validS s) (h2 : ¬ 0 ≤ (bestA s).2) : bestV s = .tup [.agg shFold (foldD ⟨0, false, 0⟩), .int .i64 0, .int .i64 6] := by
  simp only [bestV, bestF, bestN, bestC, h, h2, and_false, if_false, if_true]
theorem bestV_ok {s} (h : validS s) (h2 : 0 ≤ (bestA s).2) : bestV s = .tup [.agg shFold (foldD (bestA s).1), .int .i64 (bestA s).2, .int .i64 0] := by
  simp only [bestV, bestF, bestN, bestC, h, h2, and_self, if_true]
end Ink
/- What the program means: pairs that are made even. No conditions. -/
namespace Ink
open Go
theorem pairsTo_ne {s : SheetM} {f : FoldM} {n : Nat} {p : PairM} (hp : p ∈ pairsTo s f n) : ¬ (p.ax = p.bx ∧ p.ay = p.by') := by
  induction n with
  | zero => simp [pairsTo] at hp
  | succ n ih =>
    rw [pairsTo] at hp
    split at hp
    · rcases List.mem_append.1 hp with hp | hp
      · exact ih hp
      · simp only [List.mem_singleton] at hp
        subst hp
        unfold partX partY
        rintro ⟨h1, h2⟩
        dsimp only at h1 h2
        by_cases hd : f.down = true
        · simp only [hd, if_true] at h2; omega
        · simp only [hd, Bool.false_eq_true, if_false] at h1; omega
    · exact ih hp
abbrev evA (s : SheetM) (p : PairM) (k : Nat) : Int := s.dye p.ay.toNat p.ax.toNat k + s.dye p.by'.toNat p.bx.toNat k
def even1 (s : SheetM) (p : PairM) (k : Nat) : SheetM :=
  { s with dye := u3 (u3 s.dye p.ay.toNat p.ax.toNat k (evA s p k - (evA s p k).tdiv 2)) p.by'.toNat p.bx.toNat k ((evA s p k).tdiv 2) }
def evenInk (s : SheetM) (p : PairM) : Nat → SheetM
  | 0 => s
  | k + 1 => even1 (evenInk s p k) p k
def evenTo (s : SheetM) (l : List PairM) : Nat → SheetM
  | 0 => s
  | i + 1 => match l[i]? with | some p => evenInk (evenTo s l i) p 3 | none => evenTo s l i
theorem evenInk_zero {s p} : evenInk s p 0 = s := rfl
theorem evenInk_succ {s p} {k : Nat} : evenInk s p (k + 1) = even1 (evenInk s p k) p k := rfl
theorem evenTo_zero {s l} : evenTo s l 0 = s := rfl
theorem evenTo_succ {s : SheetM} {l : List PairM} {i : Nat} {p : PairM} (h : l[i]? = some p) : evenTo s l (i + 1) = evenInk (evenTo s l i) p 3 := by rw [evenTo, h]
theorem u3_comm {α : Type} {f : Nat → Nat → Nat → α} {a b c a' b' c' : Nat} {v w : α} (h : ¬ (a = a' ∧ b = b' ∧ c = c')) : u3 (u3 f a b c v) a' b' c' w = u3 (u3 f a' b' c' w) a b c v := by
  funext i j k
  rw [u3_at, u3_at, u3_at, u3_at]
  by_cases h1 : i = a ∧ j = b ∧ k = c
  · by_cases h2 : i = a' ∧ j = b' ∧ k = c'
    · exact absurd ⟨h1.1.symm.trans h2.1, h1.2.1.symm.trans h2.2.1, h1.2.2.symm.trans h2.2.2⟩ h
    · rw [if_neg h2, if_pos h1, if_pos h1]
  · by_cases h2 : i = a' ∧ j = b' ∧ k = c'
    · obtain ⟨rfl, rfl, rfl⟩ := h2
      simp only [h1, and_self, if_true, if_false]
    · simp only [h1, h2, if_false]
theorem even_bd {a b : Int} (ha : 0 ≤ a ∧ a ≤ 1000) (hb : 0 ≤ b ∧ b ≤ 1000) : (0 ≤ (a + b).tdiv 2 ∧ (a + b).tdiv 2 ≤ 1000) ∧ 0 ≤ a + b - (a + b).tdiv 2 ∧ a + b - (a + b).tdiv 2 ≤ 1000 := by
  rw [Int.tdiv_eq_ediv_of_nonneg (by omega)]
  omega
theorem even1_ok {s : SheetM} {p : PairM} {k : Nat} (hd : dyeOk s) (h8 : in8 p.ax p.ay) (g8 : in8 p.bx p.by') (hk : k < 3) : dyeOk (even1 s p k) := by
  intro y x q hy hx hq
  have h1 := hd p.ay.toNat p.ax.toNat k (by omega) (by omega) hk
  have h2 := hd p.by'.toNat p.bx.toNat k (by omega) (by omega) hk
  have h3 := even_bd h1 h2
  unfold even1
  dsimp only
  rw [u3_at, u3_at]
  split
  · exact h3.1
  · split
    · exact h3.2
    · exact hd y x q hy hx hq
theorem evenInk_ok {s : SheetM} {p : PairM} (hd : dyeOk s) (h8 : in8 p.ax p.ay) (g8 : in8 p.bx p.by') : ∀ k, k ≤ 3 → dyeOk (evenInk s p k) := by
  intro k
  induction k with
  | zero => exact fun _ => hd
  | succ k ih => exact fun hk => even1_ok (ih (by omega)) h8 g8 (by omega)
theorem evenTo_ok {s : SheetM} {f : FoldM} (hd : dyeOk s) (hm : small s) : ∀ i, i ≤ (pairsM s f).length → dyeOk (evenTo s (pairsM s f) i) := by
  intro i
  induction i with
  | zero => exact fun _ => hd
  | succ i ih =>
    intro hi
    obtain ⟨p, hp, _, h8, g8⟩ := zhn (s := s) (f := f) hm (i := i) (by omega)
    rw [evenTo_succ hp]
    exact evenInk_ok (ih (by omega)) h8 g8 3 (by omega)
noncomputable def evenV (s : SheetM) (f : FoldM) : AV := codeV (askF s f true) (evenTo s (pairsM s f) (pairsM s f).length)
/-- What one step reads and writes. -/
theorem even_wrap {s : SheetM} {p : PairM} {k : Nat} (hd : dyeOk s) (h8 : in8 p.ax p.ay) (g8 : in8 p.bx p.by') (hk : k < 3) :
    IntKind.i16.wrap (s.dye p.ay.toNat p.ax.toNat k + s.dye p.by'.toNat p.bx.toNat k) = s.dye p.ay.toNat p.ax.toNat k + s.dye p.by'.toNat p.bx.toNat k ∧
    IntKind.i16.wrap ((s.dye p.ay.toNat p.ax.toNat k + s.dye p.by'.toNat p.bx.toNat k).tdiv 2) = (s.dye p.ay.toNat p.ax.toNat k + s.dye p.by'.toNat p.bx.toNat k).tdiv 2 ∧
    IntKind.i16.wrap (s.dye p.ay.toNat p.ax.toNat k + s.dye p.by'.toNat p.bx.toNat k - (s.dye p.ay.toNat p.ax.toNat k + s.dye p.by'.toNat p.bx.toNat k).tdiv 2) = s.dye p.ay.toNat p.ax.toNat k + s.dye p.by'.toNat p.bx.toNat k - (s.dye p.ay.toNat p.ax.toNat k + s.dye p.by'.toNat p.bx.toNat k).tdiv 2 := by
  have h1 := hd p.ay.toNat p.ax.toNat k (by omega) (by omega) hk
  have h2 := hd p.by'.toNat p.bx.toNat k (by omega) (by omega) hk
  have h3 := even_bd h1 h2
  exact ⟨wrap_i16 (by omega) (by omega), wrap_i16 (by omega) (by omega), wrap_i16 (by omega) (by omega)⟩
theorem even1_swap {s : SheetM} {p : PairM} {k : Nat} (hne : ¬ (p.ax = p.bx ∧ p.ay = p.by')) (h8 : in8 p.ax p.ay) (g8 : in8 p.bx p.by') :
    even1 s p k = { s with dye := u3 (u3 s.dye p.by'.toNat p.bx.toNat k ((s.dye p.ay.toNat p.ax.toNat k + s.dye p.by'.toNat p.bx.toNat k).tdiv 2)) p.ay.toNat p.ax.toNat k (s.dye p.ay.toNat p.ax.toNat k + s.dye p.by'.toNat p.bx.toNat k - (s.dye p.ay.toNat p.ax.toNat k + s.dye p.by'.toNat p.bx.toNat k).tdiv 2) } := by
  unfold even1
  rw [u3_comm (fun h => hne ⟨by omega, by omega⟩)]
end Ink
/- What the program means: baths. No conditions. -/
namespace Ink
open Go
def rinIt (s : SheetM) (share : Int) : Nat → SheetM
  | 0 => s
  | n + 1 => (rinseM (rinIt s share n) share).1
def bathO (s : SheetM) (share : Int) (k : Nat) : Nat → Int := (rinseM (rinIt s share k) share).2
def bathD (s : SheetM) (share : Int) (k : Nat) : DV := a1 .i64 (upTo (bathO s share k) 0 3)
def bathsD (s : SheetM) (share : Int) (n : Nat) : List DV := (List.range n).map (bathD s share)
def bathN (s : SheetM) (share : Int) (k : Nat) : Int := bathO s share k 0 + bathO s share k 1 + bathO s share k 2
section
variable {s : SheetM} {share : Int} {n k : Nat}
theorem rinIt_zero : rinIt s share 0 = s := rfl
theorem rinIt_succ : rinIt s share (n + 1) = (rinseM (rinIt s share n) share).1 := rfl
theorem bathsD_zero : bathsD s share 0 = [] := rfl
theorem bathsD_succ : bathsD s share (n + 1) = bathsD s share n ++ [a1 .i64 (upTo (rinseM (rinIt s share n) share).2 0 3)] := by unfold bathsD; rw [List.range_succ, List.map_append]; rfl
theorem bathsD_len : (bathsD s share n).length = n := by unfold bathsD; simp
theorem bathsD_take : (bathsD s share n).take n = bathsD s share n := by
  have := bathsD_len (s := s) (share := share) (n := n)
  rw [List.take_of_length_le (by omega)]
theorem bathsD_get (h : k < n) : (bathsD s share n)[k]? = some (a1 .i64 (upTo (bathO s share k) 0 3)) := by unfold bathsD; rw [List.getElem?_map, List.getElem?_range h]; rfl
theorem rinIt_ok (hd : dyeOk s) (hm : small s) (hs : 1 ≤ share ∧ share ≤ 15) : dyeOk (rinIt s share n) ∧ small (rinIt s share n) ∧ (rinIt s share n).w = s.w ∧ (rinIt s share n).h = s.h := by
  induction n with
  | zero => exact ⟨hd, hm, rfl, rfl⟩
  | succ n ih =>
    obtain ⟨h1, h2, h3, h4⟩ := ih
    have hr : RinOk (rinIt s share n) _ (rinseM (rinIt s share n) share) := RinOk.to (share := share) h1 hs h2 _ (Nat.le_refl _)
    rw [rinIt_succ]
    refine ⟨fun y x k hy hx hk => ?_, ?_, hr.w.trans h3, hr.h.trans h4⟩
    · have a := hr.dye y x k hy hx hk
      have b := h1 y x k hy hx hk
      omega
    · have a := hr.w
      have b := hr.h
      unfold small
      rw [a, b]
      exact h2
theorem bathO_bd (hd : dyeOk s) (hm : small s) (hs : 1 ≤ share ∧ share ≤ 15) (q : Nat) : 0 ≤ bathO s share k q ∧ bathO s share k q ≤ 192000 := by
  obtain ⟨h1, h2, h3, h4⟩ := rinIt_ok (n := k) hd hm hs
  have hr0 : RinOk (rinIt s share k) (3000 * (((rinIt s share k).w.toNat * (rinIt s share k).h.toNat : Nat) : Int)) (rinseM (rinIt s share k) share) := RinOk.to (share := share) h1 hs h2 _ (Nat.le_refl _)
  have hr := hr0.sum q
  have hwh : (rinIt s share k).w.toNat * (rinIt s share k).h.toNat ≤ 8 * 8 := Nat.mul_le_mul (by omega) (by omega)
  unfold bathO
  omega
end
def cleanTo (s : SheetM) (share bound : Int) : Nat → Option Nat
  | 0 => none
  | n + 1 => match cleanTo s share bound n with
    | some k => some k
    | none => if bathN s share n ≤ bound then some n else none
theorem cleanTo_none {s : SheetM} {share bound : Int} {n : Nat} (h : ∀ j < n, ¬ bathN s share j ≤ bound) : cleanTo s share bound n = none := by
  induction n with
  | zero => rfl
  | succ n ih => rw [cleanTo, ih fun j hj => h j (by omega)]; exact if_neg (h n (by omega))
theorem cleanTo_some {s : SheetM} {share bound : Int} {n i : Nat} (h : ∀ j < i, ¬ bathN s share j ≤ bound) (hi : bathN s share i ≤ bound) (hn : i < n) : cleanTo s share bound n = some i := by
  obtain ⟨d, rfl⟩ : ∃ d, n = i + 1 + d := ⟨n - (i + 1), by omega⟩
  induction d with
  | zero => rw [Nat.add_zero, cleanTo, cleanTo_none h]; exact if_pos hi
  | succ d ih => rw [← Nat.add_assoc, cleanTo, ih (by omega)]
def cleanP (share rinses bound : Int) : Prop := (1 ≤ share ∧ share ≤ 15) ∧ (0 ≤ rinses ∧ rinses ≤ 100) ∧ 0 ≤ bound
instance {a b c} : Decidable (cleanP a b c) := by unfold cleanP; infer_instance
noncomputable def cleanC (s : SheetM) (share rinses bound : Int) : Int := codeM s (decide (cleanP share rinses bound))
noncomputable def cleanV (s : SheetM) (share rinses bound : Int) : AV :=
  .tup [.int .i64 (if cleanC s share rinses bound = 0 then (match cleanTo s share bound rinses.toNat with | some k => (k : Int) | none => 0) else 0),
    .int .i64 (if cleanC s share rinses bound = 0 then (match cleanTo s share bound rinses.toNat with | some _ => 0 | none => 6) else cleanC s share rinses bound)]
section
variable {s : SheetM} {share rinses bound c : Int} {i : Nat}
theorem cleanV_no (e : cleanC s share rinses bound = c) (hc : c ≠ 0) : cleanV s share rinses bound = .tup [.int .i64 0, .int .i64 c] := by
  simp only [cleanV, e, hc, if_false]
theorem cleanV_some (e : cleanC s share rinses bound = 0) (h : cleanTo s share bound rinses.toNat = some i) : cleanV s share rinses bound = .tup [.int .i64 i, .int .i64 0] := by
  simp only [cleanV, e, h, if_true]
theorem cleanV_none (e : cleanC s share rinses bound = 0) (h : cleanTo s share bound rinses.toNat = none) : cleanV s share rinses bound = .tup [.int .i64 0, .int .i64 6] := by
  simp only [cleanV, e, h, if_true]
end
end Ink
/- What the program means: lists out of which something is deleted; lists that are marked. No conditions. -/
namespace Ink
open Go
/-- What 'DeleteFunc' has done after the first elements: the list, and how many it keeps. -/
def delTo {α : Type} (keep : α → Bool) (l : List α) : Nat → List α × Nat
  | 0 => (l, 0)
  | j + 1 => match l[j]? with
    | some v => if keep v then ((delTo keep l j).1.set (delTo keep l j).2 v, (delTo keep l j).2 + 1) else delTo keep l j
    | none => delTo keep l j
section
variable {α : Type} {keep : α → Bool} {l : List α} {j : Nat} {v : α}
theorem delTo_zero : delTo keep l 0 = (l, 0) := rfl
theorem delTo_yes (h : l[j]? = some v) (hk : keep v = true) : delTo keep l (j + 1) = ((delTo keep l j).1.set (delTo keep l j).2 v, (delTo keep l j).2 + 1) := by rw [delTo, h]; exact if_pos hk
theorem delTo_no (h : l[j]? = some v) (hk : keep v = false) : delTo keep l (j + 1) = delTo keep l j := by rw [delTo, h]; simp [hk]
theorem delTo_inv : (delTo keep l j).1.length = l.length ∧ (delTo keep l j).2 ≤ j ∧ (∀ q, j ≤ q → (delTo keep l j).1[q]? = l[q]?) ∧ (j ≤ l.length → (delTo keep l j).1.take (delTo keep l j).2 = (l.take j).filter keep) := by
  induction j with
  | zero => exact ⟨rfl, Nat.le_refl _, fun _ _ => rfl, fun _ => by simp [delTo]⟩
  | succ j ih =>
    obtain ⟨h1, h2, h3, h4⟩ := ih
    by_cases hj : j < l.length
    · have hv : l[j]? = some l[j] := List.getElem?_eq_getElem hj
      have htk : l.take (j + 1) = l.take j ++ [l[j]] := by rw [List.take_succ_eq_append_getElem hj]
      by_cases hk : keep l[j] = true
      · rw [delTo_yes hv hk]
        refine ⟨by simpa using h1, by dsimp only; omega, fun q hq => ?_, fun _ => ?_⟩
        · dsimp only
          rw [List.getElem?_set_ne (by omega)]
          exact h3 q (by omega)
        · dsimp only
          have h5 := h4 (by omega)
          rw [htk, List.filter_append, ← h5]
          have hlt : (delTo keep l j).2 < (delTo keep l j).1.length := by omega
          have e1 : [l[j]].filter keep = [l[j]] := by simp [hk]
          rw [e1]
          have hset : ((delTo keep l j).1.set (delTo keep l j).2 l[j])[(delTo keep l j).2]? = some l[j] := by rw [List.getElem?_set_self hlt]
          rw [List.take_succ_eq_append_getElem (by simpa using hlt)]
          congr 1
          · apply List.ext_getElem?
            intro q
            by_cases hq : q < (delTo keep l j).2
            · rw [List.getElem?_take_of_lt hq, List.getElem?_take_of_lt hq, List.getElem?_set_ne (by omega)]
            · rw [List.getElem?_eq_none (by simp; omega), List.getElem?_eq_none (by simp; omega)]
          · simp
      · have hk' : keep l[j] = false := by simpa using hk
        rw [delTo_no hv hk']
        refine ⟨h1, by omega, fun q hq => h3 q (by omega), fun _ => ?_⟩
        rw [h4 (by omega), htk, List.filter_append]
        simp [hk']
    · have hv : l[j]? = none := List.getElem?_eq_none (by omega)
      have e : delTo keep l (j + 1) = delTo keep l j := by rw [delTo, hv]
      rw [e]
      exact ⟨h1, by omega, fun q hq => h3 q (by omega), fun h => absurd h (by omega)⟩
/-- As long as nothing is deleted the list is as it was. -/
theorem delTo_all (h : ∀ q v, q < j → l[q]? = some v → keep v = true) (hj : j ≤ l.length) : delTo keep l j = (l, j) := by
  induction j with
  | zero => rfl
  | succ j ih =>
    have hv : l[j]? = some l[j] := List.getElem?_eq_getElem (by omega)
    have := ih (fun q v hq hv => h q v (by omega) hv) (by omega)
    rw [delTo_yes hv (h j _ (by omega) hv), this]
    dsimp only
    rw [List.set_getElem_self]
end
end Ink
/- What the law file's marks mean: folds and baths that are marked. No conditions. -/
namespace Ink
open Go
def mkF (i : Nat) : FoldM := ⟨IntKind.i8.wrap (1 + 3 * (i : Int)), decide ((1 + 3 * (i : Int) + 1).tmod 3 = 0), IntKind.i8.wrap (1 + 3 * (i : Int) + 2)⟩
def mkFs (n : Nat) : List FoldM := (List.range n).map mkF
def mkTo {α : Type} (g : Nat → α) (l : List α) (i : Nat) : List α := (List.range i).map g ++ l.drop i
section
variable {α : Type} {g : Nat → α} {l : List α} {i : Nat} {v : α}
theorem mkTo_zero : mkTo g l 0 = l := by simp [mkTo]
theorem mkTo_len (h : i ≤ l.length) : (mkTo g l i).length = l.length := by simp [mkTo]; omega
theorem mkTo_all : mkTo g l l.length = (List.range l.length).map g := by simp [mkTo]
theorem mkTo_get (h : i < l.length) : (mkTo g l i)[i]? = l[i]? := by
  unfold mkTo
  rw [List.getElem?_append_right (by simp), List.length_map, List.length_range, Nat.sub_self, List.getElem?_drop, Nat.add_zero]
theorem mkTo_set (h : i < l.length) : (mkTo g l i).set i (g i) = mkTo g l (i + 1) := by
  apply List.ext_getElem?
  intro q
  have hl := mkTo_len (g := g) (l := l) (i := i) (by omega)
  by_cases hq : q = i
  · subst hq
    rw [List.getElem?_set_self (by omega)]
    unfold mkTo
    rw [List.getElem?_append_left (by simp)]
    simp
  · rw [List.getElem?_set_ne (fun e => hq e.symm)]
    unfold mkTo
    by_cases h2 : q < i
    · rw [List.getElem?_append_left (by simp; omega), List.getElem?_append_left (by simp; omega), List.getElem?_map, List.getElem?_map, List.getElem?_range h2, List.getElem?_range (by omega)]
    · rw [List.getElem?_append_right (by simp; omega), List.getElem?_append_right (by simp; omega)]
      simp only [List.length_map, List.length_range, List.getElem?_drop]
      congr 1
      omega
theorem set_get {y : α} (h : i < l.length) : (l.set i y)[i]? = some y := List.getElem?_set_self h
theorem set_set {y z : α} : (l.set i y).set i z = l.set i z := List.set_set ..
end
end Ink
