/- What the program means: sheets and cells. No conditions. -/
import Derived.Test.YtdooejjnjfgnjaaInk16
set_option linter.unusedVariables false
set_option linter.unusedSimpArgs false
namespace Ink
open Go
def n8 (f : Nat → Int) : Nat → Int := upTo f 0 8
def n3 (f : Nat → Int) : Nat → Int := upTo f 0 3
def n88 (f : Nat → Nat → Int) : Nat → Nat → Int := upTo (fun i => n8 (f i)) (fun _ => 0) 8
def n83 (f : Nat → Nat → Int) : Nat → Nat → Int := upTo (fun i => n3 (f i)) (fun _ => 0) 8
def n883 (f : Nat → Nat → Nat → Int) : Nat → Nat → Nat → Int := upTo (fun i => n83 (f i)) (fun _ _ => 0) 8
def nS (s : SheetM) : SheetM := ⟨s.w, s.h, n88 s.wet, n883 s.dye, n8 s.wax⟩
structure SheetM.Ok (s : SheetM) : Prop where
  w : -128 ≤ s.w ∧ s.w < 128
  h : -128 ≤ s.h ∧ s.h < 128
  wet : ∀ i j, -32768 ≤ s.wet i j ∧ s.wet i j < 32768
  dye : ∀ i j k, -32768 ≤ s.dye i j k ∧ s.dye i j k < 32768
  wax : ∀ i, 0 ≤ s.wax i ∧ s.wax i < 256
abbrev ok8 (x : Int) : Prop := -128 ≤ x ∧ x < 128
abbrev in8 (x y : Int) : Prop := (0 ≤ x ∧ x < 8) ∧ 0 ≤ y ∧ y < 8
theorem in8_of {a b : Nat} (ha : a < 8) (hb : b < 8) : in8 (a : Int) (b : Int) := by omega
def hasP (s : SheetM) (x y : Int) : Prop := 0 ≤ x ∧ x < s.w ∧ 0 ≤ y ∧ y < s.h
instance {s : SheetM} {x y : Int} : Decidable (hasP s x y) := by unfold hasP; infer_instance
def waxP (s : SheetM) (x y : Int) : Prop := IntKind.u8.wrap (BitVec.ofInt 8 ((s.wax y.toNat).fdiv (2 ^ (min x.toNat 8))) &&& BitVec.ofInt 8 1).toNat = 1
instance {s : SheetM} {x y : Int} : Decidable (waxP s x y) := by unfold waxP; infer_instance
def wetM (s : SheetM) (x y : Int) : Int := s.wet y.toNat x.toNat
def darkM (s : SheetM) (x y : Int) : Int := s.dye y.toNat x.toNat 0 + s.dye y.toNat x.toNat 1 + s.dye y.toNat x.toNat 2
/-- The cells of a sheet of some sides, ordered, up to a place in a row. -/
def rowD (y x : Nat) : List DV := (List.range x).map fun (x : Nat) => spotD x y
def cellsTo (w y x : Nat) : List DV := ((List.range y).flatMap fun y => rowD y w) ++ rowD y x
def cellsD (w h : Nat) : List DV := cellsTo w h 0
theorem cellsTo_succ {w y x : Nat} : cellsTo w y (x + 1) = cellsTo w y x ++ [spotD x y] := by
  unfold cellsTo rowD; rw [List.range_succ, List.map_append, List.append_assoc]; rfl
theorem cellsTo_row {w y : Nat} : cellsTo w y w = cellsTo w (y + 1) 0 := by
  unfold cellsTo; rw [List.range_succ, List.flatMap_append]; simp [rowD]
theorem cellsTo_zero {w : Nat} : cellsTo w 0 0 = [] := rfl
theorem cellsTo_length {w y x : Nat} : (cellsTo w y x).length = w * y + x := by
  induction y generalizing x with
  | zero => simp [cellsTo, rowD]
  | succ y ih =>
    have : (cellsTo w (y + 1) x).length = (cellsTo w (y + 1) 0).length + x := by
      unfold cellsTo rowD; simp
    rw [this, ← cellsTo_row, ih, Nat.mul_succ]
theorem cellsTo_le {w y x : Nat} (hw : w ≤ 8) (hy : y ≤ 8) (hx : x ≤ 8) : (cellsTo w y x).length ≤ 72 := by
  rw [cellsTo_length]
  have : w * y ≤ 8 * 8 := Nat.mul_le_mul hw hy
  omega
def cellP (s : SheetM) (x y : Int) : Prop := (0 ≤ wetM s x y ∧ wetM s x y ≤ 200) ∧ (∀ k < 3, 0 ≤ s.dye y.toNat x.toNat k ∧ s.dye y.toNat x.toNat k ≤ 1000) ∧
  ((hasP s x y ∧ ¬ waxP s x y) ∨ (wetM s x y = 0 ∧ s.dye y.toNat x.toNat 0 = 0 ∧ s.dye y.toNat x.toNat 1 = 0 ∧ s.dye y.toNat x.toNat 2 = 0))
noncomputable instance {s : SheetM} {x y : Int} : Decidable (cellP s x y) := Classical.propDecidable _
def cellOk (s : SheetM) (x y : Int) : Prop := (waxP s x y → hasP s x y) ∧ cellP s x y
theorem cell_all {s : SheetM} {x y : Int} (h : cellP s x y) : (0 ≤ wetM s x y ∧ wetM s x y ≤ 200) ∧ (0 ≤ s.dye y.toNat x.toNat 0 ∧ s.dye y.toNat x.toNat 0 ≤ 1000) ∧ (0 ≤ s.dye y.toNat x.toNat 1 ∧ s.dye y.toNat x.toNat 1 ≤ 1000) ∧ (0 ≤ s.dye y.toNat x.toNat 2 ∧ s.dye y.toNat x.toNat 2 ≤ 1000) :=
  ⟨h.1, h.2.1 0 (by omega), h.2.1 1 (by omega), h.2.1 2 (by omega)⟩
def validS (s : SheetM) : Prop := (1 ≤ s.w ∧ s.w ≤ 8) ∧ (1 ≤ s.h ∧ s.h ≤ 8) ∧ ∀ y < 8, ∀ x < 8, cellOk s ((x : Nat) : Int) ((y : Nat) : Int)
noncomputable instance {s : SheetM} : Decidable (validS s) := Classical.propDecidable _
noncomputable instance {s : SheetM} {x y : Int} : Decidable (cellOk s x y) := Classical.propDecidable _
theorem e_arragg {m : Nat} {e : Sh} : (Sh.arr m e).agg = true := rfl
theorem e_arr3 {k : IntKind} {f g : Nat → Int} : eqD (.arr 3 (.int k)) (a1 k f) (a1 k g) = decide (f 0 = g 0 ∧ f 1 = g 1 ∧ f 2 = g 2) := by
  rw [a1_eq, Bool.eq_iff_iff]
  simp [List.range_succ, and_assoc]
/-- The sum of the first numbers. -/
def sumTo (f : Nat → Int) : Nat → Int
  | 0 => 0
  | n + 1 => sumTo f n + f n
theorem sumTo_zero {f : Nat → Int} : sumTo f 0 = 0 := rfl
theorem sumTo_succ {f : Nat → Int} {n : Nat} : sumTo f (n + 1) = sumTo f n + f n := rfl
theorem sumTo_3 {f : Nat → Int} : sumTo f 3 = f 0 + f 1 + f 2 := by simp [sumTo]
theorem sumTo_le {f : Nat → Int} {n : Nat} {a b : Int} (h : ∀ k < n, a ≤ f k ∧ f k ≤ b) : a * n ≤ sumTo f n ∧ sumTo f n ≤ b * n := by
  induction n with
  | zero => simp [sumTo]
  | succ n ih =>
    obtain ⟨h1, h2⟩ := ih fun k hk => h k (by omega)
    obtain ⟨h3, h4⟩ := h n (by omega)
    simp only [sumTo, cast_succ, Int.mul_add, Int.mul_one]
    omega
abbrev small (s : SheetM) : Prop := (0 ≤ s.w ∧ s.w ≤ 8) ∧ 0 ≤ s.h ∧ s.h ≤ 8
theorem row_get {y w i : Nat} (h : i < w) : (rowD y w)[i]? = some (spotD i y) := by
  unfold rowD; simp [h]
theorem cells_getTo {w y i j : Nat} (hj : j < y) (hi : i < w) : (cellsTo w y 0)[w * j + i]? = some (spotD i j) := by
  induction y with
  | zero => omega
  | succ y ih =>
    rw [← cellsTo_row]
    have hl : (cellsTo w y 0).length = w * y := by rw [cellsTo_length]; omega
    have he : cellsTo w y w = cellsTo w y 0 ++ rowD y w := by unfold cellsTo; simp [rowD]
    rw [he]
    by_cases hjy : j < y
    · have : w * j + w ≤ w * y := by rw [← Nat.mul_succ]; exact Nat.mul_le_mul_left _ hjy
      rw [List.getElem?_append_left (by omega)]
      exact ih hjy
    · obtain rfl : j = y := by omega
      rw [List.getElem?_append_right (by omega), hl, Nat.add_sub_cancel_left]
      exact row_get hi
theorem cells_get {w h n : Nat} (hn : n < w * h) : (cellsD w h)[n]? = some (spotD (n % w : Nat) (n / w : Nat)) := by
  have hw : 0 < w := by
    rcases Nat.eq_zero_or_pos w with rfl | h
    · simp at hn
    · exact h
  have h1 := Nat.mod_lt n hw
  have h2 : n / w < h := (Nat.div_lt_iff_lt_mul hw).2 (by rwa [Nat.mul_comm])
  have := cells_getTo h2 h1
  rwa [Nat.div_add_mod] at this
theorem cellsD_length {w h : Nat} : (cellsD w h).length = w * h := by unfold cellsD; rw [cellsTo_length]; rfl
theorem cell_in {w h n : Nat} (hn : n < w * h) : n % w < w ∧ n / w < h := by
  have hw : 0 < w := by
    rcases Nat.eq_zero_or_pos w with rfl | h
    · simp at hn
    · exact h
  exact ⟨Nat.mod_lt n hw, (Nat.div_lt_iff_lt_mul hw).2 (by rwa [Nat.mul_comm])⟩
theorem u1_upTo {F : Nat → Int} {d v : Int} {n k : Nat} (h : k < n) : u1 (upTo F d n) k v = upTo (u1 F k v) d n := by
  funext j; unfold u1 upTo
  by_cases e : j = k
  · subst e; simp [h]
  · simp [e]
theorem upTo_at {F : Nat → Int} {d : Int} {n k : Nat} (h : k < n) : upTo F d n k = F k := by simp [upTo, h]
theorem upTo_const {n : Nat} {d : Int} : upTo (fun _ => d) d n = fun _ => d := by funext j; simp [upTo]
theorem u1_step {F d : Nat → Int} {k : Nat} : u1 (fun i => F i + if i < k then d i else 0) k (F k + d k) = fun i => F i + if i < k + 1 then d i else 0 := by
  funext i; unfold u1
  by_cases e : i = k
  · subst e; simp
  · by_cases e2 : i < k
    · simp [e, e2, show i < k + 1 by omega]
    · simp [e, e2, show ¬ i < k + 1 by omega]
theorem step3 {F d : Nat → Int} {k : Nat} {v : Int} (hk : k < 3) (hv : v = F k + d k) : u1 (upTo (fun i => F i + if i < k then d i else 0) 0 3) k v = upTo (fun i => F i + if i < k + 1 then d i else 0) 0 3 := by
  rw [u1_upTo hk, hv, u1_step]
theorem end3 {F d : Nat → Int} : upTo (fun i => F i + if i < 3 then d i else 0) 0 3 = upTo (fun i => F i + d i) 0 3 := by
  funext j; unfold upTo
  by_cases h : j < 3 <;> simp [h]
theorem beg3 {F d : Nat → Int} : upTo (fun i => F i + if i < 0 then d i else 0) 0 3 = upTo F 0 3 := by
  funext j; simp [upTo]
theorem sumTo_congr {f g : Nat → Int} {n : Nat} (h : ∀ k < n, f k = g k) : sumTo f n = sumTo g n := by
  induction n with
  | zero => rfl
  | succ n ih => rw [sumTo, sumTo, ih fun k hk => h k (by omega), h n (by omega)]
theorem sumTo_app {f : Nat → Int} {a b : Nat} : sumTo f (a + b) = sumTo f a + sumTo (fun i => f (a + i)) b := by
  induction b with
  | zero => simp [sumTo]
  | succ b ih => rw [← Nat.add_assoc, sumTo, ih, sumTo]; omega
theorem sumTo_const0 {n : Nat} : sumTo (fun _ => 0) n = 0 := by
  induction n with
  | zero => rfl
  | succ n ih => rw [sumTo, ih]; rfl
theorem sumTo_ext {f : Nat → Int} {a b : Nat} (hab : a ≤ b) (h : ∀ k, a ≤ k → k < b → f k = 0) : sumTo f b = sumTo f a := by
  obtain ⟨c, rfl⟩ := Nat.exists_eq_add_of_le hab
  have : sumTo (fun i => f (a + i)) c = sumTo (fun _ => 0) c := sumTo_congr fun k hk => h _ (by omega) (by omega)
  rw [sumTo_app, this, sumTo_const0, Int.add_zero]
theorem sumTo_cells {g : Nat → Nat → Int} {w h : Nat} : sumTo (fun m => g (m / w) (m % w)) (w * h) = sumTo (fun y => sumTo (fun x => g y x) w) h := by
  induction h with
  | zero => rfl
  | succ h ih =>
    rw [Nat.mul_succ, sumTo_app, ih, sumTo]
    congr 1
    refine sumTo_congr fun k hk => ?_
    have hw : 0 < w := by omega
    rw [Nat.mul_add_div hw, Nat.mul_add_mod, Nat.mod_eq_of_lt hk, Nat.div_eq_of_lt hk, Nat.add_zero]
theorem sumTo_bd {f : Nat → Int} {n : Nat} {c : Int} (hc : 0 ≤ c) (hn : n ≤ 8) (h : ∀ k < n, -c ≤ f k ∧ f k ≤ c) : -(8 * c) ≤ sumTo f n ∧ sumTo f n ≤ 8 * c := by
  obtain ⟨h1, h2⟩ := sumTo_le h
  have : c * n ≤ c * 8 := Int.mul_le_mul_of_nonneg_left (by omega) hc
  rw [Int.neg_mul] at h1
  omega
/-- The sum over the first cells, and over all places. -/
def sumCells (s : SheetM) (g : Nat → Nat → Int) (n : Nat) : Int := sumTo (fun m => g (m / s.w.toNat) (m % s.w.toNat)) n
theorem sumCells_zero {s : SheetM} {g : Nat → Nat → Int} : sumCells s g 0 = 0 := rfl
theorem sumCells_succ {s : SheetM} {g : Nat → Nat → Int} {n : Nat} : sumCells s g (n + 1) = sumCells s g n + g (n / s.w.toNat) (n % s.w.toNat) := rfl
def sumAll (g : Nat → Nat → Int) : Int := sumTo (fun y => sumTo (fun x => g y x) 8) 8
theorem sumCells_all {s : SheetM} {g : Nat → Nat → Int} (hs : small s) (h : ∀ y < 8, ∀ x < 8, ¬ (x < s.w.toNat ∧ y < s.h.toNat) → g y x = 0) : sumCells s g (s.w.toNat * s.h.toNat) = sumAll g := by
  unfold sumCells sumAll
  rw [sumTo_cells]
  rw [sumTo_ext (a := s.h.toNat) (b := 8) (by omega) fun y h1 h2 => ?_]
  · refine sumTo_congr fun y hy => (sumTo_ext (by omega) fun x h1 h2 => h y (by omega) x h2 (by omega)).symm
  · rw [sumTo_congr (g := fun _ => 0) (fun x hx => h y h2 x hx (by omega)), sumTo_const0]
theorem valid_out {s : SheetM} (hv : validS s) {x y : Nat} (hx : x < 8) (hy : y < 8) (h : ¬ (x < s.w.toNat ∧ y < s.h.toNat)) : s.wet y x = 0 ∧ ∀ k < 3, s.dye y x k = 0 := by
  have h1 := (hv.2.2 y hy x hx).2.2.2
  rcases h1 with h1 | h1
  · unfold hasP at h1; omega
  · unfold wetM at h1
    simp only [Int.toNat_natCast] at h1
    refine ⟨h1.1, fun k hk => ?_⟩
    match k, hk with
    | 0, _ => exact h1.2.1
    | 1, _ => exact h1.2.2.1
    | 2, _ => exact h1.2.2.2
theorem valid_small {s : SheetM} (hv : validS s) : small s := ⟨⟨by have := hv.1; omega, hv.1.2⟩, by have := hv.2.1; omega, hv.2.1.2⟩
noncomputable def codeM (s : SheetM) (r : Bool) : Int := if validS s then (if r then 0 else 2) else 1
theorem upTo_P {f : Nat → Int} {n : Nat} {p : Int → Prop} (hf : ∀ i, p (f i)) (h0 : p 0) (i : Nat) : p (upTo f 0 n i) := by
  unfold upTo; split
  · exact hf i
  · exact h0
theorem nS_Ok {s : SheetM} (h : s.Ok) : (nS s).Ok := by
  refine ⟨h.w, h.h, fun i j => ?_, fun i j k => ?_, fun i => ?_⟩
  · have e : n88 s.wet i j = if i < 8 then n8 (s.wet i) j else 0 := by unfold n88 upTo; split <;> rfl
    show -32768 ≤ n88 s.wet i j ∧ n88 s.wet i j < 32768
    rw [e]; split
    · exact upTo_P (p := fun x => -32768 ≤ x ∧ x < 32768) (h.wet i) (by omega) j
    · omega
  · have e : n883 s.dye i j k = if i < 8 then (if j < 8 then n3 (s.dye i j) k else 0) else 0 := by
      by_cases hi : i < 8 <;> by_cases hj : j < 8 <;> simp [hi, hj, n883, n83, upTo]
    show -32768 ≤ n883 s.dye i j k ∧ n883 s.dye i j k < 32768
    rw [e]; split
    · split
      · exact upTo_P (p := fun x => -32768 ≤ x ∧ x < 32768) (h.dye i j) (by omega) k
      · omega
    · omega
  · exact upTo_P (p := fun x => 0 ≤ x ∧ x < 256) h.wax (by omega) i
end Ink
