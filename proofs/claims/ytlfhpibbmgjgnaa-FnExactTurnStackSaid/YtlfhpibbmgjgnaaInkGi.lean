/- Contracts of functions of the program, by the texts that it imports. No conditions. -/
import Derived.Test.YtlfhpibbmgjgnaaInkGh
import Derived.Test.YtlfhpibbmgjgnaaInkGg
import Derived.ChangeArms
import Derived.OpenShut
set_option linter.unusedVariables false
set_option linter.unusedSimpArgs false
/- What the law file's marks mean: spots that are marked; the cells of a sheet as spots. No conditions. -/
namespace Ink
open Go
def cellsL (w h : Nat) : List SpotM := (List.range (w * h)).map fun n => ⟨((n % w : Nat) : Int), ((n / w : Nat) : Int)⟩
section
variable {keep : SpotM → Bool} {l : List SpotM} {n : Nat} {p : SpotM}
end
end Ink
/- Contracts at any heap whose three blocks may hold pointers. No conditions. -/
namespace Ink
open Go
end Ink
/- What the law file's marks mean: baths that are marked. No conditions. -/
namespace Ink
open Go
section
variable {f : Nat → Int} {L : List (Nat → Int)} {i j q : Nat}
end
end Ink
/- What the program means: a spot looked for in a list; giving a unit. No conditions. -/
namespace Ink
open Go
section
variable {s : SheetM} {x y : Int} {p : SpotM}
end
end Ink
/- What the program means: the cell that is wet last. No conditions. -/
namespace Ink
open Go
section
variable {g : Nat → Nat → Int} {w n m : Nat}
end
section
variable {s o t : SheetM} {W n m : Nat} {r : Int} {g : Nat → Nat → Int}
end
end Ink
/- What the program means: ink that runs until it stands. No conditions. -/
namespace Ink
open Go
section
variable {s : SheetM} {t : DryM} {x y : Int} {l : List SpotM} {i n k : Nat}
end
end Ink
/- Slices that come from outside: what lies in memory where they point. No conditions. -/
namespace Ink
open Go Go.ChangeShapes Go.WideShapes Go.RowKit
def Wf : Sh → DV → Prop
  | .int k, .int _ n => (Lit.int k n).wf = true
  | .arr n e, .arr f => ∀ i, i < n → Wf e (f i)
  | .cons a b, .cons x y => Wf a x ∧ Wf b y
  | _, _ => True
theorem cellsOf_of {P : Program} {τ : Sh} {t : TypeId} (h : TyOk P τ t) : P.cellsOf t = τ.size := by
  obtain ⟨i, h1, h2, _⟩ := h.info
  unfold Program.cellsOf
  rw [h1]
  exact h2
theorem fld_ge {P : Program} : ∀ {b : Sh} {r : List Field} {o i : Nat} {f : Field}, FldOk P b r o → r[i]? = some f → o ≤ f.offset
  | .cons a b, g :: r, o, 0, f, h, hf => by
    simp only [FldOk] at h
    simp at hf
    subst hf
    omega
  | .cons a b, g :: r, o, i + 1, f, h, hf => by
    simp only [FldOk] at h
    have := fld_ge h.2.2.2 (by simpa using hf)
    omega
  | .unit, [], _, _, _, _, hf => by simp at hf
  | .int _, _, _, _, _, h, _ => by simp [FldOk] at h
  | .bool, _, _, _, _, h, _ => by simp [FldOk] at h
  | .str, _, _, _, _, h, _ => by simp [FldOk] at h
  | .arr _ _, _, _, _, _, h, _ => by simp [FldOk] at h
  | .unit, _ :: _, _, _, _, h, _ => by simp [FldOk] at h
  | .cons _ _, [], _, _, _, h, _ => by simp [FldOk] at h
theorem flatMap_blocks {α : Type} {g : Nat → List α} {m : Nat} : ∀ (n : Nat) (cs : List α), cs.length = n * m → (∀ i, i < n → (cs.drop (i * m)).take m = g i) → cs = (List.range n).flatMap g
  | 0, cs, hl, _ => by
    have : cs = [] := List.eq_nil_of_length_eq_zero (by simpa using hl)
    simp [this]
  | n + 1, cs, hl, h => by
    have hle : n * m ≤ cs.length := by rw [hl, Nat.succ_mul]; omega
    have h1 := flatMap_blocks (m := m) (g := g) n (cs.take (n * m)) (by rw [List.length_take]; omega) fun i hi => by
      rw [← h i (by omega), List.drop_take, List.take_take]
      congr 1
      have : (i + 1) * m ≤ n * m := Nat.mul_le_mul_right _ (by omega)
      rw [Nat.succ_mul] at this
      omega
    have h2 := h n (by omega)
    rw [List.take_of_length_le (by simp; rw [hl, Nat.succ_mul]; omega)] at h2
    rw [List.range_succ, List.flatMap_append, ← h1]
    simp [← h2]
section
variable {H : Type} {enc : TypeId × Value → H} {P : Program} {w : World} {base : Nat} {sp : Nat → Bool} {hd : Bool}
theorem trod_data {σ : Sh} : (∀ {t : TypeId} {fuel : Nat} {cs : List Value} {x : DataW H × List MemPlace}, TyOk P σ t → DataW.trod enc P w base sp hd fuel t cs = some x → ∃ v, Has σ v ∧ cs = flat σ v ∧ Wf σ v) ∧
    (∀ {r : List Field} {o m : Nat} {cs : List Value}, FldOk P σ r o → cs.length = σ.size → (∀ (i : Nat) (f : Field), r[i]? = some f → ∃ y, DataW.trod enc P w base sp hd m f.type ((cs.drop (f.offset - o)).take (P.cellsOf f.type)) = some y) → ∃ v, Has σ v ∧ cs = flat σ v ∧ Wf σ v) := by
  induction σ with
  | int k =>
    refine ⟨fun ht h => ?_, fun h => by simp [FldOk] at h⟩
    simp only [TyOk] at ht
    obtain ⟨n, rfl, _, hw⟩ := DataW.trod_int ht.1 h
    exact ⟨.int k n, rfl, rfl, hw⟩
  | bool =>
    refine ⟨fun ht h => ?_, fun h => by simp [FldOk] at h⟩
    simp only [TyOk] at ht
    obtain ⟨b, rfl, _⟩ := DataW.trod_bool ht.1 h
    exact ⟨.bool b, trivial, rfl, trivial⟩
  | str =>
    refine ⟨@fun t fuel cs x ht h => ?_, fun h => by simp [FldOk] at h⟩
    simp only [TyOk] at ht
    have : ∃ s, cs = [.string s] := by
      cases fuel with
      | zero => simp [DataW.trod] at h
      | succ n =>
        unfold DataW.trod at h
        rw [ht.1] at h
        split at h <;> simp_all
    obtain ⟨s, rfl⟩ := this
    exact ⟨.str s, trivial, rfl, trivial⟩
  | unit =>
    refine ⟨fun ht h => ?_, @fun r o m cs h hl _ => ?_⟩
    · have hc := cellsOf_of ht
      simp only [TyOk] at ht
      obtain ⟨xs, n, _, _, h1, _⟩ := DataW.trod_struct ht.1 h
      rw [hc] at h1
      exact ⟨.unit, trivial, List.eq_nil_of_length_eq_zero h1, trivial⟩
    · exact ⟨.unit, trivial, List.eq_nil_of_length_eq_zero hl, trivial⟩
  | arr n e ih =>
    refine ⟨@fun t fuel cs x ht h => ?_, fun h => by simp [FldOk] at h⟩
    have hc := cellsOf_of ht
    simp only [TyOk] at ht
    obtain ⟨⟨et, hu, hte⟩, _⟩ := ht
    obtain ⟨xs, m, _, _, h1, h2, h3⟩ := DataW.trod_array hu h
    rw [hc] at h1
    have hce := cellsOf_of hte
    rw [hce] at h3
    have hall : ∀ i, i < n → ∃ v, Has e v ∧ List.take e.size (List.drop (i * e.size) cs) = flat e v ∧ Wf e v := fun i hi => by
      have h4 := h3 i hi
      rw [List.getElem?_eq_getElem (show i < xs.length by omega)] at h4
      exact ih.1 hte h4
    refine ⟨.arr fun i => if hi : i < n then Classical.choose (hall i hi) else .unit, fun i hi => ?_, ?_, fun i hi => ?_⟩
    · simp only [hi, dif_pos]
      exact (Classical.choose_spec (hall i hi)).1
    · simp only [flat]
      refine flatMap_blocks n _ (by simpa [Sh.size] using h1) fun i hi => ?_
      simp only [hi, dif_pos]
      exact (Classical.choose_spec (hall i hi)).2.1
    · simp only [hi, dif_pos]
      exact (Classical.choose_spec (hall i hi)).2.2
  | cons a b iha ihb =>
    have key : ∀ {f : Field} {r : List Field} {o m : Nat} {cs : List Value}, f.offset = o → TyOk P a f.type → FldOk P b r (o + a.size) → cs.length = a.size + b.size →
        (∀ (i : Nat) (g : Field), (f :: r)[i]? = some g → ∃ y, DataW.trod enc P w base sp hd m g.type ((cs.drop (g.offset - o)).take (P.cellsOf g.type)) = some y) → ∃ v, Has (.cons a b) v ∧ cs = flat (.cons a b) v ∧ Wf (.cons a b) v := by
      intro f r o m cs hf hta hfb hl hall
      obtain ⟨y, hy⟩ := hall 0 f (by simp)
      rw [hf, Nat.sub_self, List.drop_zero, cellsOf_of hta] at hy
      obtain ⟨va, h1, h2, h3⟩ := iha.1 hta hy
      obtain ⟨vb, h4, h5, h6⟩ := ihb.2 (cs := cs.drop a.size) (m := m) hfb (by simp; omega) fun i g hg => by
        obtain ⟨y, hy⟩ := hall (i + 1) g (by simpa using hg)
        have hge := fld_ge hfb hg
        refine ⟨y, ?_⟩
        rw [List.drop_drop, show a.size + (g.offset - (o + a.size)) = g.offset - o by omega]
        exact hy
      refine ⟨.cons va vb, ⟨h1, h4⟩, ?_, ⟨h3, h6⟩⟩
      simp only [flat]
      rw [← h2, ← h5, List.take_append_drop]
    refine ⟨fun ht h => ?_, @fun r o m cs h hl hall => ?_⟩
    · have hc := cellsOf_of ht
      simp only [TyOk] at ht
      obtain ⟨⟨fs, f, r, hu, hfs, hf0, _, hta, hfb⟩, _⟩ := ht
      obtain ⟨xs, n, _, _, h1, h2, h3⟩ := DataW.trod_struct hu h
      rw [hc] at h1
      refine key (o := 0) (m := n) hf0 hta (by simpa using hfb) (by simpa [Sh.size] using h1) fun i g hg => ?_
      rw [← hfs, Array.getElem?_toList] at hg
      have h4 := h3 i g hg
      have hi := (Array.getElem?_eq_some_iff.1 hg).1
      rw [List.getElem?_eq_getElem (show i < xs.length by omega)] at h4
      exact ⟨_, by rw [Nat.sub_zero]; exact h4⟩
    · cases r with
      | nil => simp [FldOk] at h
      | cons f r =>
        simp only [FldOk] at h
        exact key h.1 h.2.2.1 h.2.2.2 (by simpa [Sh.size] using hl) hall
theorem liesAt_of {α : Type} {l xs : List α} {o : Nat} (hne : xs ≠ []) (h : ∀ q (hq : q < xs.length), l[o + q]? = some xs[q]) : LiesAt l o xs := by
  have hpos : 0 < xs.length := List.length_pos_iff.2 hne
  have hlast := (List.getElem?_eq_some_iff.1 (h (xs.length - 1) (by omega))).1
  refine ⟨l.take o, l.drop (o + xs.length), ?_, by simp; omega⟩
  apply List.ext_getElem?
  intro q
  rw [List.append_assoc]
  by_cases h1 : q < o
  · rw [List.getElem?_append_left (by simp; omega), List.getElem?_take_of_lt h1]
  · rw [List.getElem?_append_right (by simp; omega)]
    have hlen : (l.take o).length = o := by simp; omega
    rw [hlen]
    by_cases h2 : q - o < xs.length
    · rw [List.getElem?_append_left h2]
      have := h (q - o) h2
      rw [show o + (q - o) = q by omega] at this
      rw [this, List.getElem?_eq_getElem h2]
    · rw [List.getElem?_append_right (by omega), List.getElem?_drop]
      congr 1
      omega
theorem open_slice {t e : TypeId} {σ : Sh} {fuel : Nat} {cs : List Value} {x : DataW H × List MemPlace} (ht : P.underlying t = some (.slice e)) (hte : TyOk P σ e) (hz : σ.size ≠ 0) (h : DataW.trod enc P w base sp hd fuel t cs = some x) :
    (∃ a cap, cs = [.slice a 0 cap]) ∨ ∃ (blk off cap : Nat) (L : List DV), (L ≠ [] ∧ L.length ≤ maxLen) ∧ cs = [.slice (some ⟨blk, off, none⟩) L.length cap] ∧ (∀ v ∈ L, Has σ v ∧ Wf σ v) ∧ ∃ c T fz, w.heap[blk]? = some (.cells c T fz) ∧ LiesAt c.toList off (L.flatMap (flat σ)) := by
  rcases DataW.trod_slice ht h with ⟨h0, _⟩ | ⟨a, len, cap, elems, rest, n, _, rfl, _, hb, hl, hm, hlen, hel, _, _⟩
  · exact .inl ⟨none, 0, h0⟩
  have hc := cellsOf_of hte
  rw [hc] at hel
  by_cases h0 : len = 0
  · subst h0; exact .inl ⟨some a, cap, rfl⟩
  right
  have each : ∀ i, i < len → ∃ v, Has σ v ∧ Wf σ v ∧ w.cells? base (a.add (i * σ.size)) σ.size = some (flat σ v) := fun i hi => by
    have h1 := hel i hi
    rw [List.getElem?_eq_getElem (show i < elems.length by omega), Option.bind_eq_some_iff] at h1
    obtain ⟨cs', h2, h3⟩ := h1
    obtain ⟨v, h4, h5, h6⟩ := trod_data.1 hte h3
    exact ⟨v, h4, h6, by rw [h2, h5]⟩
  let g : Nat → DV := fun i => if hi : i < len then Classical.choose (each i hi) else .unit
  have hg : ∀ i, i < len → Has σ (g i) ∧ Wf σ (g i) ∧ w.cells? base (a.add (i * σ.size)) σ.size = some (flat σ (g i)) := fun i hi => by
    show Has σ (if hi : i < len then _ else _) ∧ _
    simp only [g, hi, dif_pos]
    exact Classical.choose_spec (each i hi)
  have hadd : ∀ (m n : Nat), (a.add m).add n = a.add (m + n) := fun m n => by
    unfold Addr.add
    by_cases hm : m = 0 <;> by_cases hn : n = 0 <;> simp [hm, hn, Nat.add_assoc]
  have hcell : ∀ i j (hi : i < len) (hj : j < (flat σ (g i)).length), w.cell? (a.add (i * σ.size + j)) = some (flat σ (g i))[j] := fun i j hi hj => by
    have h1 := World.cells?_some (hg i hi).2.2
    have hfl := flat_length (hg i hi).1
    have h2 := h1.2.2 j (by omega)
    rw [hadd] at h2
    rw [h2, List.getElem?_eq_getElem hj]
  have hpos : 0 < len := by omega
  have hf0 := flat_length (hg 0 hpos).1
  have h00 := hcell 0 0 hpos (by omega)
  rw [Nat.zero_mul, Nat.add_zero, show a.add 0 = a by simp [Addr.add]] at h00
  have hspot : a.spot = none ∧ ∃ c T fz, w.heap[a.block]? = some (.cells c T fz) := by
    unfold World.cell? at h00
    cases hq : w.heap[a.block]? with
    | none => rw [hq] at h00; cases h00
    | some ob =>
      rw [hq] at h00
      cases ob <;> first | (cases h00; done) | skip
      dsimp only at h00
      cases hs : a.spot with
      | none => exact ⟨rfl, _, _, _, rfl⟩
      | some _ => rw [hs] at h00; simp at h00
  obtain ⟨hs, c, T, fz, hblk⟩ := hspot
  have ha : a = ⟨a.block, a.off, none⟩ := by cases a; simp only at hs; rw [hs]
  have hLl : ((List.range len).map g).length = len := by simp
  refine ⟨a.block, a.off, cap, (List.range len).map g, ⟨?_, by rw [hLl]; omega⟩, ?_, ?_, c, T, fz, hblk, ?_⟩
  · intro he; have := congrArg List.length he; simp at this; omega
  · rw [hLl, ← ha]
  · intro v hv
    rw [List.mem_map] at hv
    obtain ⟨i, hi, rfl⟩ := hv
    exact ⟨(hg i (List.mem_range.1 hi)).1, (hg i (List.mem_range.1 hi)).2.1⟩
  · have hfl : ∀ i, i < len → (flat σ (g i)).length = σ.size := fun i hi => flat_length (hg i hi).1
    have hlen' : (((List.range len).map g).flatMap (flat σ)).length = len * σ.size := by
      rw [List.flatMap_map]; exact flatMap_range_length _ _ _ hfl
    refine liesAt_of ?_ fun q hq => ?_
    · intro he
      rw [he] at hlen'
      have : 0 < len * σ.size := Nat.mul_pos hpos (by omega)
      simp at hlen'
      omega
    · rw [hlen'] at hq
      have hzp : 0 < σ.size := by omega
      have hi : q / σ.size < len := (Nat.div_lt_iff_lt_mul hzp).2 hq
      have hj : q % σ.size < σ.size := Nat.mod_lt _ hzp
      have hqe : q / σ.size * σ.size + q % σ.size = q := by rw [Nat.mul_comm]; exact Nat.div_add_mod q σ.size
      have h1 := hcell (q / σ.size) (q % σ.size) hi (by rw [hfl _ hi]; exact hj)
      rw [hqe] at h1
      have h2 : w.cell? (a.add q) = c[a.off + q]? := by
        rw [ha, add_addr, cell_of_row w _ _ c T fz hblk]
      have hLi : ((List.range len).map g)[q / σ.size]? = some (g (q / σ.size)) := by simp [hi]
      have h3 := flatMap_at (e := σ) (fun v hv => by
        rw [List.mem_map] at hv
        obtain ⟨i, hi, rfl⟩ := hv
        exact (hg i (List.mem_range.1 hi)).1) hLi
      obtain ⟨pa, pb, h4, h5⟩ := h3
      have h6 : (((List.range len).map g).flatMap (flat σ))[q]? = some ((flat σ (g (q / σ.size)))[q % σ.size]'(by rw [hfl _ hi]; exact hj)) := by
        rw [h4, List.append_assoc, List.getElem?_append_right (by omega), List.getElem?_append_left (by rw [hfl _ hi]; omega)]
        rw [show q - pa.length = q % σ.size by omega]
        exact List.getElem?_eq_getElem _
      rw [Array.getElem?_toList, ← h2, h1, ← h6]
      exact List.getElem?_eq_getElem _
end
end Ink
/- A writer of one block that looks at two others; cells at an edge. No conditions. -/
namespace Ink
open Go
noncomputable def edgeKeep (s : SheetM) (p : SpotM) : Bool := decide (0 < wetM s p.x p.y) && (nbrs s p.x p.y).any (fun q => decide (¬ 0 < wetM s q.x q.y))
noncomputable abbrev edgeL (s : SheetM) : List SpotM := (cellsL s.w.toNat s.h.toNat).filter (edgeKeep s)
end Ink
/- A reader of three blocks that makes new ones; rows of bools; cells at a ring. No conditions. -/
namespace Ink
open Go
/-! ### Rows of bools -/
def b2 (g : Nat → Nat → Bool) : DV := .arr fun j => .arr fun i => .bool (g j i)
def v2 (g : Nat → Nat → Bool) (y x : Nat) (v : Bool) : Nat → Nat → Bool := fun j i => if j = y ∧ i = x then v else g j i
section
variable {g : Nat → Nat → Bool} {x y : Nat} {v : Bool}
variable {f : Nat → Nat → Bool}
end
def ringKeep (f : Nat → Nat → Int) (r : Int) (p : SpotM) : Bool := decide (f p.y.toNat p.x.toNat = r)
noncomputable abbrev ringL (s : SheetM) (r : Int) : List SpotM := (cellsL s.w.toNat s.h.toNat).filter (ringKeep (ringsM s) r)
end Ink
/- A writer of two blocks; what the program means: a brush that touches a cell. No conditions. -/
namespace Ink
open Go
section
variable {s : SheetM} {b : BrushM} {x y : Int} {k : Nat}
end
end Ink
/- What the program means: sheets that can be folded. No conditions. -/
namespace Ink
open Go
theorem fstD_anyG {α : Type} {keep : α → Bool} {l : List α} : (0 ≤ (if fstD keep l = l.length then (-1 : Int) else (fstD keep l : Int))) ↔ (l.any fun p => !keep p) = true := by
  unfold fstD
  by_cases h : (l.any fun p => !keep p) = true
  · have h2 := List.any_eq_true.1 h
    obtain ⟨x, hx, hk⟩ := h2
    have : l.findIdx (fun v => !keep v) < l.length := List.findIdx_lt_length_of_exists ⟨x, hx, hk⟩
    rw [if_neg (by omega)]
    simp only [h, iff_true]
    omega
  · have : l.findIdx (fun v => !keep v) = l.length := by
      rw [List.findIdx_eq_length]
      intro x hx
      cases hk : !keep x with
      | false => rfl
      | true => exact absurd (List.any_eq_true.2 ⟨x, hx, hk⟩) h
    rw [if_pos this]
    simp only [h]
    constructor
    · intro h; omega
    · intro h; cases h
section
variable {s : SheetM} {p : PairM} {k i : Nat} {l : List PairM}
end
section
variable {s : SheetM} {f : FoldM} {c : Int}
end
end Ink
/- The top of a law that takes lists of data without pointers: what the row asks, out of a contract. No conditions. -/
namespace Ink
open Go Go.ChangeShapes Go.WideShapes Go.RowKit
def sliceT (P : Program) (k : Nat) (t : TypeId) : Bool := match P.underlying t with
  | some (.slice e) => pureT P k e && P.cellsOf e != 0
  | _ => pureT P k t
section
variable {H : Type} {enc : TypeId × Value → H} {P : Program} {w w' : World}
theorem cells_keep {a : Addr} {n : Nat} (hk : ∀ b, b < w.heap.size → w'.heap[b]? = w.heap[b]?) (ha : a.block < w.heap.size) : w'.cells? 0 a n = w.cells? 0 a n := by
  unfold World.cells?
  simp only [Nat.zero_le, if_true]
  congr 1
  funext i
  unfold World.cell?
  rw [block_add, hk _ ha]
theorem cells_out {a : Addr} {n : Nat} (hn : n ≠ 0) (ha : ¬ a.block < w.heap.size) : w.cells? 0 a n = none := by
  cases h : w.cells? 0 a n with
  | none => rfl
  | some l =>
    have := (World.cells?_some h).2.2 0 (by omega)
    unfold World.cell? at this
    rw [block_add, Array.getElem?_eq_none (by omega)] at this
    rw [List.getElem?_eq_getElem (by have := (World.cells?_some h).2.1; omega)] at this
    cases this
theorem slice_trod {k fuel : Nat} {t : TypeId} {cs : List Value} {x : DataW H × List MemPlace} (hk : ∀ b, b < w.heap.size → w'.heap[b]? = w.heap[b]?) (hp : sliceT P k t = true) (h : DataW.trod enc P w 0 (fun _ => true) true fuel t cs = some x) :
    DataW.trod enc P w' 0 (fun b => decide (b < w.heap.size)) true fuel t cs = some x := by
  unfold sliceT at hp
  split at hp
  · rename_i e hu
    simp only [Bool.and_eq_true, bne_iff_ne, ne_eq] at hp
    obtain ⟨hp, hz⟩ := hp
    cases fuel with
    | zero => simp [DataW.trod] at h
    | succ fuel =>
      rcases DataW.trod_slice hu h with ⟨rfl, rfl⟩ | ⟨a, len, cap, elems, rest, n, hn, rfl, hx, hb, hl, hm, hlen, hel, hsp, _⟩
      · unfold DataW.trod
        rw [hu]
        rfl
      · cases hn
        have hel' : ∀ i, i < len → ((w'.cells? 0 (a.add (i * P.cellsOf e)) (P.cellsOf e)).bind (DataW.trod enc P w' 0 (fun b => decide (b < w.heap.size)) true fuel e)) = elems[i]? := by
          intro i hi
          have h1 := hel i hi
          rw [List.getElem?_eq_getElem (show i < elems.length by omega)] at h1 ⊢
          by_cases ha : a.block < w.heap.size
          · rw [cells_keep hk (by rw [block_add]; exact ha)]
            rw [Option.bind_eq_some_iff] at h1 ⊢
            obtain ⟨c, h2, h3⟩ := h1
            exact ⟨c, h2, (pure_trod hp h3).2⟩
          · rw [cells_out hz (by rw [block_add]; exact ha)] at h1
            cases h1
        have hrest : ∀ j, j < cap - len → ((w'.cells? 0 (a.add ((len + j) * P.cellsOf e)) (P.cellsOf e)).bind (DataW.trod enc P w' 0 (fun b => decide (b < w.heap.size)) true fuel e)) = rest[j]? := by
          intro j hj
          have h1 := (hsp rfl).2 j hj
          rw [List.getElem?_eq_getElem (show j < rest.length by rw [(hsp rfl).1]; exact hj)] at h1 ⊢
          by_cases ha : a.block < w.heap.size
          · rw [cells_keep hk (by rw [block_add]; exact ha)]
            rw [Option.bind_eq_some_iff] at h1 ⊢
            obtain ⟨c, h2, h3⟩ := h1
            exact ⟨c, h2, (pure_trod hp h3).2⟩
          · rw [cells_out hz (by rw [block_add]; exact ha)] at h1
            cases h1
        have mk : ∀ (n : Nat) (F : Nat → Option (DataW H × List MemPlace)) (l : List (DataW H × List MemPlace)), l.length = n → (∀ i, i < n → F i = l[i]?) → (List.range n).mapM F = some l := by
          intro n F l hl hF
          have := mapM_range_of (f := F) (g := fun i => l.getD i (.nil, [])) n fun i hi => by
            rw [hF i hi, List.getD_eq_getElem?_getD, List.getElem?_eq_getElem (show i < l.length by omega)]; rfl
          rw [this]
          congr 1
          apply List.ext_getElem?
          intro i
          by_cases hi : i < n
          · rw [List.getElem?_map, List.getElem?_range hi, List.getElem?_eq_getElem (show i < l.length by omega)]
            simp [List.getD_eq_getElem?_getD, List.getElem?_eq_getElem (show i < l.length by omega)]
          · rw [List.getElem?_eq_none (by simp; omega), List.getElem?_eq_none (by omega)]
        unfold DataW.trod
        rw [hu]
        simp only [Nat.zero_le, true_and]
        rw [if_pos ⟨hl, hm⟩, mk len _ elems hlen hel']
        simp only [Option.bind_some]
        by_cases ha : a.block < w.heap.size
        · simp only [ha, decide_true, if_true]
          rw [mk (cap - len) _ rest (hsp rfl).1 hrest, hx]
          rfl
        · simp only [ha, decide_false, Bool.false_eq_true, if_false]
          have hr0 : rest = [] := by
            cases hr : rest with
            | nil => rfl
            | cons y ys =>
              have hlr := (hsp rfl).1
              have hj : 0 < cap - len := by rw [← hlr, hr]; simp
              have h1 := (hsp rfl).2 0 hj
              rw [cells_out hz (by rw [block_add]; exact ha), hr] at h1
              cases h1
          rw [hx, hr0]
          rfl
  · exact (pure_trod hp h).2
theorem slice_TrodAll {k : Nat} (hk : ∀ b, b < w.heap.size → w'.heap[b]? = w.heap[b]?) : ∀ {ts : List TypeId} {vs : List Value} {ds : List (DataW H)} {ps : List MemPlace}, (ts.all fun t => sliceT P k t) = true → DataW.TrodAll enc P w 0 (fun _ => true) true ts vs ds ps →
    DataW.TrodAll enc P w' 0 (fun b => decide (b < w.heap.size)) true ts vs ds ps
  | [], [], [], ps, _, h => by simpa only [DataW.TrodAll] using h
  | t :: ts, v :: vs, d :: ds, ps, hp, h => by
    simp only [List.all_cons, Bool.and_eq_true] at hp
    obtain ⟨p, q, ⟨fuel, h1⟩, h2, rfl⟩ := h
    exact ⟨p, q, ⟨fuel, slice_trod hk hp.1 h1⟩, slice_TrodAll hk hp.2 h2, rfl⟩
  | [], _ :: _, _, _, _, h => h.elim
  | [], [], _ :: _, _, _, h => h.elim
  | _ :: _, [], _, _, _, h => h.elim
  | _ :: _, _ :: _, [], _, _, h => h.elim

theorem post_trueS {f : Func} {s : ChangeSpec} {apart fresh handsOn : Bool} {W W' : World} {args : Array Value} {ds gs : List (DataW H)} {before : List MemPlace} {k : Nat} {tb : TypeId}
    (hW : DataW.Whole enc P f.params.toList s.vars apart W args.toList ds gs before) (hv : s.vars = []) (hp : (f.params.toList.all fun t => sliceT P k t) = true) (hr : f.resultTypes = #[tb]) (htb : P.underlying tb = some .bool)
    (hsr : (s.fn H (ds ++ gs)).results = [.lit (.bool true)]) (hsa : (s.fn H (ds ++ gs)).args = ds) (hsv : (s.fn H (ds ++ gs)).vars = [])
    (hk : W.keptBut W' fun _ => False) (hh : ∀ b, b < W.heap.size → W'.heap[b]? = W.heap[b]?) : s.post enc P f apart fresh handsOn false W args (.bool true) W' := by
  obtain ⟨p, q, hA, hV, rfl, hfz, hnd⟩ := id hW
  rw [hv] at hV
  obtain ⟨rfl, rfl⟩ := trodVars_none hV
  have hres : ∀ b sp hd, DataW.TrodAll enc P W' b sp hd f.resultTypes.toList ((Value.bool true).resultList f.resultTypes.size) (s.fn H (ds ++ [])).results [] := by
    intro b sp hd
    rw [hr, hsr]
    exact trodAll_mk1 (shut_bool htb true)
  refine ⟨ds, [], _, [], _, [], hW, hres _ _ _, by rw [hsa]; exact slice_TrodAll hh hp hA, ?_, World.keptBut_mono (fun p hp => hp.elim) hk, fun e => nomatch e⟩
  rw [hv, hsv]
  rfl
theorem kept_of_invS {ρ ρ' : Nat → Nat} {S : List BSh} {H' : Heap} (h : Inv ⟨ρ, w, S, [], fun _ => True, []⟩ ρ' H' w') : (w.keptBut w' fun _ => False) ∧ ∀ b, b < w.heap.size → w'.heap[b]? = w.heap[b]? := by
  have hh : ∀ b, b < w.heap.size → w'.heap[b]? = w.heap[b]? := fun b hb => h.old b trivial hb fun j hj => by simp at hj
  refine ⟨⟨h.os, h.out, fun i hi => ?_⟩, hh⟩
  rw [hh i hi]
  cases w.heap[i]? with
  | none => simp
  | some o => cases o <;> simp
theorem trodAll_get : ∀ {ts : List TypeId} {vs : List Value} {ds : List (DataW H)} {ps : List MemPlace} {base : Nat} {sp : Nat → Bool} {hd : Bool}, DataW.TrodAll enc P w base sp hd ts vs ds ps → ∀ (i : Nat) (t : TypeId) (v : Value), ts[i]? = some t → vs[i]? = some v → ∃ d p, DataW.Trod enc P w base sp hd t v d p
  | t :: ts, v :: vs, d :: ds, ps, _, _, _, h, 0, t', v', h1, h2 => by
    obtain ⟨p, q, h3, _, _⟩ := h
    simp at h1 h2
    subst h1; subst h2
    exact ⟨d, p, h3⟩
  | t :: ts, v :: vs, d :: ds, ps, _, _, _, h, i + 1, t', v', h1, h2 => by
    obtain ⟨p, q, _, h3, _⟩ := h
    exact trodAll_get h3 i t' v' (by simpa using h1) (by simpa using h2)
  | [], _, _, _, _, _, _, _, _, _, _, h1, _ => by simp at h1
  | _ :: _, [], _, _, _, _, _, _, _, _, _, _, h2 => by simp at h2
  | _ :: _, _ :: _, [], _, _, _, _, h, _, _, _, _, _ => h.elim
theorem list_of {σ : Sh} {α : Type} {ok : α → Prop} {g : α → DV} (hof : ∀ v, Has σ v → Wf σ v → ∃ p, ok p ∧ flat σ v = flat σ (g p)) : ∀ {L : List DV}, (∀ v ∈ L, Has σ v ∧ Wf σ v) → ∃ N : List α, N.length = L.length ∧ (∀ p ∈ N, ok p) ∧ L.flatMap (flat σ) = (N.map g).flatMap (flat σ)
  | [], _ => ⟨[], rfl, fun p hp => by simp at hp, rfl⟩
  | v :: L, h => by
    obtain ⟨p, h1, h2⟩ := hof v (h v (by simp)).1 (h v (by simp)).2
    obtain ⟨N, h3, h4, h5⟩ := list_of hof (L := L) fun u hu => h u (by simp [hu])
    refine ⟨p :: N, by simp [h3], fun q hq => ?_, by simp [h2, h5]⟩
    rcases List.mem_cons.1 hq with rfl | hq
    · exact h1
    · exact h4 q hq
theorem open_list {base base' : Nat} {sp : Nat → Bool} {hd : Bool} {r : Reach} {t e : TypeId} {σ : Sh} {v : Value} {d : DataW H} {p : List MemPlace} {α : Type} {ok : α → Prop} {g : α → DV} (ht : P.underlying t = some (.slice e)) (hte : TyOk P σ e) (hz : σ.size ≠ 0) (hof : ∀ v, Has σ v → Wf σ v → ∃ p, ok p ∧ flat σ v = flat σ (g p)) (hg : ∀ p, Has σ (g p))
    (hval : Value.okWide P w r base t v) (h : DataW.Trod enc P w base' sp hd t v d p) :
    (∃ a cap, v = .slice a 0 cap) ∨ ∃ (blk off cap : Nat) (N : List α), (N ≠ [] ∧ N.length ≤ maxLen) ∧ v = .slice (some ⟨blk, off, none⟩) N.length cap ∧ (∀ p ∈ N, ok p) ∧ Rel (fun _ => blk) [.win off σ (N.map g)] w ∧ Rv (fun _ => blk) (shs [.win off σ (N.map g)]) w (.wsl 0 N.length) v := by
  obtain ⟨a, len, cap, rfl⟩ := okWide_slice ht hval
  obtain ⟨fuel, h⟩ := h
  rcases open_slice ht hte hz h with ⟨a', cap', he⟩ | ⟨blk, off, cap', L, ⟨hne, hml⟩, he, hL, c, T, fz, hb, hla⟩
  · have he' : (Value.slice a len cap) = .slice a' 0 cap' := by simpa [Value.cells] using he
    exact .inl ⟨a', cap', he'⟩
  · have he' : (Value.slice a len cap) = .slice (some ⟨blk, off, none⟩) L.length cap' := by simpa [Value.cells] using he
    obtain ⟨N, h1, h2, h3⟩ := list_of (ok := ok) (g := g) hof hL
    refine .inr ⟨blk, off, cap', N, ⟨?_, by rw [h1]; exact hml⟩, by rw [he', h1], h2, ⟨?_, ?_⟩, off, σ, rfl, .inl ⟨cap', by rw [he', h1]⟩⟩
    · intro hN; rw [hN] at h1; exact hne (List.eq_nil_of_length_eq_zero h1.symm)
    · intro i B hi
      match i with
      | 0 =>
        simp at hi
        subst hi
        refine ⟨fun x hx => ?_, c, T, fz, hb, by rw [← h3]; exact hla⟩
        obtain ⟨q, _, rfl⟩ := List.mem_map.1 hx
        exact hg q
      | i + 1 => simp at hi
    · intro i j A B hi hj hne _ _
      have := get_lt hi
      have := get_lt hj
      simp at *
      omega
end
end Ink
namespace Ink
open Go Go.ChangeShapes Go.WideShapes Go.RowKit
end Ink
/- What the program means: paths of cells. No conditions. -/
namespace Ink
open Go
def besideW (p : SpotM) : List SpotM := [⟨p.x, IntKind.i8.wrap (p.y - 1)⟩, ⟨IntKind.i8.wrap (p.x + 1), p.y⟩, ⟨p.x, IntKind.i8.wrap (p.y + 1)⟩, ⟨IntKind.i8.wrap (p.x - 1), p.y⟩]
def stepW (a b : SpotM) : Prop := b ∈ besideW a
def stepL (a b : SpotM) : Prop := b ∈ besideL a.x a.y
def StepsTo (R : SpotM → SpotM → Prop) (N : List SpotM) (k : Nat) : Prop := ∀ (j : Nat) (h : j + 1 < N.length), j + 1 < k → R N[j] N[j + 1]
section
variable {R R' : SpotM → SpotM → Prop} {N : List SpotM} {k : Nat} {s : SheetM}
def isPathW (N : List SpotM) : Prop := StepsTo stepW N N.length ∧ 1 ≤ N.length ∧ N.length ≤ 80
def pathP (s : SheetM) (N : List SpotM) : Prop := (∀ p ∈ N, hasP s p.x p.y) ∧ StepsTo stepL N N.length ∧ 1 ≤ N.length ∧ N.length ≤ 80
noncomputable instance {s N} : Decidable (pathP s N) := Classical.propDecidable _
noncomputable instance {N} : Decidable (isPathW N) := Classical.propDecidable _
noncomputable instance {a b} : Decidable (stepW a b) := Classical.propDecidable _
noncomputable instance {a b} : Decidable (stepL a b) := Classical.propDecidable _
/-! ### A path that is waxed -/
variable {i : Nat} {p : SpotM}
def emptyP (s : SheetM) (p : SpotM) : Prop := wetM s p.x p.y = 0 ∧ darkM s p.x p.y = 0
noncomputable instance {s p} : Decidable (emptyP s p) := Classical.propDecidable _
end
section
variable {σ : Nat → Nat} {m : Nat}
theorem zdv {b l} : inScope m (.wsl b l) = (b < m) := by unfold inScope; rfl
theorem zdw : inScope m .wz = True := by unfold inScope; rfl
theorem zdx {b l} : ren σ (.wsl b l) = .wsl (σ b) l := by unfold ren; rfl
theorem zdy : ren σ .wz = .wz := by unfold ren; rfl
end
/-! ### Lists that are copied -/
section
variable {N : List SpotM} {i : Nat}
end
end Ink
/- What the program means: a brush along a path. No conditions. -/
namespace Ink
open Go
section
variable {s : SheetM} {b : BrushM} {x y : Int} {k : Nat}
variable {N : List SpotM} {i : Nat} {p : SpotM}
structure Stk (s : SheetM) (t : SheetM × BrushM) : Prop where
  ok : t.1.Ok
  bok : t.2.Ok
  val : validS t.1
  bval : brushP t.2
  has : ∀ x y, hasP t.1 x y ↔ hasP s x y
  wax : ∀ x y, waxP t.1 x y ↔ waxP s x y
end
end Ink
