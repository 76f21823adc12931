/- Contracts of functions of the program, by the texts that it imports. No conditions. -/
import Derived.Test.YtlfhpibbmgjgnaaInkGh
set_option linter.unusedVariables false
set_option linter.unusedSimpArgs false
/- What the law file's marks mean: spots that are marked; the cells of a sheet as spots. No conditions. -/
namespace Ink
open Go
def mkSp (i : Nat) : SpotM := ⟨IntKind.i8.wrap (1 + 2 * (i : Int)), IntKind.i8.wrap (1 + 2 * (i : Int) + 1)⟩
def mkSs (n : Nat) : List SpotM := (List.range n).map mkSp
theorem mkSs_len {n : Nat} : (mkSs n).length = n := by simp [mkSs]
theorem mkSs_get {n i : Nat} {Z : List SpotM} (h : i < n) : ((mkSs n ++ Z).map spotV)[i]? = some (spotV (mkSp i)) := by
  rw [List.getElem?_map, List.getElem?_append_left (by rw [mkSs_len]; exact h)]
  unfold mkSs
  rw [List.getElem?_map, List.getElem?_range h]
  rfl
theorem mkTo_spots {L Z : List SpotM} : mkTo (fun i => spotV (mkSp i)) ((L ++ Z).map spotV) L.length = (mkSs L.length ++ Z).map spotV := by
  unfold mkTo mkSs
  rw [List.map_append, List.map_append, List.map_map]
  congr 1
  rw [List.drop_append_of_le_length (by simp), List.drop_eq_nil_of_le (by simp), List.nil_append]
def cellsL (w h : Nat) : List SpotM := (List.range (w * h)).map fun n => ⟨((n % w : Nat) : Int), ((n / w : Nat) : Int)⟩
theorem cellsL_len {w h : Nat} : (cellsL w h).length = w * h := by simp [cellsL]
theorem cellsL_get {w h n : Nat} (hn : n < w * h) : (cellsL w h)[n]? = some ⟨((n % w : Nat) : Int), ((n / w : Nat) : Int)⟩ := by
  unfold cellsL
  rw [List.getElem?_map, List.getElem?_range hn]
  rfl
theorem cellsL_D {w h : Nat} : cellsD w h = (cellsL w h).map spotV := by
  apply List.ext_getElem?
  intro n
  by_cases hn : n < w * h
  · rw [cells_get hn, List.getElem?_map, cellsL_get hn]; rfl
  · rw [List.getElem?_eq_none (by rw [cellsD_length]; omega), List.getElem?_eq_none (by rw [List.length_map, cellsL_len]; omega)]
theorem cellsL_mem {w h : Nat} {p : SpotM} (hp : p ∈ cellsL w h) : ∃ n, n < w * h ∧ p = ⟨((n % w : Nat) : Int), ((n / w : Nat) : Int)⟩ := by
  unfold cellsL at hp
  obtain ⟨n, hn, rfl⟩ := List.mem_map.1 hp
  exact ⟨n, List.mem_range.1 hn, rfl⟩
theorem cellsL_in8 {s : SheetM} (hm : small s) {p : SpotM} (hp : p ∈ cellsL s.w.toNat s.h.toNat) : in8 p.x p.y := by
  obtain ⟨n, hn, rfl⟩ := cellsL_mem hp
  have := cell_in hn
  exact in8_of (a := n % s.w.toNat) (b := n / s.w.toNat) (by omega) (by omega)
/-- The first of those cells that are kept. -/
def keptTo (keep : SpotM → Bool) (l : List SpotM) (n : Nat) : List SpotM := (l.take n).filter keep
section
variable {keep : SpotM → Bool} {l : List SpotM} {n : Nat} {p : SpotM}
theorem keptTo_zero : keptTo keep l 0 = [] := by simp [keptTo]
theorem keptTo_yes (h : l[n]? = some p) (hk : keep p = true) : keptTo keep l (n + 1) = keptTo keep l n ++ [p] := by
  unfold keptTo
  obtain ⟨h1, h2⟩ := List.getElem?_eq_some_iff.1 h
  rw [List.take_succ_eq_append_getElem h1, h2, List.filter_append]
  simp [hk]
theorem keptTo_no (h : l[n]? = some p) (hk : keep p = false) : keptTo keep l (n + 1) = keptTo keep l n := by
  unfold keptTo
  obtain ⟨h1, h2⟩ := List.getElem?_eq_some_iff.1 h
  rw [List.take_succ_eq_append_getElem h1, h2, List.filter_append]
  simp [hk]
theorem keptTo_all : keptTo keep l l.length = l.filter keep := by simp [keptTo]
theorem keptTo_len : (keptTo keep l n).length ≤ n := by
  unfold keptTo
  exact Nat.le_trans (List.length_filter_le _ _) (by simp; omega)
end
end Ink
/- Contracts at any heap whose three blocks may hold pointers. No conditions. -/
namespace Ink
open Go
theorem ACall.at3r {P : Program} {f : FuncId} {args : List AV} {v : AV} {B C D : Blk} (h : ACall P [] f args [B, C, D] v [B, C, D]) (hl : B.lv = true ∧ C.lv = true ∧ D.lv = true) (hsB : inScopeB 3 B ∧ inScopeB 3 C ∧ inScopeB 3 D) {H : Heap} {b c d : Nat}
    (hb : H[b]? = some (renB (kap [b, c, d] 3 H.length) B)) (hc : H[c]? = some (renB (kap [b, c, d] 3 H.length) C)) (hd : H[d]? = some (renB (kap [b, c, d] 3 H.length) D)) (hnd : [b, c, d].Nodup)
    {args' : List AV} (hs : inScopes 3 args) (ha : rens (kap [b, c, d] 3 H.length) args = args') (hv : plain v = true) :
    ACall P [] f args' H v H := by
  subst ha
  have h2 := plain_ren (σ := kap [b, c, d] 3 H.length) (m := 0) hv
  have := ACall.frame (Hm := [B, C, D]) (Hm' := [B, C, D]) (N := []) h rfl (H := H) [b, c, d] rfl hnd (fun i E hi => by
    match i with
    | 0 => simp at hi; subst hi; simpa using hb
    | 1 => simp at hi; subst hi; simpa using hc
    | 2 => simp at hi; subst hi; simpa using hd
    | i + 3 => simp at hi) hs (fun E hE => by
      simp at hE
      rcases hE with rfl | rfl | rfl
      · exact hsB.1
      · exact hsB.2.1
      · exact hsB.2.2) (fun i hi => by simp at hi) (fun E hE => by
      simp at hE
      rcases hE with rfl | rfl | rfl
      · exact hl.1
      · exact hl.2.1
      · exact hl.2.2) rfl
  simp only [setAll, List.length_cons, List.length_nil, Nat.zero_add, List.map_nil, List.append_nil] at this
  have e0 : kap [b, c, d] (1 + 1 + 1) H.length 0 = b := by simp [kap]
  have e1 : kap [b, c, d] (1 + 1 + 1) H.length 1 = c := by simp [kap]
  have e2 : kap [b, c, d] (1 + 1 + 1) H.length (1 + 1) = d := by simp [kap]
  rw [e0, e1, e2, h2.1, set_same hb, set_same hc, set_same hd] at this
  exact this
/-- A reader of two blocks that makes one of its own. -/
theorem ACall.new2 {P : Program} {f : FuncId} {args : List AV} {v : AV} {B C : Blk} {N : Heap} (h : ACall P [] f args [B, C] v ([B, C] ++ N)) (hB : noRef B = true) (hC : noRef C = true) {H : Heap} {b c : Nat} (hb : H[b]? = some B) (hc : H[c]? = some C) (hne : b ≠ c)
    {args' : List AV} {v' : AV} {N' : Heap} (hs : inScopes 2 args) (ha : rens (kap [b, c] 2 H.length) args = args') (hv : ren (kap [b, c] 2 H.length) v = v') (hN : N.map (renB (kap [b, c] 2 H.length)) = N') :
    ACall P [] f args' H v' (H ++ N') := by
  subst ha; subst hv; subst hN
  have := ACall.frame (Hm := [B, C]) (Hm' := [B, C]) (N := N) h rfl (H := H) [b, c] rfl (by simp [hne]) (fun i D hi => by
    match i with
    | 0 => simp at hi; subst hi; simp [renB_of hB, hb]
    | 1 => simp at hi; subst hi; simp [renB_of hC, hc]
    | i + 2 => simp at hi) hs (fun D hD => by
      simp at hD
      rcases hD with rfl | rfl
      · exact sc_of hB _
      · exact sc_of hC _) (fun i hi => by simp at hi) (fun D hD => by
      simp at hD
      rcases hD with rfl | rfl
      · exact lv_of hB
      · exact lv_of hC) rfl
  simp only [setAll, renB_of hB, renB_of hC, List.length_cons, List.length_nil, Nat.zero_add, List.map_nil] at this
  have e0 : kap [b, c] (1 + 1) H.length 0 = b := by simp [kap]
  have e1 : kap [b, c] (1 + 1) H.length 1 = c := by simp [kap]
  rw [e0, e1, set_same hb, set_same hc] at this
  exact this
end Ink
