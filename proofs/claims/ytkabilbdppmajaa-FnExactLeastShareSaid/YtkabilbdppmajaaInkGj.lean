/- Contracts of functions of the program, by the texts that it imports. No conditions. -/
import Derived.Test.YtkabilbdppmajaaInkGi
set_option linter.unusedVariables false
set_option linter.unusedSimpArgs false
/- Writers of two blocks that look at a third one; what the program means: the least share. No conditions. -/
namespace Ink
open Go
theorem ACall.at3ww {P : Program} {f : FuncId} {args : List AV} {v : AV} {B B' C C' D : Blk} (h : ACall P [0, 1] f args [B, C, D] v [B', C', D]) (hB : noRef B = true) (hB' : noRef B' = true) (hC : noRef C = true) (hC' : noRef C' = true) (hD : noRef D = true) (hw : B.wr = true ∧ B'.wr = true) (hw2 : C.wr = true ∧ C'.wr = true) {H : Heap} {b c d : Nat} (hb : H[b]? = some B) (hc : H[c]? = some C) (hd : H[d]? = some D) (hnd : [b, c, d].Nodup) {args' : List AV} (hs : inScopes 3 args) (ha : rens (kap [b, c, d] 3 H.length) args = args') (hv : plain v = true) :
    ACall P [b, c] f args' H v ((H.set b B').set c C') := by
  subst ha
  have h2 := plain_ren (σ := kap [b, c, d] 3 H.length) (m := 0) hv
  have hne : (¬ b = c ∧ ¬ b = d) ∧ ¬ c = d := by simpa using hnd
  have := ACall.frame (Hm := [B, C, D]) (Hm' := [B', C', D]) (N := []) h rfl (H := H) [b, c, d] rfl hnd (fun i E hi => by
    match i with
    | 0 => simp at hi; subst hi; simp [renB_of hB, hb]
    | 1 => simp at hi; subst hi; simp [renB_of hC, hc]
    | 2 => simp at hi; subst hi; simp [renB_of hD, hd]
    | i + 3 => simp at hi) hs (fun E hE => by
      simp at hE
      rcases hE with rfl | rfl | rfl
      · exact sc_of hB _
      · exact sc_of hC _
      · exact sc_of hD _) (fun i hi => by
      simp at hi
      rcases hi with rfl | rfl
      · exact ⟨by simp, fun E hE => by simp at hE; subst hE; exact hw.1⟩
      · exact ⟨by simp, fun E hE => by simp at hE; subst hE; exact hw2.1⟩) (fun E hE => by
      simp at hE
      rcases hE with rfl | rfl | rfl
      · exact lv_of hB
      · exact lv_of hC
      · exact lv_of hD) (by simp [hw, hw2])
  simp only [setAll, renB_of hB', renB_of hC', renB_of hD, List.length_cons, List.length_nil, Nat.zero_add, List.map_nil, List.append_nil, List.map_cons] at this
  have e0 : kap [b, c, d] (1 + 1 + 1) H.length 0 = b := by simp [kap]
  have e1 : kap [b, c, d] (1 + 1 + 1) H.length 1 = c := by simp [kap]
  have e2 : kap [b, c, d] (1 + 1 + 1) H.length (1 + 1) = d := by simp [kap]
  rw [e0, e1, e2] at this
  rw [h2.1] at this
  rw [set_same (H := (H.set b B').set c C') (by rw [List.getElem?_set_ne hne.2, List.getElem?_set_ne hne.1.2]; exact hd)] at this
  simpa using this
def bSh (b : BrushM) (k : Int) : BrushM := { b with share := k }
noncomputable def lsOut (s : SheetM) (b : BrushM) (N : List SpotM) (k : Nat) : SheetM := (strk s (bSh b ((k : Int) + 1)) N N.length).1
noncomputable def litP (t : SheetM) (least : Int) (p : SpotM) : Bool := !decide (waxP t p.x p.y) && decide (darkM t p.x p.y < least)
noncomputable def lsB (s : SheetM) (b : BrushM) (N : List SpotM) (least : Int) (k : Nat) : Bool := !N.any (litP (lsOut s b N k) least)
noncomputable def lsK (s : SheetM) (b : BrushM) (N : List SpotM) (least : Int) : Nat := (List.range 16).findIdx (lsB s b N least)
section
variable {s : SheetM} {b : BrushM} {N : List SpotM} {least : Int} {k : Nat}
theorem lsK_le : lsK s b N least ≤ 16 := by
  have := List.findIdx_le_length (p := lsB s b N least) (xs := List.range 16)
  simpa [lsK] using this
theorem lsK_hit (hk : k ≤ lsK s b N least) (h16 : k < 16) (h : lsB s b N least k = true) : lsK s b N least = k := by
  apply Classical.byContradiction
  intro hne
  have hlt : k < lsK s b N least := by omega
  have := List.not_of_lt_findIdx (p := lsB s b N least) (xs := List.range 16) hlt
  rw [List.getElem_range] at this
  rw [h] at this
  cases this
theorem lsK_miss (hk : k ≤ lsK s b N least) (h16 : k < 16) (h : lsB s b N least k = false) : k + 1 ≤ lsK s b N least := by
  apply Classical.byContradiction
  intro hne
  have he : lsK s b N least = k := by omega
  have hl : (List.range 16).findIdx (lsB s b N least) < (List.range 16).length := by
    show lsK s b N least < _; simp; omega
  have := List.findIdx_getElem (w := hl)
  rw [List.getElem_range] at this
  have h2 : lsB s b N least (lsK s b N least) = true := this
  rw [he, h] at h2
  cases h2
theorem bSh_valid (hb : brushP b) (h16 : k < 16) : brushP (bSh b ((k : Int) + 1)) := ⟨hb.1, hb.2.1, hb.2.2.1, by show 1 ≤ (k : Int) + 1 ∧ (k : Int) + 1 ≤ 16; omega⟩
theorem bSh_ok (hb : b.Ok) (h16 : k < 16) : (bSh b ((k : Int) + 1)).Ok := ⟨hb.dye, hb.water, by show -128 ≤ (k : Int) + 1 ∧ (k : Int) + 1 < 128; omega⟩
def curB (b : BrushM) (k : Nat) : BrushM := if k = 0 then b else bSh b k
theorem curB_set : ({ curB b k with share := (k : Int) + 1 } : BrushM) = bSh b ((k : Int) + 1) := by unfold curB; split <;> rfl
theorem curB_succ : curB b (k + 1) = bSh b ((k : Int) + 1) := by unfold curB; rw [if_neg (by omega)]; congr 1
noncomputable def lsC (s : SheetM) (b : BrushM) (N : List SpotM) (least : Int) : Int := if alC s b N = 0 then (if 1 ≤ least ∧ least ≤ 3000 then 0 else 2) else alC s b N
noncomputable def lsV (s : SheetM) (b : BrushM) (N : List SpotM) (least : Int) : AV :=
  .tup [.int .i64 (if lsC s b N least = 0 ∧ lsK s b N least < 16 then (lsK s b N least : Int) + 1 else 0), .int .i64 (if lsC s b N least = 0 then (if lsK s b N least < 16 then 0 else 6) else lsC s b N least)]
theorem lsV_ok (h : lsC s b N least = 0) (hk : lsK s b N least = k) (h16 : k < 16) : lsV s b N least = .tup [.int .i64 ((k : Int) + 1), .int .i64 0] := by
  unfold lsV; rw [if_pos ⟨h, by omega⟩, if_pos h, if_pos (by omega), hk]
theorem lsV_no (h : lsC s b N least = 0) (hk : ¬ lsK s b N least < 16) : lsV s b N least = .tup [.int .i64 0, .int .i64 6] := by
  unfold lsV; rw [if_neg (fun g => hk g.2), if_pos h, if_neg hk]
theorem lsV_ne {c : Int} (h : lsC s b N least = c) (hc : c ≠ 0) : lsV s b N least = .tup [.int .i64 0, .int .i64 c] := by
  unfold lsV; rw [h, if_neg (fun g => hc g.1), if_neg hc]
end
end Ink
