/- Calls by contract; renaming of blocks; a contract at a small heap serves at every larger one. No conditions. -/
import Derived.Test.YtdooejjnjfgnjaaInk6
set_option linter.unusedVariables false
set_option linter.unusedSimpArgs false
namespace Ink
open Go

mutual
def ren (κ : Nat → Nat) : AV → AV
  | .ptr b p τ => .ptr (κ b) p τ
  | .rptr b => .rptr (κ b)
  | .slc b lo len => .slc (κ b) lo len
  | .fn f c d => .fn f (rens κ c) (rens κ d)
  | .tup l => .tup (rens κ l)
  | .int k n => .int k n
  | .bool b => .bool b
  | .str s => .str s
  | .agg τ v => .agg τ v
  | .nilp => .nilp
  | .nils => .nils
  | .junk => .junk
def rens (κ : Nat → Nat) : List AV → List AV
  | [] => []
  | a :: l => ren κ a :: rens κ l
end

mutual
def inScope (m : Nat) : AV → Prop
  | .ptr b _ _ => b < m
  | .rptr b => b < m
  | .slc b _ _ => b < m
  | .fn _ c d => inScopes m c ∧ inScopes m d
  | .tup l => inScopes m l
  | _ => True
def inScopes (m : Nat) : List AV → Prop
  | [] => True
  | a :: l => inScope m a ∧ inScopes m l
end

/-- The shapes agree along a renaming. -/
def Along (κ : Nat → Nat) (m : Nat) (S S' : List BSh) : Prop := ∀ b, b < m → S[κ b]? = S'[b]?

mutual
theorem Rv_unren {ρ : Nat → Nat} {κ : Nat → Nat} {m : Nat} {S S' : List BSh} {w : World} (h : Along κ m S S') : ∀ {a : AV} {x : Value}, inScope m a → Rv ρ S w (ren κ a) x → Rv (fun i => ρ (κ i)) S' w a x
  | .int _ _, _, _, r => r
  | .bool _, _, _, r => r
  | .str _, _, _, r => r
  | .agg _ _, _, _, r => r
  | .nilp, _, _, r => r
  | .nils, _, _, r => r
  | .junk, _, _, _ => trivial
  | .ptr b p τ, _, hs, r => by obtain ⟨s, o, h1, h2, h3⟩ := r; exact ⟨s, o, by rw [← h b hs]; exact h1, h2, h3⟩
  | .rptr b, _, hs, r => by obtain ⟨h1, h3⟩ := r; exact ⟨by rw [← h b hs]; exact h1, h3⟩
  | .slc b lo len, _, hs, r => by obtain ⟨e, h1, h2⟩ := r; exact ⟨e, by rw [← h b hs]; exact h1, h2⟩
  | .fn f c d, _, hs, r => by obtain ⟨vs, ws, h1, h2, h3⟩ := r; exact ⟨vs, ws, h1, Rvs_unren h hs.1 h2, Rvs_unren h hs.2 h3⟩
  | .tup l, _, hs, r => by obtain ⟨vs, h1, h2⟩ := r; exact ⟨vs, h1, Rvs_unren h hs h2⟩
theorem Rvs_unren {ρ : Nat → Nat} {κ : Nat → Nat} {m : Nat} {S S' : List BSh} {w : World} (h : Along κ m S S') : ∀ {a : List AV} {x : List Value}, inScopes m a → Rvs ρ S w (rens κ a) x → Rvs (fun i => ρ (κ i)) S' w a x
  | [], [], _, _ => trivial
  | [], _ :: _, _, r => r.elim
  | _ :: _, [], _, r => r.elim
  | _ :: _, _ :: _, hs, r => ⟨Rv_unren h hs.1 r.1, Rvs_unren h hs.2 r.2⟩
end

mutual
/-- The other way: what is related in the small heap is so in the large one, renamed. -/
theorem Rv_ren {ρ ρ' : Nat → Nat} {κ : Nat → Nat} {m : Nat} {S S' : List BSh} {w : World} (hl : S'.length ≤ m) (h : Along κ m S S') (hρ : ∀ i, i < m → ρ (κ i) = ρ' i) : ∀ {a : AV} {x : Value}, Rv ρ' S' w a x → Rv ρ S w (ren κ a) x
  | .int _ _, _, r => r
  | .bool _, _, r => r
  | .str _, _, r => r
  | .agg _ _, _, r => r
  | .nilp, _, r => r
  | .nils, _, r => r
  | .junk, _, _ => trivial
  | .ptr b p τ, _, r => by
    obtain ⟨s, o, h1, h2, h3⟩ := r
    have hb := Nat.lt_of_lt_of_le (get_lt h1) hl
    exact ⟨s, o, by rw [h b hb]; exact h1, h2, by rw [hρ b hb]; exact h3⟩
  | .rptr b, _, r => by
    obtain ⟨h1, h3⟩ := r
    have hb := Nat.lt_of_lt_of_le (get_lt h1) hl
    exact ⟨by rw [h b hb]; exact h1, by rw [hρ b hb]; exact h3⟩
  | .slc b lo len, _, r => by
    obtain ⟨e, h1, h2⟩ := r
    have hb := Nat.lt_of_lt_of_le (get_lt h1) hl
    exact ⟨e, by rw [h b hb]; exact h1, by rw [hρ b hb]; exact h2⟩
  | .fn f c d, _, r => by obtain ⟨vs, ws, h1, h2, h3⟩ := r; exact ⟨vs, ws, h1, Rvs_ren hl h hρ h2, Rvs_ren hl h hρ h3⟩
  | .tup l, _, r => by obtain ⟨vs, h1, h2⟩ := r; exact ⟨vs, h1, Rvs_ren hl h hρ h2⟩
theorem Rvs_ren {ρ ρ' : Nat → Nat} {κ : Nat → Nat} {m : Nat} {S S' : List BSh} {w : World} (hl : S'.length ≤ m) (h : Along κ m S S') (hρ : ∀ i, i < m → ρ (κ i) = ρ' i) : ∀ {a : List AV} {x : List Value}, Rvs ρ' S' w a x → Rvs ρ S w (rens κ a) x
  | [], [], _ => trivial
  | [], _ :: _, r => r.elim
  | _ :: _, [], r => r.elim
  | _ :: _, _ :: _, r => ⟨Rv_ren hl h hρ r.1, Rvs_ren hl h hρ r.2⟩
end

/-! ### Calls -/
def Enters (P : Program) (f : FuncId) : Prop := ∃ fn, P.funcs[f]? = some fn ∧ (fn.name == "runtime.NumGoroutine") = false ∧ fn.body.isNone = false

/-- A contract: called so at the heap 'H' (no block of which is written but those in 'W') it returns 'v' and leaves the heap 'H''. -/
def ACall (P : Program) (W : List Nat) (f : FuncId) (args : List AV) (H : Heap) (v : AV) (H' : Heap) : Prop :=
  Enters P f ∧ ∀ ρ w vs, Rel ρ H w → Rvs ρ (shs H) w args vs → Calls P f vs.toArray w fun e w' => ∃ x ρ', e = .returned x ∧ Inv ⟨ρ, w, shs H, W⟩ ρ' H' w' ∧ Rv ρ' (shs H') w' v x

theorem Inv.ext {G : Ent} {ρ' H' w'} (h : Inv G ρ' H' w') : Ext G.ρ G.S G.w ρ' (shs H') w' := ⟨h.pre, h.sh, h.sz⟩

def may (n : Nat) (W : List Nat) (b : Nat) : Prop := n ≤ b ∨ b ∈ W

/-- What holds behind a call holds behind the caller's part so far and the call. -/
theorem Inv.call {G : Ent} {ρ H w W' ρ' H' w'} (h : Inv G ρ H w) (hW : ∀ i ∈ W', i < H.length → may G.S.length G.W i) (k : Inv ⟨ρ, w, shs H, W'⟩ ρ' H' w') : Inv G ρ' H' w' := by
  have hl := h.len
  have hl' : H.length ≤ H'.length := by have := k.len; simpa [shs_length] using this
  have hpre : ∀ i, i < H.length → ρ' i = ρ i := fun i hi => k.pre i (by simpa [shs_length] using hi)
  refine ⟨k.rel, k.os.trans h.os, k.tape.trans h.tape, k.out.trans h.out, Nat.le_trans h.size k.size, fun b hb hn => ?_, fun b => Nat.le_trans (h.sz b) (k.sz b), fun i hi => ?_, fun i h1 h2 => ?_, h.sh.trans k.sh⟩
  · have : w'.heap[b]? = w.heap[b]? := k.old b (Nat.lt_of_lt_of_le hb h.size) fun i hi hil heq => by
      simp only [shs_length] at hil
      rcases hW i hi hil with hm | hm
      · have := h.new i hm hil; simp only at heq; omega
      · by_cases hi2 : i < G.S.length
        · exact hn i hm hi2 (by rw [← h.pre i hi2]; exact heq)
        · have := h.new i (by omega) hil; simp only at heq; omega
    rw [this]
    exact h.old b hb hn
  · rw [hpre i (by omega)]; exact h.pre i hi
  · by_cases hi : i < H.length
    · rw [hpre i hi]; exact h.new i h1 hi
    · exact Nat.le_trans h.size (k.new i (by simpa [shs_length] using hi) h2)

theorem callFunc_run {P : Program} {f : FuncId} (h : Enters P f) (args : Array Value) (w : World) : (callFunc f args).run P w = .ok (.enter f args) w := by
  obtain ⟨fn, h1, h2, h3⟩ := h
  unfold callFunc
  simp only [Sem.run_bind, run_program, Result.andThen_ok, h1, h2, h3, Bool.false_eq_true, if_false, Sem.run_pure]

section
variable {P : Program} {G : Ent} {o : Oper} {look : Tmp → AV} {H H' : Heap}

theorem step_call_of {f : FuncId} {args : List AV} {W' : List Nat} {v : AV} (hc : ACall P W' f args H v H') (hW : ∀ i ∈ W', i < H.length → may G.S.length G.W i)
    (hr : ∀ ρ a w, Inv G ρ H w → EnvOn ρ (shs H) w o.op look a → ∃ vs, (execOp a.eval o).run P w = .ok (.enter f vs.toArray) w ∧ Rvs ρ (shs H) w args vs) : OpStep P G o look H v H' := by
  intro ρ a w K Q hi he hk
  obtain ⟨vs, h1, h2⟩ := hr ρ a w hi he
  unfold Oper.wp
  rw [h1]
  show Calls P f vs.toArray w _
  refine (hc.2 ρ w vs hi.rel h2).mono fun e w' ⟨x, ρ', he', hi', hx⟩ => ?_
  subst he'
  exact hk x w' ρ' (hi.call hW hi') hi'.ext hx

theorem step_call {f : FuncId} {args : Array Operand} {ts : Array TypeId} {W' : List Nat} {v : AV} (ho : o.op = .call ⟨.value (.func f), args, ts⟩)
    (hc : ACall P W' f (args.toList.map (ev look)) H v H') (hW : ∀ i ∈ W', i < H.length → may G.S.length G.W i) : OpStep P G o look H v H' :=
  step_call_of hc hW fun ρ a w hi he => by
    refine ⟨args.toList.map a.eval, ?_, Rvs_map fun x hx => he.ev (by simp [ho, Op.operands, Call.operands]; right; simpa using hx)⟩
    rw [execOp.eq_1]
    simp only [ho, resolve, Act.eval, Deferred.ofValue, Sem.run_bind, Sem.run_pure, Result.andThen_ok, invoke]
    have : (#[] : Array Value) ++ args.map a.eval ++ #[] = (args.toList.map a.eval).toArray := by apply Array.ext'; simp
    rw [callFunc_run hc.1]
    rw [this]

theorem step_callfn {t : Tmp} {f : FuncId} {first capt : List AV} {args : Array Operand} {ts : Array TypeId} {W' : List Nat} {v : AV} (ho : o.op = .call ⟨.value (.tmp t), args, ts⟩)
    (hf : look t = .fn f first capt)
    (hc : ACall P W' f (first ++ args.toList.map (ev look) ++ capt) H v H') (hW : ∀ i ∈ W', i < H.length → may G.S.length G.W i) : OpStep P G o look H v H' :=
  step_call_of hc hW fun ρ a w hi he => by
    have hr := he.ev (x := .tmp t) (by simp [ho, Op.operands, Call.operands])
    simp only [ev, hf] at hr
    obtain ⟨vs, ws, h1, h2, h3⟩ := hr
    have happ : ∀ {l l' : List AV} {x x' : List Value}, Rvs ρ (shs H) w l x → Rvs ρ (shs H) w l' x' → Rvs ρ (shs H) w (l ++ l') (x ++ x') := by
      intro l
      induction l with
      | nil => intro l' x x' hx hx'; cases x <;> first | exact hx' | exact hx.elim
      | cons a l ih => intro l' x x' hx hx'; cases x <;> first | exact ⟨hx.1, ih hx.2 hx'⟩ | exact hx.elim
    refine ⟨vs ++ args.toList.map a.eval ++ ws, ?_, happ (happ h2 (Rvs_map fun x hx => he.ev (by simp [ho, Op.operands, Call.operands]; right; simpa using hx))) h3⟩
    rw [execOp.eq_1]
    simp only [ho, resolve, h1, Deferred.ofValue, Sem.run_bind, Sem.run_pure, Result.andThen_ok, invoke]
    have : vs.toArray ++ args.map a.eval ++ ws.toArray = (vs ++ args.toList.map a.eval ++ ws).toArray := by apply Array.ext'; simp
    rw [callFunc_run hc.1]
    rw [this]
end

/-! ### The frame -/
def renB (κ : Nat → Nat) : Blk → Blk
  | .ref x => .ref (ren κ x)
  | B => B
theorem renB_sh (κ B) : (renB κ B).sh = B.sh := by cases B <;> rfl
theorem renB_wr (κ B) : (renB κ B).wr = B.wr := by cases B <;> rfl
theorem renB_lv (κ B) : (renB κ B).lv = B.lv := by cases B <;> rfl
def inScopeB (m : Nat) : Blk → Prop
  | .ref x => inScope m x
  | _ => True

theorem RB_unren {ρ κ m S S' w B o} (h : Along κ m S S') (hs : inScopeB m B) (r : RB ρ S w (renB κ B) o) : RB (fun i => ρ (κ i)) S' w B o := by
  cases B with
  | ref x => obtain ⟨v, T, h1, h2⟩ := r; exact ⟨v, T, h1, Rv_unren h hs h2⟩
  | _ => exact r
theorem RB_ren {ρ ρ' : Nat → Nat} {κ m S S' w B o} (hl : S'.length ≤ m) (h : Along κ m S S') (hρ : ∀ i, i < m → ρ (κ i) = ρ' i) (r : RB ρ' S' w B o) : RB ρ S w (renB κ B) o := by
  cases B with
  | ref x => obtain ⟨v, T, h1, h2⟩ := r; exact ⟨v, T, h1, Rv_ren hl h hρ h2⟩
  | _ => exact r

/-- The blocks of a small heap, laid into a large one at their places. -/
def setAll (κ : Nat → Nat) (κ' : Nat → Nat) : Heap → Nat → Heap → Heap
  | H, _, [] => H
  | H, i, B :: L => setAll κ κ' (H.set (κ i) (renB κ' B)) (i + 1) L

theorem setAll_length {κ κ'} : ∀ {L : Heap} {H : Heap} {i : Nat}, (setAll κ κ' H i L).length = H.length
  | [], _, _ => rfl
  | B :: L, H, i => by simp only [setAll]; rw [setAll_length]; simp

theorem setAll_get {κ κ'} : ∀ {L : Heap} {H : Heap} {i j : Nat}, (∀ a b, i ≤ a → a < i + L.length → i ≤ b → b < i + L.length → κ a = κ b → a = b) → (∀ a, i ≤ a → a < i + L.length → κ a < H.length) →
    ((∀ a, i ≤ a → a < i + L.length → κ a ≠ j) → (setAll κ κ' H i L)[j]? = H[j]?) ∧ (∀ a, i ≤ a → a < i + L.length → κ a = j → (setAll κ κ' H i L)[j]? = (L[a - i]?).map (renB κ'))
  | [], H, i, j, _, _ => ⟨fun _ => rfl, fun a h1 h2 => by simp at h2; omega⟩
  | B :: L, H, i, j, hinj, hlt => by
    have ih := setAll_get (κ := κ) (κ' := κ') (L := L) (H := H.set (κ i) (renB κ' B)) (i := i + 1) (j := j)
      (fun a b h1 h2 h3 h4 => hinj a b (by omega) (by simp; omega) (by omega) (by simp; omega)) (fun a h1 h2 => by simpa using hlt a (by omega) (by simp; omega))
    simp only [setAll]
    constructor
    · intro h
      rw [ih.1 fun a h1 h2 => h a (by omega) (by simp; omega)]
      rw [List.getElem?_set_ne (h i (by omega) (by simp))]
    · intro a h1 h2 h3
      by_cases ha : a = i
      · subst ha
        rw [ih.1 fun b h4 h5 h6 => by
          have := hinj b a (by omega) (by simp; omega) (by omega) (by simp) (h6.trans h3.symm)
          omega]
        subst h3
        rw [List.getElem?_set_self (hlt a (by omega) (by simp))]
        simp
      · rw [ih.2 a (by omega) (by simp at h2; omega) h3]
        rw [show a - i = (a - (i + 1)) + 1 by omega]
        simp

def kap (κ : List Nat) (m n : Nat) (i : Nat) : Nat := if i < m then κ.getD i 0 else n + (i - m)

/-- **A contract at a small heap serves at every heap that holds those blocks**: 'κ' tells where. -/
theorem ACall.frame {P : Program} {W : List Nat} {f : FuncId} {args : List AV} {Hm Hm' N : Heap} {v : AV} (h : ACall P W f args Hm v (Hm' ++ N)) (hm : Hm'.length = Hm.length) {H : Heap} (κ : List Nat)
    (hκ : κ.length = Hm.length) (hnd : κ.Nodup) (hat : ∀ i B, Hm[i]? = some B → H[κ.getD i 0]? = some (renB (kap κ Hm.length H.length) B))
    (hsc : inScopes Hm.length args) (hscB : ∀ B ∈ Hm, inScopeB Hm.length B) (hWr : ∀ i ∈ W, i < Hm.length ∧ ∀ B, Hm[i]? = some B → B.wr = true)
    (hlv : ∀ B ∈ Hm, B.lv = true) (hww : Hm'.map Blk.wr = Hm.map Blk.wr) :
    ACall P (W.map fun i => κ.getD i 0) f (rens (kap κ Hm.length H.length) args) H (ren (kap κ Hm.length H.length) v)
      (setAll (kap κ Hm.length H.length) (kap κ Hm.length H.length) H 0 Hm' ++ N.map (renB (kap κ Hm.length H.length))) := by
  refine ⟨h.1, fun ρ w vs hrel hargs => ?_⟩
  generalize hK : kap κ Hm.length H.length = K at *
  have hKlt : ∀ i, i < Hm.length → K i = κ.getD i 0 := fun i hi => by rw [← hK]; simp [kap, hi]
  have hKge : ∀ i, Hm.length ≤ i → K i = H.length + (i - Hm.length) := fun i hi => by rw [← hK]; simp [kap]; omega
  have hinj : ∀ a b, a < Hm.length → b < Hm.length → K a = K b → a = b := by
    intro a b ha hb he
    rw [hKlt a ha, hKlt b hb] at he
    have ha' : a < κ.length := by omega
    have hb' : b < κ.length := by omega
    simp only [List.getD_eq_getElem?_getD, List.getElem?_eq_getElem ha', List.getElem?_eq_getElem hb', Option.getD_some] at he
    have hpw := List.pairwise_iff_getElem.1 hnd
    rcases Nat.lt_trichotomy a b with h | h | h
    · exact absurd he (hpw a b ha' hb' h)
    · exact h
    · exact absurd he.symm (hpw b a hb' ha' h)
  have hat' : ∀ i B, Hm[i]? = some B → H[K i]? = some (renB K B) := fun i B hi => by rw [hKlt i (get_lt hi)]; exact hat i B hi
  have hAl : Along K Hm.length (shs H) (shs Hm) := by
    intro b hb
    have hB : Hm[b]? = some Hm[b] := by simp
    have := hat' b _ hB
    rw [shs_get this, shs_get hB, renB_sh]
  have hKH : ∀ a, a < Hm.length → K a < H.length := fun a ha => get_lt (hat' a Hm[a] (by simp))
  -- the small heap's own relation
  have hrelm : Rel (fun i => ρ (K i)) Hm w := by
    constructor
    · intro i B hi
      exact RB_unren hAl (hscB B (List.mem_of_getElem? hi)) (hrel.blk _ _ (hat' i B hi))
    · intro i j A B hi hj hne hw hl
      exact hrel.sep _ _ _ _ (hat' i A hi) (hat' j B hj) (fun e => hne (hinj i j (get_lt hi) (get_lt hj) e)) (by rw [renB_wr]; exact hw) (by rw [renB_lv]; exact hl)
  refine (h.2 _ w vs hrelm (Rvs_unren hAl hsc hargs)).mono fun e w' ⟨x, ρ', he, hi, hx⟩ => ?_
  -- the large heap's new places
  have hlen : (Hm' ++ N).length = Hm.length + N.length := by simp [hm]
  let ρ2 : Nat → Nat := fun i => if i < H.length then ρ i else ρ' (Hm.length + (i - H.length))
  have hρ2 : ∀ i, i < Hm.length + N.length → ρ2 (K i) = ρ' i := by
    intro i hil
    by_cases h1 : i < Hm.length
    · have h2 := hKH i h1
      have h3 := hi.pre i (by simpa [shs_length] using h1)
      simp only [ρ2, h2, if_true]
      exact h3.symm
    · rw [hKge i (by omega)]
      simp only [ρ2]
      rw [if_neg (by omega)]
      congr 1
      omega
  let H2 : Heap := setAll K K H 0 Hm' ++ N.map (renB K)
  have hsl : (setAll K K H 0 Hm').length = H.length := setAll_length
  have hget := fun j => setAll_get (κ := K) (κ' := K) (L := Hm') (H := H) (i := 0) (j := j)
    (fun a b _ h2 _ h4 he => hinj a b (by omega) (by omega) he) (fun a _ h2 => hKH a (by omega))
  -- a block of the large heap: an untouched one, one of the small heap's, a new one
  have hcase : ∀ j B, H2[j]? = some B → (j < H.length ∧ (∀ a, a < Hm.length → K a ≠ j) ∧ H[j]? = some B) ∨ (∃ a B', a < Hm.length + N.length ∧ K a = j ∧ (Hm' ++ N)[a]? = some B' ∧ B = renB K B') := by
    intro j B hj
    by_cases h1 : j < H.length
    · have hj' : (setAll K K H 0 Hm')[j]? = some B := by
        have : H2[j]? = (setAll K K H 0 Hm')[j]? := List.getElem?_append_left (by omega)
        rw [← this]; exact hj
      by_cases hex : ∃ a, a < Hm.length ∧ K a = j
      · obtain ⟨a, ha, hKa⟩ := hex
        right
        have := (hget j).2 a (by omega) (by omega) hKa
        rw [this] at hj'
        simp only [Option.map_eq_some_iff, Nat.sub_zero] at hj'
        obtain ⟨B', hB', rfl⟩ := hj'
        exact ⟨a, B', by omega, hKa, by rw [List.getElem?_append_left (by omega)]; exact hB', rfl⟩
      · left
        have hno : ∀ a, a < Hm.length → K a ≠ j := fun a ha he => hex ⟨a, ha, he⟩
        rw [(hget j).1 fun a _ h2 => hno a (by omega)] at hj'
        exact ⟨h1, hno, hj'⟩
    · right
      have : H2[j]? = (N.map (renB K))[j - H.length]? := by
        show (setAll K K H 0 Hm' ++ N.map (renB K))[j]? = _
        rw [List.getElem?_append_right (by omega), hsl]
      rw [this] at hj
      simp only [List.getElem?_map, Option.map_eq_some_iff] at hj
      obtain ⟨B', hB', rfl⟩ := hj
      have hlt := get_lt hB'
      refine ⟨Hm.length + (j - H.length), B', by omega, by rw [hKge _ (by omega)]; omega, ?_, rfl⟩
      rw [List.getElem?_append_right (by omega), hm]
      rw [show Hm.length + (j - H.length) - Hm.length = j - H.length by omega]
      exact hB'
  -- its shapes
  have hshp : shs H <+: shs H2 := by
    have : shs (setAll K K H 0 Hm') = shs H := by
      apply List.ext_getElem?
      intro j
      simp only [shs, List.getElem?_map]
      by_cases hex : ∃ a, a < Hm.length ∧ K a = j
      · obtain ⟨a, ha, hKa⟩ := hex
        rw [(hget j).2 a (by omega) (by omega) hKa]
        have hB : Hm[a]? = some Hm[a] := by simp
        have h2 := hat' a _ hB
        rw [hKa] at h2
        rw [h2]
        have ha' : a < Hm'.length := by omega
        have h3 := hi.sh
        have h4 : (shs (Hm' ++ N))[a]? = some (Hm[a]).sh := prefix_get h3 (shs_get hB)
        have h5 : (Hm' ++ N)[a]? = some Hm'[a] := by rw [List.getElem?_append_left ha']; simp
        rw [shs_get h5] at h4
        simp [ha', renB_sh, Option.some.inj h4]
      · rw [(hget j).1 fun a _ h2 he => hex ⟨a, by omega, he⟩]
    show shs H <+: shs (setAll K K H 0 Hm' ++ N.map (renB K))
    rw [shs_append, this]
    exact List.prefix_append _ _
  have hAl2 : Along K (Hm.length + N.length) (shs H2) (shs (Hm' ++ N)) := by
    intro b hb
    have hB : (Hm' ++ N)[b]? = some ((Hm' ++ N)[b]'(by omega)) := by simp
    rw [shs_get hB]
    by_cases h1 : b < Hm.length
    · have h2 : (setAll K K H 0 Hm')[K b]? = (Hm'[b - 0]?).map (renB K) := (hget (K b)).2 b (by omega) (by omega) rfl
      have h3 : H2[K b]? = (setAll K K H 0 Hm')[K b]? := List.getElem?_append_left (by rw [hsl]; exact hKH b h1)
      rw [List.getElem?_append_left (by omega)] at hB
      rw [h2, Nat.sub_zero, hB] at h3
      rw [shs_get h3, renB_sh]
    · have h3 : H2[K b]? = (N.map (renB K))[b - Hm.length]? := by
        show (setAll K K H 0 Hm' ++ N.map (renB K))[K b]? = _
        rw [hKge b (by omega), List.getElem?_append_right (by omega), hsl, show H.length + (b - Hm.length) - H.length = b - Hm.length by omega]
      rw [List.getElem?_append_right (by omega), hm] at hB
      rw [List.getElem?_map, hB] at h3
      rw [shs_get h3, renB_sh]
  have hunt : ∀ j B, j < H.length → (∀ a, a < Hm.length → K a ≠ j) → H[j]? = some B → B.lv = true → w'.heap[ρ j]? = w.heap[ρ j]? := by
    intro j B hj hno hB hlv
    have hlt : ρ j < w.heap.size := (hrel.blk j B hB).lt hlv
    refine hi.old _ hlt fun i hiW _ heq => ?_
    obtain ⟨hi1, hi2⟩ := hWr i hiW
    have hBi : Hm[i]? = some Hm[i] := by simp
    exact hrel.sep (K i) j _ B (hat' i _ hBi) hB (hno i hi1) (by rw [renB_wr]; exact hi2 _ hBi) hlv heq
  have hExt : Ext ρ (shs H) w ρ2 (shs H2) w' := ⟨fun i hil => by simp only [ρ2]; rw [if_pos (by simpa [shs_length] using hil)], hshp, hi.sz⟩
  have hnew : ∀ i, H.length ≤ i → i < H2.length → w.heap.size ≤ ρ2 i := by
    intro i h1 h2
    simp only [ρ2]
    rw [if_neg (by omega)]
    have : H2.length = H.length + N.length := by show (setAll K K H 0 Hm' ++ N.map (renB K)).length = _; simp [hsl]
    exact hi.new _ (by simp [shs_length]) (by omega)
  refine ⟨x, ρ2, he, ⟨⟨?_, ?_⟩, hi.os, hi.tape, hi.out, hi.size, ?_, hi.sz, ?_, ?_, hshp⟩, ?_⟩
  · intro j B hj
    rcases hcase j B hj with ⟨h1, h2, h3⟩ | ⟨a, B', h1, rfl, h3, rfl⟩
    · have hr := hrel.blk j B h3
      have hρj : ρ2 j = ρ j := by simp only [ρ2]; rw [if_pos h1]
      rw [hρj]
      by_cases hlv : B.lv = true
      · rw [hunt j B h1 h2 h3 hlv]
        exact hr.mono hExt
      · cases B <;> first | trivial | (exact absurd rfl hlv)
    · rw [hρ2 a h1]
      exact RB_ren (m := Hm.length + N.length) (by rw [shs_length]; omega) hAl2 hρ2 (hi.rel.blk a B' h3)
  · intro i j A B hA hB hne hw hl
    rcases hcase i A hA with ⟨h1, h2, h3⟩ | ⟨a, A', h1, rfl, h3, rfl⟩ <;> rcases hcase j B hB with ⟨k1, k2, k3⟩ | ⟨b, B', k1, rfl, k3, rfl⟩
    · simp only [ρ2]; rw [if_pos h1, if_pos k1]
      exact hrel.sep i j A B h3 k3 hne hw hl
    · have hρi : ρ2 i = ρ i := by simp only [ρ2]; rw [if_pos h1]
      by_cases hb : b < Hm.length
      · have hbH := hKH b hb
        simp only [ρ2]; rw [if_pos h1, if_pos hbH]
        -- the block at 'K b' lives in the large heap before the call
        have hBb : Hm[b]? = some Hm[b] := by simp
        refine hrel.sep i (K b) A _ h3 (hat' b _ hBb) hne hw ?_
        rw [renB_lv]
        exact hlv _ (List.mem_of_getElem? hBb)
      · rw [hρ2 b k1]
        have := hi.new b (by simp [shs_length]; omega) (by omega)
        have hlt := (hrel.blk i A h3).lt (by cases A <;> first | rfl | cases hw)
        rw [hρi]
        simp only at this
        omega
    · have hρj : ρ2 j = ρ j := by simp only [ρ2]; rw [if_pos k1]
      by_cases ha : a < Hm.length
      · have haH := hKH a ha
        have hBa : Hm[a]? = some Hm[a] := by simp
        have hwa : (Hm[a]).wr = true := by
          have h4 : Hm'[a]? = some A' := by rw [List.getElem?_append_left (by omega)] at h3; exact h3
          have h5 := congrArg (fun l => l[a]?) hww
          simp only [List.getElem?_map, h4, hBa, Option.map_some, Option.some.injEq] at h5
          rw [← h5, ← renB_wr K]
          exact hw
        simp only [ρ2]; rw [if_pos haH, if_pos k1]
        exact hrel.sep (K a) j _ B (hat' a _ hBa) k3 hne (by rw [renB_wr]; exact hwa) hl
      · rw [hρ2 a h1]
        have := hi.new a (by simp [shs_length]; omega) (by omega)
        have hlt := (hrel.blk j B k3).lt hl
        rw [hρj]
        simp only at this
        omega
    · rw [hρ2 a h1, hρ2 b k1]
      exact hi.rel.sep a b A' B' h3 k3 (fun e => hne (by rw [e])) (by rw [← renB_wr K]; exact hw) (by rw [← renB_lv K]; exact hl)
  · intro b hb hn
    refine hi.old b hb fun i hiW hil heq => ?_
    obtain ⟨hi1, _⟩ := hWr i hiW
    exact hn (κ.getD i 0) (List.mem_map.2 ⟨i, hiW, rfl⟩) (by rw [← hKlt i hi1]; simpa [shs_length] using hKH i hi1) (by rw [← hKlt i hi1]; exact heq)
  · intro i hil
    simp only [ρ2]; rw [if_pos (by simpa [shs_length] using hil)]
  · intro i h1 h2
    exact hnew i (by simpa [shs_length] using h1) h2
  · exact Rv_ren (m := Hm.length + N.length) (by rw [shs_length]; omega) hAl2 hρ2 hx
end Ink
