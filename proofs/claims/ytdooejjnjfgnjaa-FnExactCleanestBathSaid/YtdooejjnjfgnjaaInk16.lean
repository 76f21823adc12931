/- The loop rule as a lemma, and small laws about whole numbers and arrays. No conditions. -/
import Derived.Test.YtdooejjnjfgnjaaInk15
set_option linter.unusedVariables false
set_option linter.unusedSimpArgs false
namespace Ink
open Go
theorem aloop {C : Ctx} {n : Nat} {W : List Nat} {c : Code} {E : Env} {H : Heap} {Q : AEx → Env → Heap → Prop} {ι : Type} (p : ι → Prop) (μ : ι → Nat) (EE : ι → Env) (HH : ι → Heap) (i0 : ι) (h0 : p i0)
    (hw : WeakS n E H (EE i0) (HH i0))
    (hr : ∀ i, p i → force (EE i) fun E => force (HH i) fun H => acode C n W c E H (thenQ (fun E' H' => ∃ j, p j ∧ μ j < μ i ∧ WeakS n E' H' (EE j) (HH j)) Q)) : acode C n W (.loop c) E H Q := by
  rw [acode]
  exact ⟨ι, p, μ, EE, HH, ⟨i0, h0, hw⟩, hr⟩

/-- What lies below a place, and 'd' from there on. -/
def upTo {α : Type} (f : Nat → α) (d : α) (n : Nat) : Nat → α := fun j => if j < n then f j else d
theorem upTo_zero {α : Type} {f : Nat → α} {d : α} : upTo f d 0 = fun _ => d := by funext j; simp [upTo]
theorem upTo_succ {α : Type} {f : Nat → α} {d : α} {n : Nat} : u1 (upTo f d n) n (f n) = upTo f d (n + 1) := by
  funext j; unfold u1 upTo
  by_cases h : j = n
  · subst h; simp
  · rw [if_neg h]
    by_cases h2 : j < n
    · rw [if_pos h2, if_pos (by omega)]
    · rw [if_neg h2, if_neg (by omega)]
theorem wrap_i64 {a : Int} (h : -9223372036854775808 ≤ a) (h' : a < 9223372036854775808) : IntKind.i64.wrap a = a := by
  simp only [IntKind.wrap, IntKind.signed, IntKind.bits]; simp; omega
/-- A call by its contract; what it yields is brought into shape first. -/
theorem acall_go {P : Program} {n : Nat} {W : List Nat} {f : FuncId} {args : List AV} {H H' : Heap} {v : AV} {K : AV → Heap → Prop} (h : ACall P [] f args H v H') (hk : force v fun v => force H' fun H' => K v H') : acall P n W f args H K :=
  acall_pure h hk
theorem qcall_go {P : Program} {f : FuncId} {args : List AV} {H : Heap} {v : AV} {K : AV → Prop} (h : ∀ N, ACall P [] f args (H ++ N) v (H ++ N)) (hk : force v fun v => K v) : qcall P f args H K := ⟨v, h, hk⟩
theorem qcall_pure {P : Program} {f : FuncId} {args : List AV} {H : Heap} {v : AV} {K : AV → Prop} (h : ∀ N, ACall P [] f args (H ++ N) v (H ++ N)) (hk : K v) : qcall P f args H K := ⟨v, h, hk⟩
/-- A function of plain values at any heap. -/
theorem ACall.at0 {P : Program} {f : FuncId} {args : List AV} {v : AV} (h : ACall P [] f args [] v []) (ha : plains args = true) (hv : plain v = true) (H : Heap) : ACall P [] f args H v H := by
  have h1 := plains_ren (σ := kap [] 0 H.length) (m := 0) ha
  have h2 := plain_ren (σ := kap [] 0 H.length) (m := 0) hv
  have := ACall.frame0 h h1.2 (H := H)
  rwa [h1.1, h2.1, List.map_nil, List.append_nil] at this
/-- A reader of one block that holds no pointer, at any heap. -/
theorem ACall.at1 {P : Program} {f : FuncId} {args : List AV} {v : AV} {B : Blk} (h : ACall P [] f args [B] v [B]) (hB : noRef B = true) {H : Heap} {b : Nat} (hb : H[b]? = some B) {args' : List AV} (hs : inScopes 1 args) (ha : rens (kap [b] 1 H.length) args = args') (hv : plain v = true) :
    ACall P [] f args' H v H := by
  subst ha
  have hr : ∀ κ, renB κ B = B := fun κ => by cases B <;> first | rfl | simp [noRef] at hB
  have hl : B.lv = true := by cases B <;> first | rfl | simp [noRef] at hB
  have hsc : inScopeB 1 B := by cases B <;> first | trivial | simp [noRef] at hB
  have h2 := plain_ren (σ := kap [b] 1 H.length) (m := 0) hv
  have := ACall.frame1 h hb hr hr hs hsc (fun i hi => by simp at hi) (Or.inl rfl) hl rfl
  rw [h2.1] at this
  simpa [set_same hb] using this
theorem s_may {n b : Nat} {W : List Nat} : may n W b = (n ≤ b ∨ b ∈ W) := by unfold may; rfl
theorem weak_k {n : Nat} {E E' : Env} {H H' : Heap} (τ : List Nat) (hn : n ≤ H.length) (hA : H'.take n = H.take n) (hr : noRefs (H.take n) = true) (hnd : τ.Nodup)
    (hT : tailW (sg n τ) H'.length (H.drop n) τ (H'.drop n)) (hE : envW (sg n τ) H'.length E E') : WeakS n E H E' H' := by
  have e : H.take n ++ H'.drop n = H' := by rw [← hA, List.take_append_drop]
  have := weak_of (n := n) (E := E) (E' := E') (H := H) (H.take n) (H.drop n) τ (H'.drop n) (List.take_append_drop n H).symm (by simp; omega) hr hnd (by rw [e]; exact hT) (by rw [e]; exact hE)
  rwa [e] at this
theorem fin_k {n : Nat} {v v' : AV} {H H' : Heap} (τ : List Nat) (hn : n ≤ H.length) (hA : H'.take n = H.take n) (hr : noRefs (H.take n) = true) (hnd : τ.Nodup)
    (hT : tailW (sg n τ) H'.length (H.drop n) τ (H'.drop n)) (hs : inScope H'.length v') (hv : v = ren (sg n τ) v') : fin n v H v' H' := by
  have e : H.take n ++ H'.drop n = H' := by rw [← hA, List.take_append_drop]
  have := fin_of (n := n) (v := v) (v' := v') (H := H) (H.take n) (H.drop n) τ (H'.drop n) (List.take_append_drop n H).symm (by simp; omega) hr hnd (by rw [e]; exact hT) (by rw [e]; exact hs) hv
  rwa [e] at this
theorem wrap_i16 {a : Int} (h : -32768 ≤ a) (h' : a < 32768) : IntKind.i16.wrap a = a := by
  simp only [IntKind.wrap, IntKind.signed, IntKind.bits]; simp; omega
theorem wrap_i8 {a : Int} (h : -128 ≤ a) (h' : a < 128) : IntKind.i8.wrap a = a := by
  simp only [IntKind.wrap, IntKind.signed, IntKind.bits]; simp; omega
theorem wrap_u8 {a : Int} (h : 0 ≤ a) (h' : a < 256) : IntKind.u8.wrap a = a := by
  simp only [IntKind.wrap, IntKind.signed, IntKind.bits]; simp; omega
theorem wrap_u64 {a : Int} (h : 0 ≤ a) (h' : a < 18446744073709551616) : IntKind.u64.wrap a = a := by
  simp only [IntKind.wrap, IntKind.signed, IntKind.bits]; simp; omega
theorem cast_succ {i : Nat} : ((i + 1 : Nat) : Int) = (i : Int) + 1 := by omega
theorem cast_zero : ((0 : Nat) : Int) = 0 := rfl
end Ink
