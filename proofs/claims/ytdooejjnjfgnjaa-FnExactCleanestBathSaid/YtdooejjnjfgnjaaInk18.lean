/- The top of a law that answers true and takes values without pointers: what the row asks, out of a contract. No conditions. -/
import Derived.Test.YtdooejjnjfgnjaaInk17
import Derived.ProofKit
set_option linter.unusedVariables false
set_option linter.unusedSimpArgs false
namespace Ink
open Go Go.ChangeShapes Go.WideShapes Go.RowKit

/-- A type that holds no pointer. -/
def pureT (P : Program) : Nat → TypeId → Bool
  | 0, _ => false
  | k + 1, t => match P.underlying t with
    | some .bool => true
    | some (.int _) => true
    | some .string => true
    | some (.struct fs) => fs.toList.all fun f => pureT P k f.type
    | some (.array _ e) => pureT P k e
    | _ => false

theorem mapM_pure {α β : Type} {F F' : α → Option (β × List MemPlace)} : ∀ {l : List α} {xs}, (∀ a ∈ l, ∀ x, F a = some x → x.2 = [] ∧ F' a = some x) → l.mapM F = some xs → l.mapM F' = some xs ∧ xs.flatMap (·.2) = []
  | [], xs, _, h => by simp at h; subst h; simp
  | a :: l, xs, hF, h => by
    rw [List.mapM_cons] at h
    cases hq : F a with
    | none => simp [hq] at h
    | some x =>
      cases hr : l.mapM F with
      | none => simp [hq, hr] at h
      | some ys =>
        simp [hq, hr] at h
        subst h
        obtain ⟨h1, h2⟩ := hF a (by simp) x hq
        obtain ⟨h3, h4⟩ := mapM_pure (l := l) (fun b hb => hF b (by simp [hb])) hr
        rw [List.mapM_cons]
        simp [h2, h3, h1, h4]

section
variable {H : Type} {enc : TypeId × Value → H} {P : Program} {w w' : World} {base base' : Nat} {sp sp' : Nat → Bool} {hd hd' : Bool}
theorem pure_trod : ∀ {fuel k : Nat} {t : TypeId} {cs : List Value} {x : DataW H × List MemPlace}, pureT P k t = true → DataW.trod enc P w base sp hd fuel t cs = some x → x.2 = [] ∧ DataW.trod enc P w' base' sp' hd' fuel t cs = some x
  | 0, _, _, _, _, _, h => by simp [DataW.trod] at h
  | _ + 1, 0, _, _, _, hp, _ => by simp [pureT] at hp
  | fuel + 1, k + 1, t, cs, x, hp, h => by
    unfold pureT at hp
    unfold DataW.trod at h ⊢
    cases hu : P.underlying t with
    | none => rw [hu] at hp; cases hp
    | some u =>
      rw [hu] at hp
      cases u <;> first | (cases hp; done) | skip
      case bool =>
        rw [hu] at h
        dsimp only at h ⊢
        split at h
        all_goals first | (cases h; done) | skip
        all_goals (try (rename_i e1; cases e1))
        all_goals first | (cases h; exact ⟨rfl, rfl⟩) | skip
      case int q =>
        rw [hu] at h
        match cs, h with
        | [.int k' n], h =>
          dsimp only at h ⊢
          split at h
          · rename_i hc
            cases h
            exact ⟨rfl, by rw [if_pos hc]⟩
          · cases h
      case string =>
        rw [hu] at h
        match cs, h with
        | [.string s], h =>
          dsimp only at h ⊢
          split at h
          · rename_i hc
            cases h
            exact ⟨rfl, by rw [if_pos hc]⟩
          · cases h
      case struct fs =>
        rw [hu] at h
        dsimp only at h hp ⊢
        split at h
        · rename_i hc
          rw [if_pos hc]
          rw [Option.map_eq_some_iff] at h
          obtain ⟨xs, h1, rfl⟩ := h
          have hall := List.all_eq_true.1 hp
          obtain ⟨h2, h3⟩ := mapM_pure (F' := fun f => DataW.trod enc P w' base' sp' hd' fuel f.type ((cs.drop f.offset).take (P.cellsOf f.type))) (fun f hf x hx => pure_trod (hall f hf) hx) h1
          exact ⟨h3, by rw [h2]; rfl⟩
        · cases h
      case array n e =>
        rw [hu] at h
        dsimp only at h hp ⊢
        split at h
        · rename_i hc
          rw [if_pos hc]
          rw [Option.map_eq_some_iff] at h
          obtain ⟨xs, h1, rfl⟩ := h
          obtain ⟨h2, h3⟩ := mapM_pure (F' := fun i => DataW.trod enc P w' base' sp' hd' fuel e ((cs.drop (i * P.cellsOf e)).take (P.cellsOf e))) (fun f hf x hx => pure_trod hp hx) h1
          exact ⟨h3, by rw [h2]; rfl⟩
        · cases h
theorem pure_Trod {k : Nat} {t : TypeId} {v : Value} {d : DataW H} {ps : List MemPlace} (hp : pureT P k t = true) (h : DataW.Trod enc P w base sp hd t v d ps) : ps = [] ∧ DataW.Trod enc P w' base' sp' hd' t v d [] := by
  obtain ⟨fuel, h⟩ := h
  obtain ⟨h1, h2⟩ := pure_trod (w' := w') (base' := base') (sp' := sp') (hd' := hd') hp h
  simp only at h1
  subst h1
  exact ⟨rfl, fuel, h2⟩
theorem pure_TrodAll {k : Nat} : ∀ {ts : List TypeId} {vs : List Value} {ds : List (DataW H)} {ps : List MemPlace}, (ts.all fun t => pureT P k t) = true → DataW.TrodAll enc P w base sp hd ts vs ds ps → ps = [] ∧ DataW.TrodAll enc P w' base' sp' hd' ts vs ds []
  | [], [], [], ps, _, h => by
    simp only [DataW.TrodAll] at h ⊢
    exact ⟨h, trivial⟩
  | t :: ts, v :: vs, d :: ds, ps, hp, h => by
    simp only [List.all_cons, Bool.and_eq_true] at hp
    obtain ⟨p, q, h1, h2, rfl⟩ := h
    obtain ⟨rfl, h3⟩ := pure_Trod (w' := w') (base' := base') (sp' := sp') (hd' := hd') hp.1 h1
    obtain ⟨rfl, h4⟩ := pure_TrodAll hp.2 h2
    exact ⟨rfl, [], [], h3, h4, rfl⟩
  | [], _ :: _, _, _, _, h => h.elim
  | [], [], _ :: _, _, _, h => h.elim
  | _ :: _, [], _, _, _, h => h.elim
  | _ :: _, _ :: _, [], _, _, h => h.elim

/-- What a row asks that says 'true, and the arguments read as they did', where no argument holds a pointer. -/
theorem post_true {f : Func} {s : ChangeSpec} {apart fresh handsOn : Bool} {W W' : World} {args : Array Value} {ds gs : List (DataW H)} {before : List MemPlace} {k : Nat} {tb : TypeId}
    (hW : DataW.Whole enc P f.params.toList s.vars apart W args.toList ds gs before) (hv : s.vars = []) (hp : (f.params.toList.all fun t => pureT P k t) = true) (hr : f.resultTypes = #[tb]) (htb : P.underlying tb = some .bool)
    (hsr : (s.fn H (ds ++ gs)).results = [.lit (.bool true)]) (hsa : (s.fn H (ds ++ gs)).args = ds) (hsv : (s.fn H (ds ++ gs)).vars = [])
    (hk : W.keptBut W' fun _ => False) : s.post enc P f apart fresh handsOn false W args (.bool true) W' := by
  obtain ⟨p, q, hA, hV, rfl, hfz, hnd⟩ := id hW
  obtain ⟨rfl, _⟩ := pure_TrodAll (w' := W') (base' := 0) (sp' := fun _ => true) (hd' := true) hp hA
  rw [hv] at hV
  obtain ⟨rfl, rfl⟩ := trodVars_none hV
  have hA' : ∀ sp, DataW.TrodAll enc P W' 0 sp true f.params.toList args.toList ds [] := fun sp => (pure_TrodAll (w' := W') (base' := 0) (sp' := sp) (hd' := true) hp hA).2
  have hres : ∀ b sp hd, DataW.TrodAll enc P W' b sp hd f.resultTypes.toList ((Value.bool true).resultList f.resultTypes.size) (s.fn H (ds ++ [])).results [] := by
    intro b sp hd
    rw [hr, hsr]
    exact trodAll_mk1 (shut_bool htb true)
  refine ⟨ds, [], [], [], [], [], hW, hres _ _ _, by rw [hsa]; exact hA' _, ?_, World.keptBut_mono (fun p hp => hp.elim) hk, fun e => nomatch e⟩
  rw [hv, hsv]
  rfl

theorem kept_of_inv {ρ ρ' : Nat → Nat} {H' : Heap} (h : Inv ⟨ρ, w, [], []⟩ ρ' H' w') : w.keptBut w' fun _ => False := by
  refine ⟨h.os, h.out, fun i hi => ?_⟩
  have := h.old i hi fun j hj => by simp at hj
  rw [this]
  cases w.heap[i]? with
  | none => simp
  | some o => cases o <;> simp
end

/-! ### Arguments that are rows of whole numbers and bools -/
def rdI (cs : List Value) (i : Nat) : Int := match cs[i]? with | some (.int _ n) => n | _ => 0
def rdB (cs : List Value) (i : Nat) : Bool := match cs[i]? with | some (.bool b) => b | _ => false
def mkLeaf (g : Nat → Int) (b : Nat → Bool) (L : List TypeDesc) (i : Nat) : Value := match L[i]? with | some (.int k) => .int k (g i) | some .bool => .bool (b i) | _ => .nilIface
def leafOk (L : List TypeDesc) : Bool := L.all fun x => match x with | .int _ => true | .bool => true | _ => false

theorem open_cells {P : Program} {w : World} {r : Reach} {base : Nat} {t : TypeId} {v : Value} {ts : List TypeId} {L : List TypeDesc}
    (hu : (match P.underlying t with | some (.struct _) => true | some (.array _ _) => true | _ => false) = true) (hts : P.cellTypes P.depth t = some ts) (hc : P.cellsOf t = L.length) (hL : ts.map P.underlying = L.map some) (hl : leafOk L = true)
    (hval : Value.okWide P w r base t v) : ∃ cs : Array Value, v = .agg cs ∧ cs.toList = (List.range L.length).map (mkLeaf (rdI cs.toList) (rdB cs.toList) L) ∧ ∀ (i : Nat) (k : IntKind), L[i]? = some (TypeDesc.int k) → (Lit.int k (rdI cs.toList i)).wf = true := by
  have hlen : ts.length = L.length := by have := congrArg List.length hL; simpa using this
  have hval' : ∃ cs, v = .agg cs ∧ cs.size = P.cellsOf t ∧ Row.okWide P w r base t cs := by
    unfold Value.okWide at hval
    cases hq : P.underlying t with
    | none => rw [hq] at hu; cases hu
    | some u =>
      rw [hq] at hu hval
      cases u <;> first | (cases hu; done) | exact hval
  obtain ⟨cs, rfl, hsz, ts', h1, _, h3⟩ := hval'
  rw [hts] at h1
  cases h1
  have hcs : cs.toList.length = L.length := by rw [Array.length_toList, hsz, hc]
  have hcell : ∀ (i : Nat) (x : Value), cs.toList[i]? = some x → ∃ u : TypeDesc, L[i]? = some u ∧ ((∃ (k : IntKind) (n : Int), u = TypeDesc.int k ∧ x = Value.int k n ∧ (Lit.int k n).wf = true) ∨ ∃ b : Bool, u = TypeDesc.bool ∧ x = Value.bool b) := by
    intro i x hx
    have hi : i < L.length := by rw [← hcs]; exact (List.getElem?_eq_some_iff.1 hx).1
    obtain ⟨u, hu1, hu2⟩ := h3 i x (by simpa using hx)
    rw [Nat.mod_eq_of_lt (by omega)] at hu1
    have hLi : L[i]? = some L[i] := List.getElem?_eq_getElem hi
    have hun : P.underlying u = some L[i] := by
      have := congrArg (fun l => l[i]?) hL
      simp only [List.getElem?_map, hu1, hLi, Option.map_some] at this
      exact Option.some.inj this
    have hleaf := List.all_eq_true.1 hl L[i] (List.getElem_mem hi)
    refine ⟨L[i], hLi, ?_⟩
    cases hd : L[i] with
    | int k =>
      rw [hd] at hun
      have hw : Value.okWide P w r base u x := by simp only [Value.okWide, hun]; exact hu2
      obtain ⟨n, rfl⟩ := okWide_int hun hw
      have hn : (Lit.int k n).wf = true := by
        simp only [Cell.okWide, hun, Cell.ok, IntKind.has] at hu2
        simpa [Lit.wf] using hu2
      exact .inl ⟨k, n, rfl, rfl, hn⟩
    | bool =>
      rw [hd] at hun
      obtain ⟨b, rfl⟩ := okWide_bool hun (show Value.okWide P w r base u x by simp only [Value.okWide, hun]; exact hu2)
      exact .inr ⟨b, rfl, rfl⟩
    | _ => rw [hd] at hleaf; cases hleaf
  refine ⟨cs, rfl, ?_, ?_⟩
  · apply List.ext_getElem?
    intro i
    rw [List.getElem?_map]
    by_cases hi : i < L.length
    · rw [List.getElem?_range hi]
      obtain ⟨x, hx⟩ : ∃ x, cs.toList[i]? = some x := ⟨_, List.getElem?_eq_getElem (by omega)⟩
      obtain ⟨u, hu1, hu2⟩ := hcell i x hx
      rw [hx]
      simp only [Option.map_some, mkLeaf, hu1]
      rcases hu2 with ⟨k, n, rfl, rfl, _⟩ | ⟨b, rfl, rfl⟩
      · simp [rdI, hx]
      · simp [rdB, hx]
    · rw [List.getElem?_eq_none (by omega), List.getElem?_eq_none (by simpa using hi)]
      rfl
  · intro i k hik
    have hi : i < L.length := (List.getElem?_eq_some_iff.1 hik).1
    obtain ⟨x, hx⟩ : ∃ x, cs.toList[i]? = some x := ⟨_, List.getElem?_eq_getElem (by omega)⟩
    obtain ⟨u, hu1, hu2⟩ := hcell i x hx
    rw [hik] at hu1
    cases hu1
    rcases hu2 with ⟨k', n, e, rfl, hn⟩ | ⟨b, e, rfl⟩
    · cases e
      simp only [rdI, hx]
      exact hn
    · cases e

/-! ### Sheets as arguments -/
def sheetOf (g : Nat → Int) : SheetM := ⟨g 0, g 1, fun i j => g (2 + 8 * i + j), fun i j k => g (66 + 24 * i + 3 * j + k), fun i => g (258 + i)⟩
def kSheet (i : Nat) : IntKind := if i < 2 then .i8 else if i < 258 then .i16 else .u8
def lSheet : List TypeDesc := (List.range 266).map fun i => TypeDesc.int (kSheet i)
theorem lSheet_get {i : Nat} (h : i < 266) : lSheet[i]? = some (TypeDesc.int (kSheet i)) := by
  unfold lSheet; rw [List.getElem?_map, List.getElem?_range h]; rfl
theorem sheetOf_Ok {g : Nat → Int} (h : ∀ (i : Nat) (k : IntKind), lSheet[i]? = some (TypeDesc.int k) → (Lit.int k (g i)).wf = true) (h0 : ∀ i, 266 ≤ i → g i = 0) : (sheetOf g).Ok := by
  have h16 : ∀ i, -32768 ≤ g i ∧ g i < 32768 := by
    intro i
    by_cases hi : i < 266
    · have := h i _ (lSheet_get hi)
      unfold kSheet at this
      split at this
      · simp [Lit.wf, IntKind.min, IntKind.max, IntKind.signed, IntKind.bits] at this; omega
      · split at this
        · simp [Lit.wf, IntKind.min, IntKind.max, IntKind.signed, IntKind.bits] at this; omega
        · simp [Lit.wf, IntKind.min, IntKind.max, IntKind.signed, IntKind.bits] at this; omega
    · rw [h0 i (by omega)]; omega
  have h8 : ∀ i, i < 2 → -128 ≤ g i ∧ g i < 128 := by
    intro i hi
    have := h i _ (lSheet_get (by omega))
    unfold kSheet at this
    rw [if_pos hi] at this
    simp [Lit.wf, IntKind.min, IntKind.max, IntKind.signed, IntKind.bits] at this; omega
  have hu : ∀ i, 258 ≤ i → 0 ≤ g i ∧ g i < 256 := by
    intro i hi
    by_cases hi2 : i < 266
    · have := h i _ (lSheet_get hi2)
      unfold kSheet at this
      rw [if_neg (by omega), if_neg (by omega)] at this
      simp [Lit.wf, IntKind.min, IntKind.max, IntKind.signed, IntKind.bits] at this; omega
    · rw [h0 i (by omega)]; omega
  exact ⟨h8 0 (by omega), h8 1 (by omega), fun i j => h16 _, fun i j k => h16 _, fun i => hu _ (by omega)⟩
theorem range_rows {α : Type} (F : Nat → α) (a b : Nat) : (List.range (a * b)).map F = (List.range a).flatMap fun i => (List.range b).map fun j => F (b * i + j) := by
  induction a with
  | zero => simp
  | succ a ih =>
    rw [Nat.succ_mul, List.range_add, List.map_append, ih, List.range_succ, List.flatMap_append]
    simp [Nat.mul_comm]
theorem range_split {α : Type} (F : Nat → α) (a b : Nat) : (List.range (a + b)).map F = (List.range a).map F ++ (List.range b).map fun i => F (a + i) := by
  rw [List.range_add, List.map_append, List.map_map]; rfl
theorem app2 {α : Type} {a a' b b' : List α} (h : a = a') (h' : b = b') : a ++ b = a' ++ b' := by rw [h, h']
theorem flatMap_ext {α : Type} {f g : Nat → List α} {n : Nat} (h : ∀ i < n, f i = g i) : (List.range n).flatMap f = (List.range n).flatMap g := by
  rw [List.flatMap_def, List.flatMap_def, List.map_congr_left fun i hi => h i (by simpa using hi)]
theorem flat_a1 {n : Nat} {k : IntKind} {f : Nat → Int} : flat (.arr n (.int k)) (a1 k f) = (List.range n).map fun i => Value.int k (f i) := by
  unfold a1; rw [flat, List.map_eq_flatMap]; rfl
theorem flat_sheet (g : Nat → Int) (b : Nat → Bool) : (List.range lSheet.length).map (mkLeaf g b lSheet) = flat shSheet (sheetD (sheetOf g)) := by
  have hl : lSheet.length = 2 + (8 * 8 + (8 * 24 + 8)) := by simp [lSheet]
  have hm : ∀ i, i < 266 → mkLeaf g b lSheet i = .int (kSheet i) (g i) := fun i hi => by unfold mkLeaf; rw [lSheet_get hi]
  have e1 : (List.range lSheet.length).map (mkLeaf g b lSheet) = (List.range (2 + (8 * 8 + (8 * 24 + 8)))).map fun i => .int (kSheet i) (g i) := by
    rw [hl]
    exact List.map_congr_left fun i hi => hm i (by simpa using hi)
  rw [e1, range_split, range_split, range_split, range_rows, range_rows]
  have k1 : ∀ i < 8, ∀ j < 8, kSheet (2 + (8 * i + j)) = .i16 := fun i hi j hj => by unfold kSheet; rw [if_neg (by omega), if_pos (by omega)]
  have k2 : ∀ i < 8, ∀ j < 24, kSheet (2 + (8 * 8 + (24 * i + j))) = .i16 := fun i hi j hj => by unfold kSheet; rw [if_neg (by omega), if_pos (by omega)]
  have k3 : ∀ i < 8, kSheet (2 + (8 * 8 + (8 * 24 + i))) = .u8 := fun i hi => by unfold kSheet; rw [if_neg (by omega), if_neg (by omega)]
  have f1 : flat shSheet (sheetD (sheetOf g)) = [Value.int .i8 (g 0), Value.int .i8 (g 1)] ++ ((List.range 8).flatMap (fun i => flat (.arr 8 (.int .i16)) (a1 .i16 fun j => g (2 + 8 * i + j))) ++
      ((List.range 8).flatMap (fun i => (List.range 8).flatMap fun j => flat (.arr 3 (.int .i16)) (a1 .i16 fun k => g (66 + 24 * i + 3 * j + k))) ++ flat (.arr 8 (.int .u8)) (a1 .u8 fun i => g (258 + i)))) := by
    show [Value.int .i8 (g 0)] ++ ([Value.int .i8 (g 1)] ++ (_ ++ (_ ++ (_ ++ [])))) = _
    rw [List.append_nil]
    rfl
  rw [f1]
  refine app2 rfl (app2 ?_ (app2 ?_ ?_))
  · refine flatMap_ext fun i hi => ?_
    rw [flat_a1]
    refine List.map_congr_left fun j hj => ?_
    rw [k1 i hi j (by simpa using hj), Nat.add_assoc]
  · refine flatMap_ext fun i hi => ?_
    rw [show 24 = 8 * 3 from rfl, range_rows]
    refine flatMap_ext fun j hj => ?_
    rw [flat_a1]
    refine List.map_congr_left fun k hk => ?_
    have hk : k < 3 := by simpa using hk
    have e : 2 + (8 * 8 + (8 * 3 * i + (3 * j + k))) = 66 + 24 * i + 3 * j + k := by omega
    rw [e]
    have := k2 i hi (3 * j + k) (by omega)
    rw [show 2 + (8 * 8 + (24 * i + (3 * j + k))) = 66 + 24 * i + 3 * j + k by omega] at this
    rw [this]
  · rw [flat_a1]
    refine List.map_congr_left fun j hj => ?_
    have hj : j < 8 := by simpa using hj
    have := k3 j hj
    rw [show 2 + (8 * 8 + (8 * 24 + j)) = 258 + j by omega] at this ⊢
    rw [this]
theorem sheet_Has {s : SheetM} : Has shSheet (sheetD s) := ⟨rfl, rfl, fun _ _ => fun _ _ => rfl, fun _ _ => fun _ _ => fun _ _ => rfl, fun _ _ => rfl, trivial⟩
/-- A sheet that comes from outside. -/
theorem open_sheet {P : Program} {w : World} {r : Reach} {base : Nat} {t : TypeId} {v : Value}
    (hu : (match P.underlying t with | some (.struct _) => true | some (.array _ _) => true | _ => false) = true) (hc : P.cellsOf t = 266) (hL0 : ((P.cellTypes P.depth t).map fun ts => ts.map P.underlying) = some (lSheet.map some))
    (hval : Value.okWide P w r base t v) : ∃ s : SheetM, s.Ok ∧ v = .agg (flat shSheet (sheetD s)).toArray := by
  rw [Option.map_eq_some_iff] at hL0
  obtain ⟨ts, hts, hL⟩ := hL0
  obtain ⟨cs, rfl, h1, h2⟩ := open_cells hu hts (by rw [hc]; simp [lSheet]) hL (by simp [leafOk, lSheet]) hval
  have hlen : cs.toList.length = 266 := by rw [h1]; simp [lSheet]
  refine ⟨sheetOf (rdI cs.toList), sheetOf_Ok h2 fun i hi => ?_, ?_⟩
  · unfold rdI
    rw [List.getElem?_eq_none (by omega)]
  · rw [← flat_sheet _ (rdB cs.toList), ← h1]
end Ink
