/- The types of this translation, as the evaluator reads them: each entry is proved from the program's own table. No conditions. -/
import Derived.Test.YtdooejjnjfgnjaaChecked
import Derived.Test.YtdooejjnjfgnjaaInk14
import Derived.KernelRfl
set_option linter.unusedVariables false
set_option linter.unusedSimpArgs false
namespace Go.Proofs.Ytdooejjnjfgnjaa
open Ink Go
set_option maxRecDepth 100000
theorem info_of {P : Program} {t : TypeId} {τ : Sh} (h1 : (P.info? t).map (fun i => (i.zero, i.size)) = some (some (enc τ τ.zero), τ.size)) (h2 : (P.info? t).map (fun i => decide (i.bytes ≤ 65536)) = some true) : InfoOk P t τ := by
  cases hi : P.info? t with
  | none => rw [hi] at h1; cases h1
  | some i =>
    rw [hi] at h1 h2
    simp only [Option.map_some, Option.some.injEq, Prod.mk.injEq, decide_eq_true_eq] at h1 h2
    exact ⟨i, hi, h1.2, h1.1, h2⟩
theorem ref_of {P : Program} {t : TypeId} {z : AV} {d : TypeDesc} {x : Value} (hdd : (match d with | .struct _ | .array _ _ => false | _ => true) = true) (hd : P.underlying t = some d) (h1 : (P.info? t).map (fun i => (i.zero, i.size)) = some (some x, 1)) (hx : x.oneCell' = true) (hr : ∀ ρ S w, Rv ρ S w z x) : RefOk P t z := by
  cases hi : P.info? t with
  | none => rw [hi] at h1; cases h1
  | some i =>
    rw [hi] at h1
    simp only [Option.map_some, Option.some.injEq, Prod.mk.injEq] at h1
    exact ⟨d, i, hd, hi, h1.2, ⟨x, h1.1, hx, hr⟩, hdd⟩
theorem ty2 : TyOk Try.prog (.int .i64 : Sh) 2 := by
  have h : InfoOk Try.prog 2 (.int .i64 : Sh) := info_of (by kernel_rfl) (by kernel_rfl)
  unfold TyOk; exact ⟨Try.underlying2, h⟩
theorem ty3 : TyOk Try.prog (.int .i64 : Sh) 3 := by
  have h : InfoOk Try.prog 3 (.int .i64 : Sh) := info_of (by kernel_rfl) (by kernel_rfl)
  unfold TyOk; exact ⟨Try.underlying3, h⟩
theorem ty4 : TyOk Try.prog (.bool : Sh) 4 := by
  have h : InfoOk Try.prog 4 (.bool : Sh) := info_of (by kernel_rfl) (by kernel_rfl)
  unfold TyOk; exact ⟨Try.underlying4, h⟩
theorem ty5 : TyOk Try.prog (.int .u8 : Sh) 5 := by
  have h : InfoOk Try.prog 5 (.int .u8 : Sh) := info_of (by kernel_rfl) (by kernel_rfl)
  unfold TyOk; exact ⟨Try.underlying5, h⟩
theorem ty6 : TyOk Try.prog (.int .u8 : Sh) 6 := by
  have h : InfoOk Try.prog 6 (.int .u8 : Sh) := info_of (by kernel_rfl) (by kernel_rfl)
  unfold TyOk; exact ⟨Try.underlying6, h⟩
theorem ty9 : TyOk Try.prog (.str : Sh) 9 := by
  have h : InfoOk Try.prog 9 (.str : Sh) := info_of (by kernel_rfl) (by kernel_rfl)
  unfold TyOk; exact ⟨Try.underlying9, h⟩
theorem ty10 : TyOk Try.prog (.str : Sh) 10 := by
  have h : InfoOk Try.prog 10 (.str : Sh) := info_of (by kernel_rfl) (by kernel_rfl)
  unfold TyOk; exact ⟨Try.underlying10, h⟩
theorem ty11 : TyOk Try.prog (.str : Sh) 11 := by
  have h : InfoOk Try.prog 11 (.str : Sh) := info_of (by kernel_rfl) (by kernel_rfl)
  unfold TyOk; exact ⟨Try.underlying11, h⟩
theorem ty12 : TyOk Try.prog (.int .u64 : Sh) 12 := by
  have h : InfoOk Try.prog 12 (.int .u64 : Sh) := info_of (by kernel_rfl) (by kernel_rfl)
  unfold TyOk; exact ⟨Try.underlying12, h⟩
theorem ty21 : TyOk Try.prog (.int .i32 : Sh) 21 := by
  have h : InfoOk Try.prog 21 (.int .i32 : Sh) := info_of (by kernel_rfl) (by kernel_rfl)
  unfold TyOk; exact ⟨Try.underlying21, h⟩
theorem ty22 : TyOk Try.prog (.int .i8 : Sh) 22 := by
  have h : InfoOk Try.prog 22 (.int .i8 : Sh) := info_of (by kernel_rfl) (by kernel_rfl)
  unfold TyOk; exact ⟨Try.underlying22, h⟩
theorem ty23 : TyOk Try.prog (.int .i16 : Sh) 23 := by
  have h : InfoOk Try.prog 23 (.int .i16 : Sh) := info_of (by kernel_rfl) (by kernel_rfl)
  unfold TyOk; exact ⟨Try.underlying23, h⟩
theorem ty24 : TyOk Try.prog (.arr 8 (.int .i16) : Sh) 24 := by
  have h : InfoOk Try.prog 24 (.arr 8 (.int .i16) : Sh) := info_of (by kernel_rfl) (by kernel_rfl)
  unfold TyOk; exact ⟨⟨23, Try.underlying24, ty23⟩, h⟩
theorem ty25 : TyOk Try.prog (.arr 8 (.arr 8 (.int .i16)) : Sh) 25 := by
  have h : InfoOk Try.prog 25 (.arr 8 (.arr 8 (.int .i16)) : Sh) := info_of (by kernel_rfl) (by kernel_rfl)
  unfold TyOk; exact ⟨⟨24, Try.underlying25, ty24⟩, h⟩
theorem ty26 : TyOk Try.prog (.arr 3 (.int .i16) : Sh) 26 := by
  have h : InfoOk Try.prog 26 (.arr 3 (.int .i16) : Sh) := info_of (by kernel_rfl) (by kernel_rfl)
  unfold TyOk; exact ⟨⟨23, Try.underlying26, ty23⟩, h⟩
theorem ty27 : TyOk Try.prog (.arr 8 (.arr 3 (.int .i16)) : Sh) 27 := by
  have h : InfoOk Try.prog 27 (.arr 8 (.arr 3 (.int .i16)) : Sh) := info_of (by kernel_rfl) (by kernel_rfl)
  unfold TyOk; exact ⟨⟨26, Try.underlying27, ty26⟩, h⟩
theorem ty28 : TyOk Try.prog (.arr 8 (.arr 8 (.arr 3 (.int .i16))) : Sh) 28 := by
  have h : InfoOk Try.prog 28 (.arr 8 (.arr 8 (.arr 3 (.int .i16))) : Sh) := info_of (by kernel_rfl) (by kernel_rfl)
  unfold TyOk; exact ⟨⟨27, Try.underlying28, ty27⟩, h⟩
theorem ty29 : TyOk Try.prog (.arr 8 (.int .u8) : Sh) 29 := by
  have h : InfoOk Try.prog 29 (.arr 8 (.int .u8) : Sh) := info_of (by kernel_rfl) (by kernel_rfl)
  unfold TyOk; exact ⟨⟨5, Try.underlying29, ty5⟩, h⟩
theorem ty31 : TyOk Try.prog shSheet 31 := by
  have h : InfoOk Try.prog 31 shSheet := info_of (by kernel_rfl) (by kernel_rfl)
  unfold shSheet at h ⊢; unfold TyOk; exact ⟨⟨_, _, _, Try.underlying31, rfl, rfl, by decide, ty22, ⟨rfl, by decide, ty22, ⟨rfl, by decide, ty25, ⟨rfl, by decide, ty28, ⟨rfl, by decide, ty29, trivial⟩⟩⟩⟩⟩, h⟩
theorem ty33 : TyOk Try.prog shFold 33 := by
  have h : InfoOk Try.prog 33 shFold := info_of (by kernel_rfl) (by kernel_rfl)
  unfold shFold at h ⊢; unfold TyOk; exact ⟨⟨_, _, _, Try.underlying33, rfl, rfl, by decide, ty22, ⟨rfl, by decide, ty4, ⟨rfl, by decide, ty22, trivial⟩⟩⟩, h⟩
theorem ty35 : TyOk Try.prog shSpot 35 := by
  have h : InfoOk Try.prog 35 shSpot := info_of (by kernel_rfl) (by kernel_rfl)
  unfold shSpot at h ⊢; unfold TyOk; exact ⟨⟨_, _, _, Try.underlying35, rfl, rfl, by decide, ty22, ⟨rfl, by decide, ty22, trivial⟩⟩, h⟩
theorem ty36 : TyOk Try.prog shSpot 36 := by
  have h : InfoOk Try.prog 36 shSpot := info_of (by kernel_rfl) (by kernel_rfl)
  unfold shSpot at h ⊢; unfold TyOk; exact ⟨⟨_, _, _, Try.underlying36, rfl, rfl, by decide, ty22, ⟨rfl, by decide, ty22, trivial⟩⟩, h⟩
theorem ty39 : TyOk Try.prog shSheet 39 := by
  have h : InfoOk Try.prog 39 shSheet := info_of (by kernel_rfl) (by kernel_rfl)
  unfold shSheet at h ⊢; unfold TyOk; exact ⟨⟨_, _, _, Try.underlying39, rfl, rfl, by decide, ty22, ⟨rfl, by decide, ty22, ⟨rfl, by decide, ty25, ⟨rfl, by decide, ty28, ⟨rfl, by decide, ty29, trivial⟩⟩⟩⟩⟩, h⟩
theorem ty41 : TyOk Try.prog shFold 41 := by
  have h : InfoOk Try.prog 41 shFold := info_of (by kernel_rfl) (by kernel_rfl)
  unfold shFold at h ⊢; unfold TyOk; exact ⟨⟨_, _, _, Try.underlying41, rfl, rfl, by decide, ty22, ⟨rfl, by decide, ty4, ⟨rfl, by decide, ty22, trivial⟩⟩⟩, h⟩
theorem ty47 : TyOk Try.prog shBrush 47 := by
  have h : InfoOk Try.prog 47 shBrush := info_of (by kernel_rfl) (by kernel_rfl)
  unfold shBrush at h ⊢; unfold TyOk; exact ⟨⟨_, _, _, Try.underlying47, rfl, rfl, by decide, ty26, ⟨rfl, by decide, ty23, ⟨rfl, by decide, ty22, trivial⟩⟩⟩, h⟩
theorem ty48 : TyOk Try.prog (.arr 3 (.int .i64) : Sh) 48 := by
  have h : InfoOk Try.prog 48 (.arr 3 (.int .i64) : Sh) := info_of (by kernel_rfl) (by kernel_rfl)
  unfold TyOk; exact ⟨⟨2, Try.underlying48, ty2⟩, h⟩
theorem ty51 : TyOk Try.prog shBrush 51 := by
  have h : InfoOk Try.prog 51 shBrush := info_of (by kernel_rfl) (by kernel_rfl)
  unfold shBrush at h ⊢; unfold TyOk; exact ⟨⟨_, _, _, Try.underlying51, rfl, rfl, by decide, ty26, ⟨rfl, by decide, ty23, ⟨rfl, by decide, ty22, trivial⟩⟩⟩, h⟩
theorem ty117 : TyOk Try.prog (.arr 2 shSpot : Sh) 117 := by
  have h : InfoOk Try.prog 117 (.arr 2 shSpot : Sh) := info_of (by kernel_rfl) (by kernel_rfl)
  unfold TyOk; exact ⟨⟨36, Try.underlying117, ty36⟩, h⟩
theorem ty159 : TyOk Try.prog (.int .u64 : Sh) 159 := by
  have h : InfoOk Try.prog 159 (.int .u64 : Sh) := info_of (by kernel_rfl) (by kernel_rfl)
  unfold TyOk; exact ⟨Try.underlying159, h⟩
theorem ty172 : TyOk Try.prog (.int .u32 : Sh) 172 := by
  have h : InfoOk Try.prog 172 (.int .u32 : Sh) := info_of (by kernel_rfl) (by kernel_rfl)
  unfold TyOk; exact ⟨Try.underlying172, h⟩
theorem ty173 : TyOk Try.prog (.int .u8 : Sh) 173 := by
  have h : InfoOk Try.prog 173 (.int .u8 : Sh) := info_of (by kernel_rfl) (by kernel_rfl)
  unfold TyOk; exact ⟨Try.underlying173, h⟩
theorem ty174 : TyOk Try.prog (.int .u8 : Sh) 174 := by
  have h : InfoOk Try.prog 174 (.int .u8 : Sh) := info_of (by kernel_rfl) (by kernel_rfl)
  unfold TyOk; exact ⟨Try.underlying174, h⟩
theorem ty177 : TyOk Try.prog (.int .i32 : Sh) 177 := by
  have h : InfoOk Try.prog 177 (.int .i32 : Sh) := info_of (by kernel_rfl) (by kernel_rfl)
  unfold TyOk; exact ⟨Try.underlying177, h⟩
theorem ty178 : TyOk Try.prog (.int .i32 : Sh) 178 := by
  have h : InfoOk Try.prog 178 (.int .i32 : Sh) := info_of (by kernel_rfl) (by kernel_rfl)
  unfold TyOk; exact ⟨Try.underlying178, h⟩
theorem ty185 : TyOk Try.prog (.arr 8 (.arr 8 (.int .i16)) : Sh) 185 := by
  have h : InfoOk Try.prog 185 (.arr 8 (.arr 8 (.int .i16)) : Sh) := info_of (by kernel_rfl) (by kernel_rfl)
  unfold TyOk; exact ⟨⟨24, Try.underlying185, ty24⟩, h⟩
theorem rf1 : RefOk Try.prog 1 (.junk : AV) := ref_of (x := .nilFunc) rfl Try.underlying1 (by kernel_rfl) rfl (fun _ _ _ => trivial)
theorem rf15 : RefOk Try.prog 15 (.nilp : AV) := ref_of (x := .pointer none) rfl Try.underlying15 (by kernel_rfl) rfl (fun _ _ _ => rfl)
theorem rf16 : RefOk Try.prog 16 (.nilp : AV) := ref_of (x := .pointer none) rfl Try.underlying16 (by kernel_rfl) rfl (fun _ _ _ => rfl)
theorem rf17 : RefOk Try.prog 17 (.nilp : AV) := ref_of (x := .pointer none) rfl Try.underlying17 (by kernel_rfl) rfl (fun _ _ _ => rfl)
theorem rf38 : RefOk Try.prog 38 (.junk : AV) := ref_of (x := .nilFunc) rfl Try.underlying38 (by kernel_rfl) rfl (fun _ _ _ => trivial)
theorem rf40 : RefOk Try.prog 40 (.junk : AV) := ref_of (x := .nilFunc) rfl Try.underlying40 (by kernel_rfl) rfl (fun _ _ _ => trivial)
theorem rf42 : RefOk Try.prog 42 (.junk : AV) := ref_of (x := .nilFunc) rfl Try.underlying42 (by kernel_rfl) rfl (fun _ _ _ => trivial)
theorem rf43 : RefOk Try.prog 43 (.junk : AV) := ref_of (x := .nilFunc) rfl Try.underlying43 (by kernel_rfl) rfl (fun _ _ _ => trivial)
theorem rf44 : RefOk Try.prog 44 (.junk : AV) := ref_of (x := .nilFunc) rfl Try.underlying44 (by kernel_rfl) rfl (fun _ _ _ => trivial)
theorem rf45 : RefOk Try.prog 45 (.junk : AV) := ref_of (x := .nilFunc) rfl Try.underlying45 (by kernel_rfl) rfl (fun _ _ _ => trivial)
theorem rf50 : RefOk Try.prog 50 (.junk : AV) := ref_of (x := .nilFunc) rfl Try.underlying50 (by kernel_rfl) rfl (fun _ _ _ => trivial)
theorem rf52 : RefOk Try.prog 52 (.junk : AV) := ref_of (x := .nilFunc) rfl Try.underlying52 (by kernel_rfl) rfl (fun _ _ _ => trivial)
theorem rf53 : RefOk Try.prog 53 (.junk : AV) := ref_of (x := .nilFunc) rfl Try.underlying53 (by kernel_rfl) rfl (fun _ _ _ => trivial)
theorem rf54 : RefOk Try.prog 54 (.junk : AV) := ref_of (x := .nilFunc) rfl Try.underlying54 (by kernel_rfl) rfl (fun _ _ _ => trivial)
theorem rf56 : RefOk Try.prog 56 (.junk : AV) := ref_of (x := .nilFunc) rfl Try.underlying56 (by kernel_rfl) rfl (fun _ _ _ => trivial)
theorem rf57 : RefOk Try.prog 57 (.junk : AV) := ref_of (x := .nilFunc) rfl Try.underlying57 (by kernel_rfl) rfl (fun _ _ _ => trivial)
theorem rf58 : RefOk Try.prog 58 (.junk : AV) := ref_of (x := .nilFunc) rfl Try.underlying58 (by kernel_rfl) rfl (fun _ _ _ => trivial)
theorem rf60 : RefOk Try.prog 60 (.junk : AV) := ref_of (x := .nilFunc) rfl Try.underlying60 (by kernel_rfl) rfl (fun _ _ _ => trivial)
theorem rf61 : RefOk Try.prog 61 (.junk : AV) := ref_of (x := .nilFunc) rfl Try.underlying61 (by kernel_rfl) rfl (fun _ _ _ => trivial)
theorem rf63 : RefOk Try.prog 63 (.junk : AV) := ref_of (x := .nilFunc) rfl Try.underlying63 (by kernel_rfl) rfl (fun _ _ _ => trivial)
theorem rf64 : RefOk Try.prog 64 (.junk : AV) := ref_of (x := .nilFunc) rfl Try.underlying64 (by kernel_rfl) rfl (fun _ _ _ => trivial)
theorem rf66 : RefOk Try.prog 66 (.junk : AV) := ref_of (x := .nilFunc) rfl Try.underlying66 (by kernel_rfl) rfl (fun _ _ _ => trivial)
theorem rf67 : RefOk Try.prog 67 (.junk : AV) := ref_of (x := .nilFunc) rfl Try.underlying67 (by kernel_rfl) rfl (fun _ _ _ => trivial)
theorem rf69 : RefOk Try.prog 69 (.junk : AV) := ref_of (x := .nilFunc) rfl Try.underlying69 (by kernel_rfl) rfl (fun _ _ _ => trivial)
theorem rf71 : RefOk Try.prog 71 (.junk : AV) := ref_of (x := .nilFunc) rfl Try.underlying71 (by kernel_rfl) rfl (fun _ _ _ => trivial)
theorem rf72 : RefOk Try.prog 72 (.junk : AV) := ref_of (x := .nilFunc) rfl Try.underlying72 (by kernel_rfl) rfl (fun _ _ _ => trivial)
theorem rf73 : RefOk Try.prog 73 (.junk : AV) := ref_of (x := .nilFunc) rfl Try.underlying73 (by kernel_rfl) rfl (fun _ _ _ => trivial)
theorem rf75 : RefOk Try.prog 75 (.junk : AV) := ref_of (x := .nilFunc) rfl Try.underlying75 (by kernel_rfl) rfl (fun _ _ _ => trivial)
theorem rf76 : RefOk Try.prog 76 (.junk : AV) := ref_of (x := .nilFunc) rfl Try.underlying76 (by kernel_rfl) rfl (fun _ _ _ => trivial)
theorem rf77 : RefOk Try.prog 77 (.junk : AV) := ref_of (x := .nilFunc) rfl Try.underlying77 (by kernel_rfl) rfl (fun _ _ _ => trivial)
theorem rf78 : RefOk Try.prog 78 (.junk : AV) := ref_of (x := .nilFunc) rfl Try.underlying78 (by kernel_rfl) rfl (fun _ _ _ => trivial)
theorem rf79 : RefOk Try.prog 79 (.junk : AV) := ref_of (x := .nilFunc) rfl Try.underlying79 (by kernel_rfl) rfl (fun _ _ _ => trivial)
theorem rf80 : RefOk Try.prog 80 (.junk : AV) := ref_of (x := .nilFunc) rfl Try.underlying80 (by kernel_rfl) rfl (fun _ _ _ => trivial)
theorem rf81 : RefOk Try.prog 81 (.nilp : AV) := ref_of (x := .pointer none) rfl Try.underlying81 (by kernel_rfl) rfl (fun _ _ _ => rfl)
theorem rf82 : RefOk Try.prog 82 (.junk : AV) := ref_of (x := .nilFunc) rfl Try.underlying82 (by kernel_rfl) rfl (fun _ _ _ => trivial)
theorem rf83 : RefOk Try.prog 83 (.junk : AV) := ref_of (x := .nilFunc) rfl Try.underlying83 (by kernel_rfl) rfl (fun _ _ _ => trivial)
theorem rf84 : RefOk Try.prog 84 (.junk : AV) := ref_of (x := .nilFunc) rfl Try.underlying84 (by kernel_rfl) rfl (fun _ _ _ => trivial)
theorem rf85 : RefOk Try.prog 85 (.junk : AV) := ref_of (x := .nilFunc) rfl Try.underlying85 (by kernel_rfl) rfl (fun _ _ _ => trivial)
theorem rf86 : RefOk Try.prog 86 (.junk : AV) := ref_of (x := .nilFunc) rfl Try.underlying86 (by kernel_rfl) rfl (fun _ _ _ => trivial)
theorem rf87 : RefOk Try.prog 87 (.junk : AV) := ref_of (x := .nilFunc) rfl Try.underlying87 (by kernel_rfl) rfl (fun _ _ _ => trivial)
theorem rf88 : RefOk Try.prog 88 (.junk : AV) := ref_of (x := .nilFunc) rfl Try.underlying88 (by kernel_rfl) rfl (fun _ _ _ => trivial)
theorem rf89 : RefOk Try.prog 89 (.junk : AV) := ref_of (x := .nilFunc) rfl Try.underlying89 (by kernel_rfl) rfl (fun _ _ _ => trivial)
theorem rf90 : RefOk Try.prog 90 (.junk : AV) := ref_of (x := .nilFunc) rfl Try.underlying90 (by kernel_rfl) rfl (fun _ _ _ => trivial)
theorem rf91 : RefOk Try.prog 91 (.nilp : AV) := ref_of (x := .pointer none) rfl Try.underlying91 (by kernel_rfl) rfl (fun _ _ _ => rfl)
theorem rf93 : RefOk Try.prog 93 (.junk : AV) := ref_of (x := .nilFunc) rfl Try.underlying93 (by kernel_rfl) rfl (fun _ _ _ => trivial)
theorem rf94 : RefOk Try.prog 94 (.junk : AV) := ref_of (x := .nilFunc) rfl Try.underlying94 (by kernel_rfl) rfl (fun _ _ _ => trivial)
theorem rf95 : RefOk Try.prog 95 (.junk : AV) := ref_of (x := .nilFunc) rfl Try.underlying95 (by kernel_rfl) rfl (fun _ _ _ => trivial)
theorem rf97 : RefOk Try.prog 97 (.junk : AV) := ref_of (x := .nilFunc) rfl Try.underlying97 (by kernel_rfl) rfl (fun _ _ _ => trivial)
theorem rf98 : RefOk Try.prog 98 (.junk : AV) := ref_of (x := .nilFunc) rfl Try.underlying98 (by kernel_rfl) rfl (fun _ _ _ => trivial)
theorem rf99 : RefOk Try.prog 99 (.junk : AV) := ref_of (x := .nilFunc) rfl Try.underlying99 (by kernel_rfl) rfl (fun _ _ _ => trivial)
theorem rf100 : RefOk Try.prog 100 (.junk : AV) := ref_of (x := .nilFunc) rfl Try.underlying100 (by kernel_rfl) rfl (fun _ _ _ => trivial)
theorem rf101 : RefOk Try.prog 101 (.junk : AV) := ref_of (x := .nilFunc) rfl Try.underlying101 (by kernel_rfl) rfl (fun _ _ _ => trivial)
theorem rf102 : RefOk Try.prog 102 (.junk : AV) := ref_of (x := .nilFunc) rfl Try.underlying102 (by kernel_rfl) rfl (fun _ _ _ => trivial)
theorem rf103 : RefOk Try.prog 103 (.junk : AV) := ref_of (x := .nilFunc) rfl Try.underlying103 (by kernel_rfl) rfl (fun _ _ _ => trivial)
theorem rf104 : RefOk Try.prog 104 (.junk : AV) := ref_of (x := .nilFunc) rfl Try.underlying104 (by kernel_rfl) rfl (fun _ _ _ => trivial)
theorem rf105 : RefOk Try.prog 105 (.junk : AV) := ref_of (x := .nilFunc) rfl Try.underlying105 (by kernel_rfl) rfl (fun _ _ _ => trivial)
theorem rf106 : RefOk Try.prog 106 (.junk : AV) := ref_of (x := .nilFunc) rfl Try.underlying106 (by kernel_rfl) rfl (fun _ _ _ => trivial)
theorem rf107 : RefOk Try.prog 107 (.junk : AV) := ref_of (x := .nilFunc) rfl Try.underlying107 (by kernel_rfl) rfl (fun _ _ _ => trivial)
theorem rf108 : RefOk Try.prog 108 (.junk : AV) := ref_of (x := .nilFunc) rfl Try.underlying108 (by kernel_rfl) rfl (fun _ _ _ => trivial)
theorem rf109 : RefOk Try.prog 109 (.junk : AV) := ref_of (x := .nilFunc) rfl Try.underlying109 (by kernel_rfl) rfl (fun _ _ _ => trivial)
theorem rf110 : RefOk Try.prog 110 (.junk : AV) := ref_of (x := .nilFunc) rfl Try.underlying110 (by kernel_rfl) rfl (fun _ _ _ => trivial)
theorem rf111 : RefOk Try.prog 111 (.junk : AV) := ref_of (x := .nilFunc) rfl Try.underlying111 (by kernel_rfl) rfl (fun _ _ _ => trivial)
theorem rf112 : RefOk Try.prog 112 (.nilp : AV) := ref_of (x := .pointer none) rfl Try.underlying112 (by kernel_rfl) rfl (fun _ _ _ => rfl)
theorem rf113 : RefOk Try.prog 113 (.junk : AV) := ref_of (x := .nilFunc) rfl Try.underlying113 (by kernel_rfl) rfl (fun _ _ _ => trivial)
theorem rf114 : RefOk Try.prog 114 (.junk : AV) := ref_of (x := .nilFunc) rfl Try.underlying114 (by kernel_rfl) rfl (fun _ _ _ => trivial)
theorem rf115 : RefOk Try.prog 115 (.junk : AV) := ref_of (x := .nilFunc) rfl Try.underlying115 (by kernel_rfl) rfl (fun _ _ _ => trivial)
theorem rf116 : RefOk Try.prog 116 (.nils : AV) := ref_of (x := .slice none 0 0) rfl Try.underlying116 (by kernel_rfl) rfl (fun _ _ _ => rfl)
theorem rf118 : RefOk Try.prog 118 (.junk : AV) := ref_of (x := .nilFunc) rfl Try.underlying118 (by kernel_rfl) rfl (fun _ _ _ => trivial)
theorem rf119 : RefOk Try.prog 119 (.junk : AV) := ref_of (x := .nilFunc) rfl Try.underlying119 (by kernel_rfl) rfl (fun _ _ _ => trivial)
theorem rf120 : RefOk Try.prog 120 (.junk : AV) := ref_of (x := .nilFunc) rfl Try.underlying120 (by kernel_rfl) rfl (fun _ _ _ => trivial)
theorem rf121 : RefOk Try.prog 121 (.junk : AV) := ref_of (x := .nilFunc) rfl Try.underlying121 (by kernel_rfl) rfl (fun _ _ _ => trivial)
theorem rf122 : RefOk Try.prog 122 (.junk : AV) := ref_of (x := .nilFunc) rfl Try.underlying122 (by kernel_rfl) rfl (fun _ _ _ => trivial)
theorem rf123 : RefOk Try.prog 123 (.nils : AV) := ref_of (x := .slice none 0 0) rfl Try.underlying123 (by kernel_rfl) rfl (fun _ _ _ => rfl)
theorem rf124 : RefOk Try.prog 124 (.junk : AV) := ref_of (x := .nilFunc) rfl Try.underlying124 (by kernel_rfl) rfl (fun _ _ _ => trivial)
theorem rf125 : RefOk Try.prog 125 (.junk : AV) := ref_of (x := .nilFunc) rfl Try.underlying125 (by kernel_rfl) rfl (fun _ _ _ => trivial)
theorem rf126 : RefOk Try.prog 126 (.junk : AV) := ref_of (x := .nilFunc) rfl Try.underlying126 (by kernel_rfl) rfl (fun _ _ _ => trivial)
theorem rf127 : RefOk Try.prog 127 (.nilp : AV) := ref_of (x := .pointer none) rfl Try.underlying127 (by kernel_rfl) rfl (fun _ _ _ => rfl)
theorem rf128 : RefOk Try.prog 128 (.junk : AV) := ref_of (x := .nilFunc) rfl Try.underlying128 (by kernel_rfl) rfl (fun _ _ _ => trivial)
theorem rf129 : RefOk Try.prog 129 (.nils : AV) := ref_of (x := .slice none 0 0) rfl Try.underlying129 (by kernel_rfl) rfl (fun _ _ _ => rfl)
theorem rf130 : RefOk Try.prog 130 (.junk : AV) := ref_of (x := .nilFunc) rfl Try.underlying130 (by kernel_rfl) rfl (fun _ _ _ => trivial)
theorem rf132 : RefOk Try.prog 132 (.junk : AV) := ref_of (x := .nilFunc) rfl Try.underlying132 (by kernel_rfl) rfl (fun _ _ _ => trivial)
theorem rf133 : RefOk Try.prog 133 (.junk : AV) := ref_of (x := .nilFunc) rfl Try.underlying133 (by kernel_rfl) rfl (fun _ _ _ => trivial)
theorem rf134 : RefOk Try.prog 134 (.junk : AV) := ref_of (x := .nilFunc) rfl Try.underlying134 (by kernel_rfl) rfl (fun _ _ _ => trivial)
theorem rf135 : RefOk Try.prog 135 (.junk : AV) := ref_of (x := .nilFunc) rfl Try.underlying135 (by kernel_rfl) rfl (fun _ _ _ => trivial)
theorem rf136 : RefOk Try.prog 136 (.junk : AV) := ref_of (x := .nilFunc) rfl Try.underlying136 (by kernel_rfl) rfl (fun _ _ _ => trivial)
theorem rf137 : RefOk Try.prog 137 (.junk : AV) := ref_of (x := .nilFunc) rfl Try.underlying137 (by kernel_rfl) rfl (fun _ _ _ => trivial)
theorem rf138 : RefOk Try.prog 138 (.junk : AV) := ref_of (x := .nilFunc) rfl Try.underlying138 (by kernel_rfl) rfl (fun _ _ _ => trivial)
theorem rf139 : RefOk Try.prog 139 (.junk : AV) := ref_of (x := .nilFunc) rfl Try.underlying139 (by kernel_rfl) rfl (fun _ _ _ => trivial)
theorem rf140 : RefOk Try.prog 140 (.junk : AV) := ref_of (x := .nilFunc) rfl Try.underlying140 (by kernel_rfl) rfl (fun _ _ _ => trivial)
theorem rf141 : RefOk Try.prog 141 (.junk : AV) := ref_of (x := .nilFunc) rfl Try.underlying141 (by kernel_rfl) rfl (fun _ _ _ => trivial)
theorem rf142 : RefOk Try.prog 142 (.junk : AV) := ref_of (x := .nilFunc) rfl Try.underlying142 (by kernel_rfl) rfl (fun _ _ _ => trivial)
theorem rf143 : RefOk Try.prog 143 (.junk : AV) := ref_of (x := .nilFunc) rfl Try.underlying143 (by kernel_rfl) rfl (fun _ _ _ => trivial)
theorem rf144 : RefOk Try.prog 144 (.junk : AV) := ref_of (x := .nilFunc) rfl Try.underlying144 (by kernel_rfl) rfl (fun _ _ _ => trivial)
theorem rf145 : RefOk Try.prog 145 (.nils : AV) := ref_of (x := .slice none 0 0) rfl Try.underlying145 (by kernel_rfl) rfl (fun _ _ _ => rfl)
theorem rf146 : RefOk Try.prog 146 (.junk : AV) := ref_of (x := .nilFunc) rfl Try.underlying146 (by kernel_rfl) rfl (fun _ _ _ => trivial)
theorem rf147 : RefOk Try.prog 147 (.junk : AV) := ref_of (x := .nilFunc) rfl Try.underlying147 (by kernel_rfl) rfl (fun _ _ _ => trivial)
theorem rf148 : RefOk Try.prog 148 (.junk : AV) := ref_of (x := .nilFunc) rfl Try.underlying148 (by kernel_rfl) rfl (fun _ _ _ => trivial)
theorem rf149 : RefOk Try.prog 149 (.junk : AV) := ref_of (x := .nilFunc) rfl Try.underlying149 (by kernel_rfl) rfl (fun _ _ _ => trivial)
theorem rf150 : RefOk Try.prog 150 (.junk : AV) := ref_of (x := .nilFunc) rfl Try.underlying150 (by kernel_rfl) rfl (fun _ _ _ => trivial)
theorem rf151 : RefOk Try.prog 151 (.junk : AV) := ref_of (x := .nilFunc) rfl Try.underlying151 (by kernel_rfl) rfl (fun _ _ _ => trivial)
theorem rf152 : RefOk Try.prog 152 (.junk : AV) := ref_of (x := .nilFunc) rfl Try.underlying152 (by kernel_rfl) rfl (fun _ _ _ => trivial)
theorem rf153 : RefOk Try.prog 153 (.junk : AV) := ref_of (x := .nilFunc) rfl Try.underlying153 (by kernel_rfl) rfl (fun _ _ _ => trivial)
theorem rf154 : RefOk Try.prog 154 (.junk : AV) := ref_of (x := .nilFunc) rfl Try.underlying154 (by kernel_rfl) rfl (fun _ _ _ => trivial)
theorem rf155 : RefOk Try.prog 155 (.junk : AV) := ref_of (x := .nilFunc) rfl Try.underlying155 (by kernel_rfl) rfl (fun _ _ _ => trivial)
theorem rf156 : RefOk Try.prog 156 (.junk : AV) := ref_of (x := .nilFunc) rfl Try.underlying156 (by kernel_rfl) rfl (fun _ _ _ => trivial)
theorem rf157 : RefOk Try.prog 157 (.junk : AV) := ref_of (x := .nilFunc) rfl Try.underlying157 (by kernel_rfl) rfl (fun _ _ _ => trivial)
theorem rf158 : RefOk Try.prog 158 (.junk : AV) := ref_of (x := .nilFunc) rfl Try.underlying158 (by kernel_rfl) rfl (fun _ _ _ => trivial)
theorem rf160 : RefOk Try.prog 160 (.junk : AV) := ref_of (x := .nilFunc) rfl Try.underlying160 (by kernel_rfl) rfl (fun _ _ _ => trivial)
theorem rf161 : RefOk Try.prog 161 (.junk : AV) := ref_of (x := .nilFunc) rfl Try.underlying161 (by kernel_rfl) rfl (fun _ _ _ => trivial)
theorem rf162 : RefOk Try.prog 162 (.junk : AV) := ref_of (x := .nilFunc) rfl Try.underlying162 (by kernel_rfl) rfl (fun _ _ _ => trivial)
theorem rf163 : RefOk Try.prog 163 (.nils : AV) := ref_of (x := .slice none 0 0) rfl Try.underlying163 (by kernel_rfl) rfl (fun _ _ _ => rfl)
theorem rf164 : RefOk Try.prog 164 (.junk : AV) := ref_of (x := .nilFunc) rfl Try.underlying164 (by kernel_rfl) rfl (fun _ _ _ => trivial)
theorem rf165 : RefOk Try.prog 165 (.junk : AV) := ref_of (x := .nilFunc) rfl Try.underlying165 (by kernel_rfl) rfl (fun _ _ _ => trivial)
theorem rf171 : RefOk Try.prog 171 (.junk : AV) := ref_of (x := .nilFunc) rfl Try.underlying171 (by kernel_rfl) rfl (fun _ _ _ => trivial)
theorem rf175 : RefOk Try.prog 175 (.junk : AV) := ref_of (x := .nilFunc) rfl Try.underlying175 (by kernel_rfl) rfl (fun _ _ _ => trivial)
theorem rf176 : RefOk Try.prog 176 (.nilp : AV) := ref_of (x := .pointer none) rfl Try.underlying176 (by kernel_rfl) rfl (fun _ _ _ => rfl)
theorem rf181 : RefOk Try.prog 181 (.junk : AV) := ref_of (x := .nilFunc) rfl Try.underlying181 (by kernel_rfl) rfl (fun _ _ _ => trivial)
theorem rf182 : RefOk Try.prog 182 (.junk : AV) := ref_of (x := .nilFunc) rfl Try.underlying182 (by kernel_rfl) rfl (fun _ _ _ => trivial)
theorem rf183 : RefOk Try.prog 183 (.junk : AV) := ref_of (x := .nilFunc) rfl Try.underlying183 (by kernel_rfl) rfl (fun _ _ _ => trivial)
def tyL : List (Nat × Sh) := [(2, .int .i64), (3, .int .i64), (4, .bool), (5, .int .u8), (6, .int .u8), (9, .str), (10, .str), (11, .str), (12, .int .u64), (21, .int .i32), (22, .int .i8), (23, .int .i16), (24, .arr 8 (.int .i16)), (25, .arr 8 (.arr 8 (.int .i16))), (26, .arr 3 (.int .i16)), (27, .arr 8 (.arr 3 (.int .i16))), (28, .arr 8 (.arr 8 (.arr 3 (.int .i16)))), (29, .arr 8 (.int .u8)), (31, shSheet), (33, shFold), (35, shSpot), (36, shSpot), (39, shSheet), (41, shFold), (47, shBrush), (48, .arr 3 (.int .i64)), (51, shBrush), (117, .arr 2 shSpot), (159, .int .u64), (172, .int .u32), (173, .int .u8), (174, .int .u8), (177, .int .i32), (178, .int .i32), (185, .arr 8 (.arr 8 (.int .i16)))]
def slL : List (Nat × Sh) := [(116, .arr 2 shSpot), (123, shFold), (129, .arr 3 (.int .i64)), (145, shSpot), (163, .int .i64)]
def rfL : List (Nat × AV) := [(1, .junk), (15, .nilp), (16, .nilp), (17, .nilp), (38, .junk), (40, .junk), (42, .junk), (43, .junk), (44, .junk), (45, .junk), (50, .junk), (52, .junk), (53, .junk), (54, .junk), (56, .junk), (57, .junk), (58, .junk), (60, .junk), (61, .junk), (63, .junk), (64, .junk), (66, .junk), (67, .junk), (69, .junk), (71, .junk), (72, .junk), (73, .junk), (75, .junk), (76, .junk), (77, .junk), (78, .junk), (79, .junk), (80, .junk), (81, .nilp), (82, .junk), (83, .junk), (84, .junk), (85, .junk), (86, .junk), (87, .junk), (88, .junk), (89, .junk), (90, .junk), (91, .nilp), (93, .junk), (94, .junk), (95, .junk), (97, .junk), (98, .junk), (99, .junk), (100, .junk), (101, .junk), (102, .junk), (103, .junk), (104, .junk), (105, .junk), (106, .junk), (107, .junk), (108, .junk), (109, .junk), (110, .junk), (111, .junk), (112, .nilp), (113, .junk), (114, .junk), (115, .junk), (116, .nils), (118, .junk), (119, .junk), (120, .junk), (121, .junk), (122, .junk), (123, .nils), (124, .junk), (125, .junk), (126, .junk), (127, .nilp), (128, .junk), (129, .nils), (130, .junk), (132, .junk), (133, .junk), (134, .junk), (135, .junk), (136, .junk), (137, .junk), (138, .junk), (139, .junk), (140, .junk), (141, .junk), (142, .junk), (143, .junk), (144, .junk), (145, .nils), (146, .junk), (147, .junk), (148, .junk), (149, .junk), (150, .junk), (151, .junk), (152, .junk), (153, .junk), (154, .junk), (155, .junk), (156, .junk), (157, .junk), (158, .junk), (160, .junk), (161, .junk), (162, .junk), (163, .nils), (164, .junk), (165, .junk), (171, .junk), (175, .junk), (176, .nilp), (181, .junk), (182, .junk), (183, .junk)]
def eqL : List Nat := [24, 26, 29, 35, 36, 48]
def quL : List Nat := [15, 16, 17, 18, 19, 20, 21, 22, 23, 24, 25, 26, 27, 28, 29, 30, 31, 32, 33, 34, 35, 36, 37, 38, 39, 40, 41, 42, 43, 44, 45, 46, 47, 48, 49, 50, 51, 52, 53, 54, 55, 56, 57, 58, 59, 60, 61, 64, 65, 66, 67, 68, 70, 71, 73, 74, 76, 77, 80, 84, 85, 86, 92, 95, 96, 97, 98, 99, 100, 101, 102, 103, 104, 105, 106, 107, 108, 109, 110, 113, 114, 116, 117, 118, 120, 121, 122, 123, 127, 128, 129, 130, 131, 132, 133]
def apL : List ((Nat × Nat) × List (Nat × Nat)) := [((5, 18), [(8, 4)]), ((5, 19), [(8, 4)])]
noncomputable def Cx : Ctx := { P := Try.prog, ty := fun t => tyL.lookup t, sl := fun t => slL.lookup t, rf := fun t => rfL.lookup t, eq := fun t => eqL.elem t, quiet := fun t => quL.elem t, ap := fun i d => (apL.lookup (i, d.getD 0)).getD [] }
theorem lookup_mem {α : Type} {t : Nat} {x : α} : ∀ {l : List (Nat × α)}, l.lookup t = some x → (t, x) ∈ l
  | [], h => by simp at h
  | (s, y) :: l, h => by
    rw [List.lookup_cons] at h
    split at h
    · rename_i e
      have := eq_of_beq e
      cases h
      subst this
      simp
    · exact List.mem_cons_of_mem _ (lookup_mem h)
theorem cqu0 : Cx.quiet 0 = false := rfl
theorem cqu1 : Cx.quiet 1 = false := rfl
theorem cqu2 : Cx.quiet 2 = false := rfl
theorem cqu3 : Cx.quiet 3 = false := rfl
theorem cqu4 : Cx.quiet 4 = false := rfl
theorem cqu5 : Cx.quiet 5 = false := rfl
theorem cqu6 : Cx.quiet 6 = false := rfl
theorem cqu7 : Cx.quiet 7 = false := rfl
theorem cqu8 : Cx.quiet 8 = false := rfl
theorem cqu9 : Cx.quiet 9 = false := rfl
theorem cqu10 : Cx.quiet 10 = false := rfl
theorem cqu11 : Cx.quiet 11 = false := rfl
theorem cqu12 : Cx.quiet 12 = false := rfl
theorem cqu13 : Cx.quiet 13 = false := rfl
theorem cqu14 : Cx.quiet 14 = false := rfl
theorem cqu15 : Cx.quiet 15 = true := rfl
theorem cqu16 : Cx.quiet 16 = true := rfl
theorem cqu17 : Cx.quiet 17 = true := rfl
theorem cqu18 : Cx.quiet 18 = true := rfl
theorem cqu19 : Cx.quiet 19 = true := rfl
theorem cqu20 : Cx.quiet 20 = true := rfl
theorem cqu21 : Cx.quiet 21 = true := rfl
theorem cqu22 : Cx.quiet 22 = true := rfl
theorem cqu23 : Cx.quiet 23 = true := rfl
theorem cqu24 : Cx.quiet 24 = true := rfl
theorem cqu25 : Cx.quiet 25 = true := rfl
theorem cqu26 : Cx.quiet 26 = true := rfl
theorem cqu27 : Cx.quiet 27 = true := rfl
theorem cqu28 : Cx.quiet 28 = true := rfl
theorem cqu29 : Cx.quiet 29 = true := rfl
theorem cqu30 : Cx.quiet 30 = true := rfl
theorem cqu31 : Cx.quiet 31 = true := rfl
theorem cqu32 : Cx.quiet 32 = true := rfl
theorem cqu33 : Cx.quiet 33 = true := rfl
theorem cqu34 : Cx.quiet 34 = true := rfl
theorem cqu35 : Cx.quiet 35 = true := rfl
theorem cqu36 : Cx.quiet 36 = true := rfl
theorem cqu37 : Cx.quiet 37 = true := rfl
theorem cqu38 : Cx.quiet 38 = true := rfl
theorem cqu39 : Cx.quiet 39 = true := rfl
theorem cqu40 : Cx.quiet 40 = true := rfl
theorem cqu41 : Cx.quiet 41 = true := rfl
theorem cqu42 : Cx.quiet 42 = true := rfl
theorem cqu43 : Cx.quiet 43 = true := rfl
theorem cqu44 : Cx.quiet 44 = true := rfl
theorem cqu45 : Cx.quiet 45 = true := rfl
theorem cqu46 : Cx.quiet 46 = true := rfl
theorem cqu47 : Cx.quiet 47 = true := rfl
theorem cqu48 : Cx.quiet 48 = true := rfl
theorem cqu49 : Cx.quiet 49 = true := rfl
theorem cqu50 : Cx.quiet 50 = true := rfl
theorem cqu51 : Cx.quiet 51 = true := rfl
theorem cqu52 : Cx.quiet 52 = true := rfl
theorem cqu53 : Cx.quiet 53 = true := rfl
theorem cqu54 : Cx.quiet 54 = true := rfl
theorem cqu55 : Cx.quiet 55 = true := rfl
theorem cqu56 : Cx.quiet 56 = true := rfl
theorem cqu57 : Cx.quiet 57 = true := rfl
theorem cqu58 : Cx.quiet 58 = true := rfl
theorem cqu59 : Cx.quiet 59 = true := rfl
theorem cqu60 : Cx.quiet 60 = true := rfl
theorem cqu61 : Cx.quiet 61 = true := rfl
theorem cqu62 : Cx.quiet 62 = false := rfl
theorem cqu63 : Cx.quiet 63 = false := rfl
theorem cqu64 : Cx.quiet 64 = true := rfl
theorem cqu65 : Cx.quiet 65 = true := rfl
theorem cqu66 : Cx.quiet 66 = true := rfl
theorem cqu67 : Cx.quiet 67 = true := rfl
theorem cqu68 : Cx.quiet 68 = true := rfl
theorem cqu69 : Cx.quiet 69 = false := rfl
theorem cqu70 : Cx.quiet 70 = true := rfl
theorem cqu71 : Cx.quiet 71 = true := rfl
theorem cqu72 : Cx.quiet 72 = false := rfl
theorem cqu73 : Cx.quiet 73 = true := rfl
theorem cqu74 : Cx.quiet 74 = true := rfl
theorem cqu75 : Cx.quiet 75 = false := rfl
theorem cqu76 : Cx.quiet 76 = true := rfl
theorem cqu77 : Cx.quiet 77 = true := rfl
theorem cqu78 : Cx.quiet 78 = false := rfl
theorem cqu79 : Cx.quiet 79 = false := rfl
theorem cqu80 : Cx.quiet 80 = true := rfl
theorem cqu81 : Cx.quiet 81 = false := rfl
theorem cqu82 : Cx.quiet 82 = false := rfl
theorem cqu83 : Cx.quiet 83 = false := rfl
theorem cqu84 : Cx.quiet 84 = true := rfl
theorem cqu85 : Cx.quiet 85 = true := rfl
theorem cqu86 : Cx.quiet 86 = true := rfl
theorem cqu87 : Cx.quiet 87 = false := rfl
theorem cqu88 : Cx.quiet 88 = false := rfl
theorem cqu89 : Cx.quiet 89 = false := rfl
theorem cqu90 : Cx.quiet 90 = false := rfl
theorem cqu91 : Cx.quiet 91 = false := rfl
theorem cqu92 : Cx.quiet 92 = true := rfl
theorem cqu93 : Cx.quiet 93 = false := rfl
theorem cqu94 : Cx.quiet 94 = false := rfl
theorem cqu95 : Cx.quiet 95 = true := rfl
theorem cqu96 : Cx.quiet 96 = true := rfl
theorem cqu97 : Cx.quiet 97 = true := rfl
theorem cqu98 : Cx.quiet 98 = true := rfl
theorem cqu99 : Cx.quiet 99 = true := rfl
theorem cqu100 : Cx.quiet 100 = true := rfl
theorem cqu101 : Cx.quiet 101 = true := rfl
theorem cqu102 : Cx.quiet 102 = true := rfl
theorem cqu103 : Cx.quiet 103 = true := rfl
theorem cqu104 : Cx.quiet 104 = true := rfl
theorem cqu105 : Cx.quiet 105 = true := rfl
theorem cqu106 : Cx.quiet 106 = true := rfl
theorem cqu107 : Cx.quiet 107 = true := rfl
theorem cqu108 : Cx.quiet 108 = true := rfl
theorem cqu109 : Cx.quiet 109 = true := rfl
theorem cqu110 : Cx.quiet 110 = true := rfl
theorem cqu111 : Cx.quiet 111 = false := rfl
theorem cqu112 : Cx.quiet 112 = false := rfl
theorem cqu113 : Cx.quiet 113 = true := rfl
theorem cqu114 : Cx.quiet 114 = true := rfl
theorem cqu115 : Cx.quiet 115 = false := rfl
theorem cqu116 : Cx.quiet 116 = true := rfl
theorem cqu117 : Cx.quiet 117 = true := rfl
theorem cqu118 : Cx.quiet 118 = true := rfl
theorem cqu119 : Cx.quiet 119 = false := rfl
theorem cqu120 : Cx.quiet 120 = true := rfl
theorem cqu121 : Cx.quiet 121 = true := rfl
theorem cqu122 : Cx.quiet 122 = true := rfl
theorem cqu123 : Cx.quiet 123 = true := rfl
theorem cqu124 : Cx.quiet 124 = false := rfl
theorem cqu125 : Cx.quiet 125 = false := rfl
theorem cqu126 : Cx.quiet 126 = false := rfl
theorem cqu127 : Cx.quiet 127 = true := rfl
theorem cqu128 : Cx.quiet 128 = true := rfl
theorem cqu129 : Cx.quiet 129 = true := rfl
theorem cqu130 : Cx.quiet 130 = true := rfl
theorem cqu131 : Cx.quiet 131 = true := rfl
theorem cqu132 : Cx.quiet 132 = true := rfl
theorem cqu133 : Cx.quiet 133 = true := rfl
theorem cqu134 : Cx.quiet 134 = false := rfl
theorem cqu135 : Cx.quiet 135 = false := rfl
theorem cqu136 : Cx.quiet 136 = false := rfl
theorem cqu137 : Cx.quiet 137 = false := rfl
theorem cqu138 : Cx.quiet 138 = false := rfl
theorem cqu139 : Cx.quiet 139 = false := rfl
theorem cqu140 : Cx.quiet 140 = false := rfl
theorem cqu141 : Cx.quiet 141 = false := rfl
theorem cqu142 : Cx.quiet 142 = false := rfl
theorem cqu143 : Cx.quiet 143 = false := rfl
theorem cqu144 : Cx.quiet 144 = false := rfl
theorem cqu145 : Cx.quiet 145 = false := rfl
theorem cqu146 : Cx.quiet 146 = false := rfl
theorem cqu147 : Cx.quiet 147 = false := rfl
theorem cqu148 : Cx.quiet 148 = false := rfl
theorem cqu149 : Cx.quiet 149 = false := rfl
theorem cqu150 : Cx.quiet 150 = false := rfl
theorem cqu151 : Cx.quiet 151 = false := rfl
theorem cqu152 : Cx.quiet 152 = false := rfl
theorem cap1_3 : Cx.ap 1 (some 3) = [] := rfl
theorem cap1_5 : Cx.ap 1 (some 5) = [] := rfl
theorem cap1_6 : Cx.ap 1 (some 6) = [] := rfl
theorem cap1_8 : Cx.ap 1 (some 8) = [] := rfl
theorem cap1_9 : Cx.ap 1 (some 9) = [] := rfl
theorem cap1_10 : Cx.ap 1 (some 10) = [] := rfl
theorem cap1_11 : Cx.ap 1 (some 11) = [] := rfl
theorem cap1_12 : Cx.ap 1 (some 12) = [] := rfl
theorem cap1_14 : Cx.ap 1 (some 14) = [] := rfl
theorem cap2_18 : Cx.ap 2 (some 18) = [] := rfl
theorem cap2_21 : Cx.ap 2 (some 21) = [] := rfl
theorem cap2_22 : Cx.ap 2 (some 22) = [] := rfl
theorem cap2_25 : Cx.ap 2 (some 25) = [] := rfl
theorem cap4_10 : Cx.ap 4 (some 10) = [] := rfl
theorem cap4_11 : Cx.ap 4 (some 11) = [] := rfl
theorem cap5_16 : Cx.ap 5 (some 16) = [] := rfl
theorem cap5_18 : Cx.ap 5 (some 18) = [(8, 4)] := rfl
theorem cap5_19 : Cx.ap 5 (some 19) = [(8, 4)] := rfl
theorem cap5_20 : Cx.ap 5 (some 20) = [] := rfl
theorem cap5_21 : Cx.ap 5 (some 21) = [] := rfl
theorem cap5_22 : Cx.ap 5 (some 22) = [] := rfl
theorem cap5_24 : Cx.ap 5 (some 24) = [] := rfl
theorem cap6_25 : Cx.ap 6 (some 25) = [] := rfl
theorem cap6_26 : Cx.ap 6 (some 26) = [] := rfl
theorem cap6_34 : Cx.ap 6 (some 34) = [] := rfl
theorem cap6_35 : Cx.ap 6 (some 35) = [] := rfl
theorem cap7_19 : Cx.ap 7 (some 19) = [] := rfl
theorem cap7_23 : Cx.ap 7 (some 23) = [] := rfl
theorem cap7_26 : Cx.ap 7 (some 26) = [] := rfl
theorem cap8_22 : Cx.ap 8 (some 22) = [] := rfl
theorem cap8_28 : Cx.ap 8 (some 28) = [] := rfl
theorem cap8_33 : Cx.ap 8 (some 33) = [] := rfl
theorem cap8_34 : Cx.ap 8 (some 34) = [] := rfl
theorem cap8_49 : Cx.ap 8 (some 49) = [] := rfl
theorem cap8_65 : Cx.ap 8 (some 65) = [] := rfl
theorem cap9_32 : Cx.ap 9 (some 32) = [] := rfl
theorem cap9_33 : Cx.ap 9 (some 33) = [] := rfl
theorem cap9_63 : Cx.ap 9 (some 63) = [] := rfl
theorem cap10_28 : Cx.ap 10 (some 28) = [] := rfl
theorem cap10_30 : Cx.ap 10 (some 30) = [] := rfl
theorem cap10_34 : Cx.ap 10 (some 34) = [] := rfl
theorem cap11_36 : Cx.ap 11 (some 36) = [] := rfl
theorem cap11_45 : Cx.ap 11 (some 45) = [] := rfl
theorem cap11_52 : Cx.ap 11 (some 52) = [] := rfl
theorem cap12_37 : Cx.ap 12 (some 37) = [] := rfl
theorem cap12_63 : Cx.ap 12 (some 63) = [] := rfl
theorem cap13_41 : Cx.ap 13 (some 41) = [] := rfl
theorem cap13_95 : Cx.ap 13 (some 95) = [] := rfl
theorem cap14_62 : Cx.ap 14 (some 62) = [] := rfl
theorem cap14_114 : Cx.ap 14 (some 114) = [] := rfl
theorem cap15_73 : Cx.ap 15 (some 73) = [] := rfl
theorem cap16_138 : Cx.ap 16 (some 138) = [] := rfl
theorem cap17_161 : Cx.ap 17 (some 161) = [] := rfl
theorem cap18_177 : Cx.ap 18 (some 177) = [] := rfl
theorem ty_all : ∀ x ∈ tyL, TyOk Try.prog x.2 x.1 := by
  unfold tyL
  simp only [List.forall_mem_cons]
  exact ⟨ty2, ty3, ty4, ty5, ty6, ty9, ty10, ty11, ty12, ty21, ty22, ty23, ty24, ty25, ty26, ty27, ty28, ty29, ty31, ty33, ty35, ty36, ty39, ty41, ty47, ty48, ty51, ty117, ty159, ty172, ty173, ty174, ty177, ty178, ty185, fun _ h => by simp at h⟩
theorem sl_all : ∀ x ∈ slL, ∃ et, Try.prog.underlying x.1 = some (.slice et) ∧ TyOk Try.prog x.2 et ∧ x.2.size ≠ 0 := by
  unfold slL
  simp only [List.forall_mem_cons]
  exact ⟨⟨117, Try.underlying116, ty117, by decide⟩, ⟨41, Try.underlying123, ty41, by decide⟩, ⟨48, Try.underlying129, ty48, by decide⟩, ⟨36, Try.underlying145, ty36, by decide⟩, ⟨3, Try.underlying163, ty3, by decide⟩, fun _ h => by simp at h⟩
theorem rf_all : ∀ x ∈ rfL, RefOk Try.prog x.1 x.2 := by
  unfold rfL
  simp only [List.forall_mem_cons]
  exact ⟨rf1, rf15, rf16, rf17, rf38, rf40, rf42, rf43, rf44, rf45, rf50, rf52, rf53, rf54, rf56, rf57, rf58, rf60, rf61, rf63, rf64, rf66, rf67, rf69, rf71, rf72, rf73, rf75, rf76, rf77, rf78, rf79, rf80, rf81, rf82, rf83, rf84, rf85, rf86, rf87, rf88, rf89, rf90, rf91, rf93, rf94, rf95, rf97, rf98, rf99, rf100, rf101, rf102, rf103, rf104, rf105, rf106, rf107, rf108, rf109, rf110, rf111, rf112, rf113, rf114, rf115, rf116, rf118, rf119, rf120, rf121, rf122, rf123, rf124, rf125, rf126, rf127, rf128, rf129, rf130, rf132, rf133, rf134, rf135, rf136, rf137, rf138, rf139, rf140, rf141, rf142, rf143, rf144, rf145, rf146, rf147, rf148, rf149, rf150, rf151, rf152, rf153, rf154, rf155, rf156, rf157, rf158, rf160, rf161, rf162, rf163, rf164, rf165, rf171, rf175, rf176, rf181, rf182, rf183, fun _ h => by simp at h⟩
theorem eq_all : ∀ t ∈ eqL, Try.prog.eqGuardType Try.prog.depth t = false ∧ Try.prog.stoodInHeld t = false ∧ (∀ fs, Try.prog.underlying t = some (.struct fs) → ∀ f ∈ fs.toList, f.name ≠ "_") := by
  unfold eqL
  simp only [List.forall_mem_cons]
  exact ⟨⟨by kernel_rfl, by kernel_rfl, fun fs h => by rw [Try.underlying24] at h; cases h⟩, ⟨by kernel_rfl, by kernel_rfl, fun fs h => by rw [Try.underlying26] at h; cases h⟩, ⟨by kernel_rfl, by kernel_rfl, fun fs h => by rw [Try.underlying29] at h; cases h⟩, ⟨by kernel_rfl, by kernel_rfl, fun fs h => by rw [Try.underlying35] at h; cases h; decide⟩, ⟨by kernel_rfl, by kernel_rfl, fun fs h => by rw [Try.underlying36] at h; cases h; decide⟩, ⟨by kernel_rfl, by kernel_rfl, fun fs h => by rw [Try.underlying48] at h; cases h⟩, fun _ h => by simp at h⟩
theorem mixed : Try.prog.follows .mixedOrders = true := by kernel_rfl
theorem Cx_ok : Cx.Ok where
  mixed := mixed
  ty := fun t τ h => ty_all _ (lookup_mem h)
  sl := fun t e h => sl_all _ (lookup_mem h)
  rf := fun t z h => rf_all _ (lookup_mem h)
  eq := fun t h => eq_all t (by simpa [Cx] using h)
theorem cty2 : Cx.ty 2 = some (.int .i64) := rfl
theorem cty3 : Cx.ty 3 = some (.int .i64) := rfl
theorem cty4 : Cx.ty 4 = some .bool := rfl
theorem cty5 : Cx.ty 5 = some (.int .u8) := rfl
theorem cty6 : Cx.ty 6 = some (.int .u8) := rfl
theorem cty9 : Cx.ty 9 = some .str := rfl
theorem cty10 : Cx.ty 10 = some .str := rfl
theorem cty11 : Cx.ty 11 = some .str := rfl
theorem cty12 : Cx.ty 12 = some (.int .u64) := rfl
theorem cty21 : Cx.ty 21 = some (.int .i32) := rfl
theorem cty22 : Cx.ty 22 = some (.int .i8) := rfl
theorem cty23 : Cx.ty 23 = some (.int .i16) := rfl
theorem cty24 : Cx.ty 24 = some (.arr 8 (.int .i16)) := rfl
theorem cty25 : Cx.ty 25 = some (.arr 8 (.arr 8 (.int .i16))) := rfl
theorem cty26 : Cx.ty 26 = some (.arr 3 (.int .i16)) := rfl
theorem cty27 : Cx.ty 27 = some (.arr 8 (.arr 3 (.int .i16))) := rfl
theorem cty28 : Cx.ty 28 = some (.arr 8 (.arr 8 (.arr 3 (.int .i16)))) := rfl
theorem cty29 : Cx.ty 29 = some (.arr 8 (.int .u8)) := rfl
theorem cty31 : Cx.ty 31 = some shSheet := rfl
theorem cty33 : Cx.ty 33 = some shFold := rfl
theorem cty35 : Cx.ty 35 = some shSpot := rfl
theorem cty36 : Cx.ty 36 = some shSpot := rfl
theorem cty39 : Cx.ty 39 = some shSheet := rfl
theorem cty41 : Cx.ty 41 = some shFold := rfl
theorem cty47 : Cx.ty 47 = some shBrush := rfl
theorem cty48 : Cx.ty 48 = some (.arr 3 (.int .i64)) := rfl
theorem cty51 : Cx.ty 51 = some shBrush := rfl
theorem cty117 : Cx.ty 117 = some (.arr 2 shSpot) := rfl
theorem cty159 : Cx.ty 159 = some (.int .u64) := rfl
theorem cty172 : Cx.ty 172 = some (.int .u32) := rfl
theorem cty173 : Cx.ty 173 = some (.int .u8) := rfl
theorem cty174 : Cx.ty 174 = some (.int .u8) := rfl
theorem cty177 : Cx.ty 177 = some (.int .i32) := rfl
theorem cty178 : Cx.ty 178 = some (.int .i32) := rfl
theorem cty185 : Cx.ty 185 = some (.arr 8 (.arr 8 (.int .i16))) := rfl
theorem csl116 : Cx.sl 116 = some (.arr 2 shSpot) := rfl
theorem csl123 : Cx.sl 123 = some shFold := rfl
theorem csl129 : Cx.sl 129 = some (.arr 3 (.int .i64)) := rfl
theorem csl145 : Cx.sl 145 = some shSpot := rfl
theorem csl163 : Cx.sl 163 = some (.int .i64) := rfl
theorem crf1 : Cx.rf 1 = some .junk := rfl
theorem ckr1 {k q} : onK Cx 1 k q = q .junk := onK_rf rfl rfl
theorem crf15 : Cx.rf 15 = some .nilp := rfl
theorem ckr15 {k q} : onK Cx 15 k q = q .nilp := onK_rf rfl rfl
theorem crf16 : Cx.rf 16 = some .nilp := rfl
theorem ckr16 {k q} : onK Cx 16 k q = q .nilp := onK_rf rfl rfl
theorem crf17 : Cx.rf 17 = some .nilp := rfl
theorem ckr17 {k q} : onK Cx 17 k q = q .nilp := onK_rf rfl rfl
theorem crf38 : Cx.rf 38 = some .junk := rfl
theorem ckr38 {k q} : onK Cx 38 k q = q .junk := onK_rf rfl rfl
theorem crf40 : Cx.rf 40 = some .junk := rfl
theorem ckr40 {k q} : onK Cx 40 k q = q .junk := onK_rf rfl rfl
theorem crf42 : Cx.rf 42 = some .junk := rfl
theorem ckr42 {k q} : onK Cx 42 k q = q .junk := onK_rf rfl rfl
theorem crf43 : Cx.rf 43 = some .junk := rfl
theorem ckr43 {k q} : onK Cx 43 k q = q .junk := onK_rf rfl rfl
theorem crf44 : Cx.rf 44 = some .junk := rfl
theorem ckr44 {k q} : onK Cx 44 k q = q .junk := onK_rf rfl rfl
theorem crf45 : Cx.rf 45 = some .junk := rfl
theorem ckr45 {k q} : onK Cx 45 k q = q .junk := onK_rf rfl rfl
theorem crf50 : Cx.rf 50 = some .junk := rfl
theorem ckr50 {k q} : onK Cx 50 k q = q .junk := onK_rf rfl rfl
theorem crf52 : Cx.rf 52 = some .junk := rfl
theorem ckr52 {k q} : onK Cx 52 k q = q .junk := onK_rf rfl rfl
theorem crf53 : Cx.rf 53 = some .junk := rfl
theorem ckr53 {k q} : onK Cx 53 k q = q .junk := onK_rf rfl rfl
theorem crf54 : Cx.rf 54 = some .junk := rfl
theorem ckr54 {k q} : onK Cx 54 k q = q .junk := onK_rf rfl rfl
theorem crf56 : Cx.rf 56 = some .junk := rfl
theorem ckr56 {k q} : onK Cx 56 k q = q .junk := onK_rf rfl rfl
theorem crf57 : Cx.rf 57 = some .junk := rfl
theorem ckr57 {k q} : onK Cx 57 k q = q .junk := onK_rf rfl rfl
theorem crf58 : Cx.rf 58 = some .junk := rfl
theorem ckr58 {k q} : onK Cx 58 k q = q .junk := onK_rf rfl rfl
theorem crf60 : Cx.rf 60 = some .junk := rfl
theorem ckr60 {k q} : onK Cx 60 k q = q .junk := onK_rf rfl rfl
theorem crf61 : Cx.rf 61 = some .junk := rfl
theorem ckr61 {k q} : onK Cx 61 k q = q .junk := onK_rf rfl rfl
theorem crf63 : Cx.rf 63 = some .junk := rfl
theorem ckr63 {k q} : onK Cx 63 k q = q .junk := onK_rf rfl rfl
theorem crf64 : Cx.rf 64 = some .junk := rfl
theorem ckr64 {k q} : onK Cx 64 k q = q .junk := onK_rf rfl rfl
theorem crf66 : Cx.rf 66 = some .junk := rfl
theorem ckr66 {k q} : onK Cx 66 k q = q .junk := onK_rf rfl rfl
theorem crf67 : Cx.rf 67 = some .junk := rfl
theorem ckr67 {k q} : onK Cx 67 k q = q .junk := onK_rf rfl rfl
theorem crf69 : Cx.rf 69 = some .junk := rfl
theorem ckr69 {k q} : onK Cx 69 k q = q .junk := onK_rf rfl rfl
theorem crf71 : Cx.rf 71 = some .junk := rfl
theorem ckr71 {k q} : onK Cx 71 k q = q .junk := onK_rf rfl rfl
theorem crf72 : Cx.rf 72 = some .junk := rfl
theorem ckr72 {k q} : onK Cx 72 k q = q .junk := onK_rf rfl rfl
theorem crf73 : Cx.rf 73 = some .junk := rfl
theorem ckr73 {k q} : onK Cx 73 k q = q .junk := onK_rf rfl rfl
theorem crf75 : Cx.rf 75 = some .junk := rfl
theorem ckr75 {k q} : onK Cx 75 k q = q .junk := onK_rf rfl rfl
theorem crf76 : Cx.rf 76 = some .junk := rfl
theorem ckr76 {k q} : onK Cx 76 k q = q .junk := onK_rf rfl rfl
theorem crf77 : Cx.rf 77 = some .junk := rfl
theorem ckr77 {k q} : onK Cx 77 k q = q .junk := onK_rf rfl rfl
theorem crf78 : Cx.rf 78 = some .junk := rfl
theorem ckr78 {k q} : onK Cx 78 k q = q .junk := onK_rf rfl rfl
theorem crf79 : Cx.rf 79 = some .junk := rfl
theorem ckr79 {k q} : onK Cx 79 k q = q .junk := onK_rf rfl rfl
theorem crf80 : Cx.rf 80 = some .junk := rfl
theorem ckr80 {k q} : onK Cx 80 k q = q .junk := onK_rf rfl rfl
theorem crf81 : Cx.rf 81 = some .nilp := rfl
theorem ckr81 {k q} : onK Cx 81 k q = q .nilp := onK_rf rfl rfl
theorem crf82 : Cx.rf 82 = some .junk := rfl
theorem ckr82 {k q} : onK Cx 82 k q = q .junk := onK_rf rfl rfl
theorem crf83 : Cx.rf 83 = some .junk := rfl
theorem ckr83 {k q} : onK Cx 83 k q = q .junk := onK_rf rfl rfl
theorem crf84 : Cx.rf 84 = some .junk := rfl
theorem ckr84 {k q} : onK Cx 84 k q = q .junk := onK_rf rfl rfl
theorem crf85 : Cx.rf 85 = some .junk := rfl
theorem ckr85 {k q} : onK Cx 85 k q = q .junk := onK_rf rfl rfl
theorem crf86 : Cx.rf 86 = some .junk := rfl
theorem ckr86 {k q} : onK Cx 86 k q = q .junk := onK_rf rfl rfl
theorem crf87 : Cx.rf 87 = some .junk := rfl
theorem ckr87 {k q} : onK Cx 87 k q = q .junk := onK_rf rfl rfl
theorem crf88 : Cx.rf 88 = some .junk := rfl
theorem ckr88 {k q} : onK Cx 88 k q = q .junk := onK_rf rfl rfl
theorem crf89 : Cx.rf 89 = some .junk := rfl
theorem ckr89 {k q} : onK Cx 89 k q = q .junk := onK_rf rfl rfl
theorem crf90 : Cx.rf 90 = some .junk := rfl
theorem ckr90 {k q} : onK Cx 90 k q = q .junk := onK_rf rfl rfl
theorem crf91 : Cx.rf 91 = some .nilp := rfl
theorem ckr91 {k q} : onK Cx 91 k q = q .nilp := onK_rf rfl rfl
theorem crf93 : Cx.rf 93 = some .junk := rfl
theorem ckr93 {k q} : onK Cx 93 k q = q .junk := onK_rf rfl rfl
theorem crf94 : Cx.rf 94 = some .junk := rfl
theorem ckr94 {k q} : onK Cx 94 k q = q .junk := onK_rf rfl rfl
theorem crf95 : Cx.rf 95 = some .junk := rfl
theorem ckr95 {k q} : onK Cx 95 k q = q .junk := onK_rf rfl rfl
theorem crf97 : Cx.rf 97 = some .junk := rfl
theorem ckr97 {k q} : onK Cx 97 k q = q .junk := onK_rf rfl rfl
theorem crf98 : Cx.rf 98 = some .junk := rfl
theorem ckr98 {k q} : onK Cx 98 k q = q .junk := onK_rf rfl rfl
theorem crf99 : Cx.rf 99 = some .junk := rfl
theorem ckr99 {k q} : onK Cx 99 k q = q .junk := onK_rf rfl rfl
theorem crf100 : Cx.rf 100 = some .junk := rfl
theorem ckr100 {k q} : onK Cx 100 k q = q .junk := onK_rf rfl rfl
theorem crf101 : Cx.rf 101 = some .junk := rfl
theorem ckr101 {k q} : onK Cx 101 k q = q .junk := onK_rf rfl rfl
theorem crf102 : Cx.rf 102 = some .junk := rfl
theorem ckr102 {k q} : onK Cx 102 k q = q .junk := onK_rf rfl rfl
theorem crf103 : Cx.rf 103 = some .junk := rfl
theorem ckr103 {k q} : onK Cx 103 k q = q .junk := onK_rf rfl rfl
theorem crf104 : Cx.rf 104 = some .junk := rfl
theorem ckr104 {k q} : onK Cx 104 k q = q .junk := onK_rf rfl rfl
theorem crf105 : Cx.rf 105 = some .junk := rfl
theorem ckr105 {k q} : onK Cx 105 k q = q .junk := onK_rf rfl rfl
theorem crf106 : Cx.rf 106 = some .junk := rfl
theorem ckr106 {k q} : onK Cx 106 k q = q .junk := onK_rf rfl rfl
theorem crf107 : Cx.rf 107 = some .junk := rfl
theorem ckr107 {k q} : onK Cx 107 k q = q .junk := onK_rf rfl rfl
theorem crf108 : Cx.rf 108 = some .junk := rfl
theorem ckr108 {k q} : onK Cx 108 k q = q .junk := onK_rf rfl rfl
theorem crf109 : Cx.rf 109 = some .junk := rfl
theorem ckr109 {k q} : onK Cx 109 k q = q .junk := onK_rf rfl rfl
theorem crf110 : Cx.rf 110 = some .junk := rfl
theorem ckr110 {k q} : onK Cx 110 k q = q .junk := onK_rf rfl rfl
theorem crf111 : Cx.rf 111 = some .junk := rfl
theorem ckr111 {k q} : onK Cx 111 k q = q .junk := onK_rf rfl rfl
theorem crf112 : Cx.rf 112 = some .nilp := rfl
theorem ckr112 {k q} : onK Cx 112 k q = q .nilp := onK_rf rfl rfl
theorem crf113 : Cx.rf 113 = some .junk := rfl
theorem ckr113 {k q} : onK Cx 113 k q = q .junk := onK_rf rfl rfl
theorem crf114 : Cx.rf 114 = some .junk := rfl
theorem ckr114 {k q} : onK Cx 114 k q = q .junk := onK_rf rfl rfl
theorem crf115 : Cx.rf 115 = some .junk := rfl
theorem ckr115 {k q} : onK Cx 115 k q = q .junk := onK_rf rfl rfl
theorem crf116 : Cx.rf 116 = some .nils := rfl
theorem ckr116 {k q} : onK Cx 116 k q = q .nils := onK_rf rfl rfl
theorem crf118 : Cx.rf 118 = some .junk := rfl
theorem ckr118 {k q} : onK Cx 118 k q = q .junk := onK_rf rfl rfl
theorem crf119 : Cx.rf 119 = some .junk := rfl
theorem ckr119 {k q} : onK Cx 119 k q = q .junk := onK_rf rfl rfl
theorem crf120 : Cx.rf 120 = some .junk := rfl
theorem ckr120 {k q} : onK Cx 120 k q = q .junk := onK_rf rfl rfl
theorem crf121 : Cx.rf 121 = some .junk := rfl
theorem ckr121 {k q} : onK Cx 121 k q = q .junk := onK_rf rfl rfl
theorem crf122 : Cx.rf 122 = some .junk := rfl
theorem ckr122 {k q} : onK Cx 122 k q = q .junk := onK_rf rfl rfl
theorem crf123 : Cx.rf 123 = some .nils := rfl
theorem ckr123 {k q} : onK Cx 123 k q = q .nils := onK_rf rfl rfl
theorem crf124 : Cx.rf 124 = some .junk := rfl
theorem ckr124 {k q} : onK Cx 124 k q = q .junk := onK_rf rfl rfl
theorem crf125 : Cx.rf 125 = some .junk := rfl
theorem ckr125 {k q} : onK Cx 125 k q = q .junk := onK_rf rfl rfl
theorem crf126 : Cx.rf 126 = some .junk := rfl
theorem ckr126 {k q} : onK Cx 126 k q = q .junk := onK_rf rfl rfl
theorem crf127 : Cx.rf 127 = some .nilp := rfl
theorem ckr127 {k q} : onK Cx 127 k q = q .nilp := onK_rf rfl rfl
theorem crf128 : Cx.rf 128 = some .junk := rfl
theorem ckr128 {k q} : onK Cx 128 k q = q .junk := onK_rf rfl rfl
theorem crf129 : Cx.rf 129 = some .nils := rfl
theorem ckr129 {k q} : onK Cx 129 k q = q .nils := onK_rf rfl rfl
theorem crf130 : Cx.rf 130 = some .junk := rfl
theorem ckr130 {k q} : onK Cx 130 k q = q .junk := onK_rf rfl rfl
theorem crf132 : Cx.rf 132 = some .junk := rfl
theorem ckr132 {k q} : onK Cx 132 k q = q .junk := onK_rf rfl rfl
theorem crf133 : Cx.rf 133 = some .junk := rfl
theorem ckr133 {k q} : onK Cx 133 k q = q .junk := onK_rf rfl rfl
theorem crf134 : Cx.rf 134 = some .junk := rfl
theorem ckr134 {k q} : onK Cx 134 k q = q .junk := onK_rf rfl rfl
theorem crf135 : Cx.rf 135 = some .junk := rfl
theorem ckr135 {k q} : onK Cx 135 k q = q .junk := onK_rf rfl rfl
theorem crf136 : Cx.rf 136 = some .junk := rfl
theorem ckr136 {k q} : onK Cx 136 k q = q .junk := onK_rf rfl rfl
theorem crf137 : Cx.rf 137 = some .junk := rfl
theorem ckr137 {k q} : onK Cx 137 k q = q .junk := onK_rf rfl rfl
theorem crf138 : Cx.rf 138 = some .junk := rfl
theorem ckr138 {k q} : onK Cx 138 k q = q .junk := onK_rf rfl rfl
theorem crf139 : Cx.rf 139 = some .junk := rfl
theorem ckr139 {k q} : onK Cx 139 k q = q .junk := onK_rf rfl rfl
theorem crf140 : Cx.rf 140 = some .junk := rfl
theorem ckr140 {k q} : onK Cx 140 k q = q .junk := onK_rf rfl rfl
theorem crf141 : Cx.rf 141 = some .junk := rfl
theorem ckr141 {k q} : onK Cx 141 k q = q .junk := onK_rf rfl rfl
theorem crf142 : Cx.rf 142 = some .junk := rfl
theorem ckr142 {k q} : onK Cx 142 k q = q .junk := onK_rf rfl rfl
theorem crf143 : Cx.rf 143 = some .junk := rfl
theorem ckr143 {k q} : onK Cx 143 k q = q .junk := onK_rf rfl rfl
theorem crf144 : Cx.rf 144 = some .junk := rfl
theorem ckr144 {k q} : onK Cx 144 k q = q .junk := onK_rf rfl rfl
theorem crf145 : Cx.rf 145 = some .nils := rfl
theorem ckr145 {k q} : onK Cx 145 k q = q .nils := onK_rf rfl rfl
theorem crf146 : Cx.rf 146 = some .junk := rfl
theorem ckr146 {k q} : onK Cx 146 k q = q .junk := onK_rf rfl rfl
theorem crf147 : Cx.rf 147 = some .junk := rfl
theorem ckr147 {k q} : onK Cx 147 k q = q .junk := onK_rf rfl rfl
theorem crf148 : Cx.rf 148 = some .junk := rfl
theorem ckr148 {k q} : onK Cx 148 k q = q .junk := onK_rf rfl rfl
theorem crf149 : Cx.rf 149 = some .junk := rfl
theorem ckr149 {k q} : onK Cx 149 k q = q .junk := onK_rf rfl rfl
theorem crf150 : Cx.rf 150 = some .junk := rfl
theorem ckr150 {k q} : onK Cx 150 k q = q .junk := onK_rf rfl rfl
theorem crf151 : Cx.rf 151 = some .junk := rfl
theorem ckr151 {k q} : onK Cx 151 k q = q .junk := onK_rf rfl rfl
theorem crf152 : Cx.rf 152 = some .junk := rfl
theorem ckr152 {k q} : onK Cx 152 k q = q .junk := onK_rf rfl rfl
theorem crf153 : Cx.rf 153 = some .junk := rfl
theorem ckr153 {k q} : onK Cx 153 k q = q .junk := onK_rf rfl rfl
theorem crf154 : Cx.rf 154 = some .junk := rfl
theorem ckr154 {k q} : onK Cx 154 k q = q .junk := onK_rf rfl rfl
theorem crf155 : Cx.rf 155 = some .junk := rfl
theorem ckr155 {k q} : onK Cx 155 k q = q .junk := onK_rf rfl rfl
theorem crf156 : Cx.rf 156 = some .junk := rfl
theorem ckr156 {k q} : onK Cx 156 k q = q .junk := onK_rf rfl rfl
theorem crf157 : Cx.rf 157 = some .junk := rfl
theorem ckr157 {k q} : onK Cx 157 k q = q .junk := onK_rf rfl rfl
theorem crf158 : Cx.rf 158 = some .junk := rfl
theorem ckr158 {k q} : onK Cx 158 k q = q .junk := onK_rf rfl rfl
theorem crf160 : Cx.rf 160 = some .junk := rfl
theorem ckr160 {k q} : onK Cx 160 k q = q .junk := onK_rf rfl rfl
theorem crf161 : Cx.rf 161 = some .junk := rfl
theorem ckr161 {k q} : onK Cx 161 k q = q .junk := onK_rf rfl rfl
theorem crf162 : Cx.rf 162 = some .junk := rfl
theorem ckr162 {k q} : onK Cx 162 k q = q .junk := onK_rf rfl rfl
theorem crf163 : Cx.rf 163 = some .nils := rfl
theorem ckr163 {k q} : onK Cx 163 k q = q .nils := onK_rf rfl rfl
theorem crf164 : Cx.rf 164 = some .junk := rfl
theorem ckr164 {k q} : onK Cx 164 k q = q .junk := onK_rf rfl rfl
theorem crf165 : Cx.rf 165 = some .junk := rfl
theorem ckr165 {k q} : onK Cx 165 k q = q .junk := onK_rf rfl rfl
theorem crf171 : Cx.rf 171 = some .junk := rfl
theorem ckr171 {k q} : onK Cx 171 k q = q .junk := onK_rf rfl rfl
theorem crf175 : Cx.rf 175 = some .junk := rfl
theorem ckr175 {k q} : onK Cx 175 k q = q .junk := onK_rf rfl rfl
theorem crf176 : Cx.rf 176 = some .nilp := rfl
theorem ckr176 {k q} : onK Cx 176 k q = q .nilp := onK_rf rfl rfl
theorem crf181 : Cx.rf 181 = some .junk := rfl
theorem ckr181 {k q} : onK Cx 181 k q = q .junk := onK_rf rfl rfl
theorem crf182 : Cx.rf 182 = some .junk := rfl
theorem ckr182 {k q} : onK Cx 182 k q = q .junk := onK_rf rfl rfl
theorem crf183 : Cx.rf 183 = some .junk := rfl
theorem ckr183 {k q} : onK Cx 183 k q = q .junk := onK_rf rfl rfl
theorem ckt2 {k q} : onK Cx 2 k q = k (.int .i64) := onK_ty rfl
theorem ckt3 {k q} : onK Cx 3 k q = k (.int .i64) := onK_ty rfl
theorem ckt4 {k q} : onK Cx 4 k q = k .bool := onK_ty rfl
theorem ckt5 {k q} : onK Cx 5 k q = k (.int .u8) := onK_ty rfl
theorem ckt6 {k q} : onK Cx 6 k q = k (.int .u8) := onK_ty rfl
theorem ckt9 {k q} : onK Cx 9 k q = k .str := onK_ty rfl
theorem ckt10 {k q} : onK Cx 10 k q = k .str := onK_ty rfl
theorem ckt11 {k q} : onK Cx 11 k q = k .str := onK_ty rfl
theorem ckt12 {k q} : onK Cx 12 k q = k (.int .u64) := onK_ty rfl
theorem ckt21 {k q} : onK Cx 21 k q = k (.int .i32) := onK_ty rfl
theorem ckt22 {k q} : onK Cx 22 k q = k (.int .i8) := onK_ty rfl
theorem ckt23 {k q} : onK Cx 23 k q = k (.int .i16) := onK_ty rfl
theorem ckt24 {k q} : onK Cx 24 k q = k (.arr 8 (.int .i16)) := onK_ty rfl
theorem ckt25 {k q} : onK Cx 25 k q = k (.arr 8 (.arr 8 (.int .i16))) := onK_ty rfl
theorem ckt26 {k q} : onK Cx 26 k q = k (.arr 3 (.int .i16)) := onK_ty rfl
theorem ckt27 {k q} : onK Cx 27 k q = k (.arr 8 (.arr 3 (.int .i16))) := onK_ty rfl
theorem ckt28 {k q} : onK Cx 28 k q = k (.arr 8 (.arr 8 (.arr 3 (.int .i16)))) := onK_ty rfl
theorem ckt29 {k q} : onK Cx 29 k q = k (.arr 8 (.int .u8)) := onK_ty rfl
theorem ckt31 {k q} : onK Cx 31 k q = k shSheet := onK_ty rfl
theorem ckt33 {k q} : onK Cx 33 k q = k shFold := onK_ty rfl
theorem ckt35 {k q} : onK Cx 35 k q = k shSpot := onK_ty rfl
theorem ckt36 {k q} : onK Cx 36 k q = k shSpot := onK_ty rfl
theorem ckt39 {k q} : onK Cx 39 k q = k shSheet := onK_ty rfl
theorem ckt41 {k q} : onK Cx 41 k q = k shFold := onK_ty rfl
theorem ckt47 {k q} : onK Cx 47 k q = k shBrush := onK_ty rfl
theorem ckt48 {k q} : onK Cx 48 k q = k (.arr 3 (.int .i64)) := onK_ty rfl
theorem ckt51 {k q} : onK Cx 51 k q = k shBrush := onK_ty rfl
theorem ckt117 {k q} : onK Cx 117 k q = k (.arr 2 shSpot) := onK_ty rfl
theorem ckt159 {k q} : onK Cx 159 k q = k (.int .u64) := onK_ty rfl
theorem ckt172 {k q} : onK Cx 172 k q = k (.int .u32) := onK_ty rfl
theorem ckt173 {k q} : onK Cx 173 k q = k (.int .u8) := onK_ty rfl
theorem ckt174 {k q} : onK Cx 174 k q = k (.int .u8) := onK_ty rfl
theorem ckt177 {k q} : onK Cx 177 k q = k (.int .i32) := onK_ty rfl
theorem ckt178 {k q} : onK Cx 178 k q = k (.int .i32) := onK_ty rfl
theorem ckt185 {k q} : onK Cx 185 k q = k (.arr 8 (.arr 8 (.int .i16))) := onK_ty rfl
theorem ceq24 : Cx.eq 24 = true := rfl
theorem ceq26 : Cx.eq 26 = true := rfl
theorem ceq29 : Cx.eq 29 = true := rfl
theorem ceq35 : Cx.eq 35 = true := rfl
theorem ceq36 : Cx.eq 36 = true := rfl
theorem ceq48 : Cx.eq 48 = true := rfl
theorem cP : Cx.P = Try.prog := rfl
end Go.Proofs.Ytdooejjnjfgnjaa
