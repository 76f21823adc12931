/- The types of this translation, as the evaluator reads them: each entry is proved from the program's own table. No conditions. -/
import Derived.Test.YtaabokmbkohieaaChecked
import Derived.Test.YtaabokmbkohieaaInkGe
import Derived.KernelRfl
set_option linter.unusedVariables false
set_option linter.unusedSimpArgs false
namespace Go.Proofs.Ytaabokmbkohieaa
open Ink Go
set_option maxRecDepth 100000
theorem info_of {P : Program} {t : TypeId} {τ : Sh} (h1 : (P.info? t).map (fun i => (i.zero, i.size)) = some (some (enc τ τ.zero), τ.size)) (h2 : (P.info? t).map (fun i => decide (i.bytes ≤ 65536)) = some true) : InfoOk P t τ := by
  cases hi : P.info? t with
  | none => rw [hi] at h1; cases h1
  | some i =>
    rw [hi] at h1 h2
    simp only [Option.map_some, Option.some.injEq, Prod.mk.injEq, decide_eq_true_eq] at h1 h2
    exact ⟨i, hi, h1.2, h1.1, h2⟩
theorem ref_of {P : Program} {t : TypeId} {z : AV} {d : TypeDesc} {x : Value} (hdd : (match d with | .struct _ | .array _ _ => false | _ => true) = true) (hd : P.underlying t = some d) (h1 : (P.info? t).map (fun i => (i.zero, i.size)) = some (some x, 1)) (hx : x.oneCell' = true) (hr : ∀ ρ S w, Rv ρ S w z x) : RefOk P t z := by
  cases hi : P.info? t with
  | none => rw [hi] at h1; cases h1
  | some i =>
    rw [hi] at h1
    simp only [Option.map_some, Option.some.injEq, Prod.mk.injEq] at h1
    exact ⟨d, i, hd, hi, h1.2, ⟨x, h1.1, hx, hr⟩, hdd⟩
theorem ty2 : TyOk Try.prog (.int .i64 : Sh) 2 := by
  have h : InfoOk Try.prog 2 (.int .i64 : Sh) := info_of (by kernel_rfl) (by kernel_rfl)
  unfold TyOk; exact ⟨Try.underlying2, h⟩
theorem ty3 : TyOk Try.prog (.int .i64 : Sh) 3 := by
  have h : InfoOk Try.prog 3 (.int .i64 : Sh) := info_of (by kernel_rfl) (by kernel_rfl)
  unfold TyOk; exact ⟨Try.underlying3, h⟩
theorem ty4 : TyOk Try.prog (.bool : Sh) 4 := by
  have h : InfoOk Try.prog 4 (.bool : Sh) := info_of (by kernel_rfl) (by kernel_rfl)
  unfold TyOk; exact ⟨Try.underlying4, h⟩
theorem ty5 : TyOk Try.prog (.int .u8 : Sh) 5 := by
  have h : InfoOk Try.prog 5 (.int .u8 : Sh) := info_of (by kernel_rfl) (by kernel_rfl)
  unfold TyOk; exact ⟨Try.underlying5, h⟩
theorem ty6 : TyOk Try.prog (.int .u8 : Sh) 6 := by
  have h : InfoOk Try.prog 6 (.int .u8 : Sh) := info_of (by kernel_rfl) (by kernel_rfl)
  unfold TyOk; exact ⟨Try.underlying6, h⟩
theorem ty9 : TyOk Try.prog (.str : Sh) 9 := by
  have h : InfoOk Try.prog 9 (.str : Sh) := info_of (by kernel_rfl) (by kernel_rfl)
  unfold TyOk; exact ⟨Try.underlying9, h⟩
theorem ty10 : TyOk Try.prog (.str : Sh) 10 := by
  have h : InfoOk Try.prog 10 (.str : Sh) := info_of (by kernel_rfl) (by kernel_rfl)
  unfold TyOk; exact ⟨Try.underlying10, h⟩
theorem ty11 : TyOk Try.prog (.str : Sh) 11 := by
  have h : InfoOk Try.prog 11 (.str : Sh) := info_of (by kernel_rfl) (by kernel_rfl)
  unfold TyOk; exact ⟨Try.underlying11, h⟩
theorem ty12 : TyOk Try.prog (.int .u64 : Sh) 12 := by
  have h : InfoOk Try.prog 12 (.int .u64 : Sh) := info_of (by kernel_rfl) (by kernel_rfl)
  unfold TyOk; exact ⟨Try.underlying12, h⟩
theorem ty21 : TyOk Try.prog (.int .i32 : Sh) 21 := by
  have h : InfoOk Try.prog 21 (.int .i32 : Sh) := info_of (by kernel_rfl) (by kernel_rfl)
  unfold TyOk; exact ⟨Try.underlying21, h⟩
theorem ty22 : TyOk Try.prog (.int .i8 : Sh) 22 := by
  have h : InfoOk Try.prog 22 (.int .i8 : Sh) := info_of (by kernel_rfl) (by kernel_rfl)
  unfold TyOk; exact ⟨Try.underlying22, h⟩
theorem ty23 : TyOk Try.prog (.int .i16 : Sh) 23 := by
  have h : InfoOk Try.prog 23 (.int .i16 : Sh) := info_of (by kernel_rfl) (by kernel_rfl)
  unfold TyOk; exact ⟨Try.underlying23, h⟩
theorem ty24 : TyOk Try.prog (.arr 8 (.int .i16) : Sh) 24 := by
  have h : InfoOk Try.prog 24 (.arr 8 (.int .i16) : Sh) := info_of (by kernel_rfl) (by kernel_rfl)
  unfold TyOk; exact ⟨⟨23, Try.underlying24, ty23⟩, h⟩
theorem ty25 : TyOk Try.prog (.arr 8 (.arr 8 (.int .i16)) : Sh) 25 := by
  have h : InfoOk Try.prog 25 (.arr 8 (.arr 8 (.int .i16)) : Sh) := info_of (by kernel_rfl) (by kernel_rfl)
  unfold TyOk; exact ⟨⟨24, Try.underlying25, ty24⟩, h⟩
theorem ty26 : TyOk Try.prog (.arr 3 (.int .i16) : Sh) 26 := by
  have h : InfoOk Try.prog 26 (.arr 3 (.int .i16) : Sh) := info_of (by kernel_rfl) (by kernel_rfl)
  unfold TyOk; exact ⟨⟨23, Try.underlying26, ty23⟩, h⟩
theorem ty27 : TyOk Try.prog (.arr 8 (.arr 3 (.int .i16)) : Sh) 27 := by
  have h : InfoOk Try.prog 27 (.arr 8 (.arr 3 (.int .i16)) : Sh) := info_of (by kernel_rfl) (by kernel_rfl)
  unfold TyOk; exact ⟨⟨26, Try.underlying27, ty26⟩, h⟩
theorem ty28 : TyOk Try.prog (.arr 8 (.arr 8 (.arr 3 (.int .i16))) : Sh) 28 := by
  have h : InfoOk Try.prog 28 (.arr 8 (.arr 8 (.arr 3 (.int .i16))) : Sh) := info_of (by kernel_rfl) (by kernel_rfl)
  unfold TyOk; exact ⟨⟨27, Try.underlying28, ty27⟩, h⟩
theorem ty29 : TyOk Try.prog (.arr 8 (.int .u8) : Sh) 29 := by
  have h : InfoOk Try.prog 29 (.arr 8 (.int .u8) : Sh) := info_of (by kernel_rfl) (by kernel_rfl)
  unfold TyOk; exact ⟨⟨5, Try.underlying29, ty5⟩, h⟩
theorem ty31 : TyOk Try.prog shSheet 31 := by
  have h : InfoOk Try.prog 31 shSheet := info_of (by kernel_rfl) (by kernel_rfl)
  unfold shSheet at h ⊢; unfold TyOk; exact ⟨⟨_, _, _, Try.underlying31, rfl, rfl, by decide, ty22, ⟨rfl, by decide, ty22, ⟨rfl, by decide, ty25, ⟨rfl, by decide, ty28, ⟨rfl, by decide, ty29, trivial⟩⟩⟩⟩⟩, h⟩
theorem ty33 : TyOk Try.prog shFold 33 := by
  have h : InfoOk Try.prog 33 shFold := info_of (by kernel_rfl) (by kernel_rfl)
  unfold shFold at h ⊢; unfold TyOk; exact ⟨⟨_, _, _, Try.underlying33, rfl, rfl, by decide, ty22, ⟨rfl, by decide, ty4, ⟨rfl, by decide, ty22, trivial⟩⟩⟩, h⟩
theorem ty37 : TyOk Try.prog shSheet 37 := by
  have h : InfoOk Try.prog 37 shSheet := info_of (by kernel_rfl) (by kernel_rfl)
  unfold shSheet at h ⊢; unfold TyOk; exact ⟨⟨_, _, _, Try.underlying37, rfl, rfl, by decide, ty22, ⟨rfl, by decide, ty22, ⟨rfl, by decide, ty25, ⟨rfl, by decide, ty28, ⟨rfl, by decide, ty29, trivial⟩⟩⟩⟩⟩, h⟩
theorem ty39 : TyOk Try.prog shFold 39 := by
  have h : InfoOk Try.prog 39 shFold := info_of (by kernel_rfl) (by kernel_rfl)
  unfold shFold at h ⊢; unfold TyOk; exact ⟨⟨_, _, _, Try.underlying39, rfl, rfl, by decide, ty22, ⟨rfl, by decide, ty4, ⟨rfl, by decide, ty22, trivial⟩⟩⟩, h⟩
theorem ty63 : TyOk Try.prog shSpot 63 := by
  have h : InfoOk Try.prog 63 shSpot := info_of (by kernel_rfl) (by kernel_rfl)
  unfold shSpot at h ⊢; unfold TyOk; exact ⟨⟨_, _, _, Try.underlying63, rfl, rfl, by decide, ty22, ⟨rfl, by decide, ty22, trivial⟩⟩, h⟩
theorem ty66 : TyOk Try.prog shSpot 66 := by
  have h : InfoOk Try.prog 66 shSpot := info_of (by kernel_rfl) (by kernel_rfl)
  unfold shSpot at h ⊢; unfold TyOk; exact ⟨⟨_, _, _, Try.underlying66, rfl, rfl, by decide, ty22, ⟨rfl, by decide, ty22, trivial⟩⟩, h⟩
theorem ty75 : TyOk Try.prog (.arr 8 (.arr 8 (.int .i16)) : Sh) 75 := by
  have h : InfoOk Try.prog 75 (.arr 8 (.arr 8 (.int .i16)) : Sh) := info_of (by kernel_rfl) (by kernel_rfl)
  unfold TyOk; exact ⟨⟨24, Try.underlying75, ty24⟩, h⟩
theorem ty90 : TyOk Try.prog (.arr 2 shSpot : Sh) 90 := by
  have h : InfoOk Try.prog 90 (.arr 2 shSpot : Sh) := info_of (by kernel_rfl) (by kernel_rfl)
  unfold TyOk; exact ⟨⟨66, Try.underlying90, ty66⟩, h⟩
theorem ty100 : TyOk Try.prog (.arr 3 (.int .i64) : Sh) 100 := by
  have h : InfoOk Try.prog 100 (.arr 3 (.int .i64) : Sh) := info_of (by kernel_rfl) (by kernel_rfl)
  unfold TyOk; exact ⟨⟨2, Try.underlying100, ty2⟩, h⟩
theorem ty143 : TyOk Try.prog (.int .u64 : Sh) 143 := by
  have h : InfoOk Try.prog 143 (.int .u64 : Sh) := info_of (by kernel_rfl) (by kernel_rfl)
  unfold TyOk; exact ⟨Try.underlying143, h⟩
theorem ty159 : TyOk Try.prog (.int .u32 : Sh) 159 := by
  have h : InfoOk Try.prog 159 (.int .u32 : Sh) := info_of (by kernel_rfl) (by kernel_rfl)
  unfold TyOk; exact ⟨Try.underlying159, h⟩
theorem ty160 : TyOk Try.prog (.int .u8 : Sh) 160 := by
  have h : InfoOk Try.prog 160 (.int .u8 : Sh) := info_of (by kernel_rfl) (by kernel_rfl)
  unfold TyOk; exact ⟨Try.underlying160, h⟩
theorem ty161 : TyOk Try.prog (.int .u8 : Sh) 161 := by
  have h : InfoOk Try.prog 161 (.int .u8 : Sh) := info_of (by kernel_rfl) (by kernel_rfl)
  unfold TyOk; exact ⟨Try.underlying161, h⟩
theorem ty164 : TyOk Try.prog (.int .i32 : Sh) 164 := by
  have h : InfoOk Try.prog 164 (.int .i32 : Sh) := info_of (by kernel_rfl) (by kernel_rfl)
  unfold TyOk; exact ⟨Try.underlying164, h⟩
theorem ty165 : TyOk Try.prog (.int .i32 : Sh) 165 := by
  have h : InfoOk Try.prog 165 (.int .i32 : Sh) := info_of (by kernel_rfl) (by kernel_rfl)
  unfold TyOk; exact ⟨Try.underlying165, h⟩
theorem rf1 : RefOk Try.prog 1 (.junk : AV) := ref_of (x := .nilFunc) rfl Try.underlying1 (by kernel_rfl) rfl (fun _ _ _ => trivial)
theorem rf15 : RefOk Try.prog 15 (.nilp : AV) := ref_of (x := .pointer none) rfl Try.underlying15 (by kernel_rfl) rfl (fun _ _ _ => rfl)
theorem rf16 : RefOk Try.prog 16 (.nilp : AV) := ref_of (x := .pointer none) rfl Try.underlying16 (by kernel_rfl) rfl (fun _ _ _ => rfl)
theorem rf17 : RefOk Try.prog 17 (.nilp : AV) := ref_of (x := .pointer none) rfl Try.underlying17 (by kernel_rfl) rfl (fun _ _ _ => rfl)
theorem rf34 : RefOk Try.prog 34 (.nils : AV) := ref_of (x := .slice none 0 0) rfl Try.underlying34 (by kernel_rfl) rfl (fun _ _ _ => rfl)
theorem rf36 : RefOk Try.prog 36 (.junk : AV) := ref_of (x := .nilFunc) rfl Try.underlying36 (by kernel_rfl) rfl (fun _ _ _ => trivial)
theorem rf38 : RefOk Try.prog 38 (.junk : AV) := ref_of (x := .nilFunc) rfl Try.underlying38 (by kernel_rfl) rfl (fun _ _ _ => trivial)
theorem rf40 : RefOk Try.prog 40 (.junk : AV) := ref_of (x := .nilFunc) rfl Try.underlying40 (by kernel_rfl) rfl (fun _ _ _ => trivial)
theorem rf41 : RefOk Try.prog 41 (.junk : AV) := ref_of (x := .nilFunc) rfl Try.underlying41 (by kernel_rfl) rfl (fun _ _ _ => trivial)
theorem rf42 : RefOk Try.prog 42 (.junk : AV) := ref_of (x := .nilFunc) rfl Try.underlying42 (by kernel_rfl) rfl (fun _ _ _ => trivial)
theorem rf43 : RefOk Try.prog 43 (.junk : AV) := ref_of (x := .nilFunc) rfl Try.underlying43 (by kernel_rfl) rfl (fun _ _ _ => trivial)
theorem rf44 : RefOk Try.prog 44 (.nils : AV) := ref_of (x := .slice none 0 0) rfl Try.underlying44 (by kernel_rfl) rfl (fun _ _ _ => rfl)
theorem rf46 : RefOk Try.prog 46 (.junk : AV) := ref_of (x := .nilFunc) rfl Try.underlying46 (by kernel_rfl) rfl (fun _ _ _ => trivial)
theorem rf47 : RefOk Try.prog 47 (.junk : AV) := ref_of (x := .nilFunc) rfl Try.underlying47 (by kernel_rfl) rfl (fun _ _ _ => trivial)
theorem rf48 : RefOk Try.prog 48 (.junk : AV) := ref_of (x := .nilFunc) rfl Try.underlying48 (by kernel_rfl) rfl (fun _ _ _ => trivial)
theorem rf49 : RefOk Try.prog 49 (.junk : AV) := ref_of (x := .nilFunc) rfl Try.underlying49 (by kernel_rfl) rfl (fun _ _ _ => trivial)
theorem rf50 : RefOk Try.prog 50 (.nils : AV) := ref_of (x := .slice none 0 0) rfl Try.underlying50 (by kernel_rfl) rfl (fun _ _ _ => rfl)
theorem rf52 : RefOk Try.prog 52 (.junk : AV) := ref_of (x := .nilFunc) rfl Try.underlying52 (by kernel_rfl) rfl (fun _ _ _ => trivial)
theorem rf53 : RefOk Try.prog 53 (.junk : AV) := ref_of (x := .nilFunc) rfl Try.underlying53 (by kernel_rfl) rfl (fun _ _ _ => trivial)
theorem rf54 : RefOk Try.prog 54 (.junk : AV) := ref_of (x := .nilFunc) rfl Try.underlying54 (by kernel_rfl) rfl (fun _ _ _ => trivial)
theorem rf55 : RefOk Try.prog 55 (.junk : AV) := ref_of (x := .nilFunc) rfl Try.underlying55 (by kernel_rfl) rfl (fun _ _ _ => trivial)
theorem rf56 : RefOk Try.prog 56 (.nils : AV) := ref_of (x := .slice none 0 0) rfl Try.underlying56 (by kernel_rfl) rfl (fun _ _ _ => rfl)
theorem rf58 : RefOk Try.prog 58 (.junk : AV) := ref_of (x := .nilFunc) rfl Try.underlying58 (by kernel_rfl) rfl (fun _ _ _ => trivial)
theorem rf59 : RefOk Try.prog 59 (.junk : AV) := ref_of (x := .nilFunc) rfl Try.underlying59 (by kernel_rfl) rfl (fun _ _ _ => trivial)
theorem rf60 : RefOk Try.prog 60 (.junk : AV) := ref_of (x := .nilFunc) rfl Try.underlying60 (by kernel_rfl) rfl (fun _ _ _ => trivial)
theorem rf61 : RefOk Try.prog 61 (.junk : AV) := ref_of (x := .nilFunc) rfl Try.underlying61 (by kernel_rfl) rfl (fun _ _ _ => trivial)
theorem rf65 : RefOk Try.prog 65 (.junk : AV) := ref_of (x := .nilFunc) rfl Try.underlying65 (by kernel_rfl) rfl (fun _ _ _ => trivial)
theorem rf67 : RefOk Try.prog 67 (.junk : AV) := ref_of (x := .nilFunc) rfl Try.underlying67 (by kernel_rfl) rfl (fun _ _ _ => trivial)
theorem rf68 : RefOk Try.prog 68 (.junk : AV) := ref_of (x := .nilFunc) rfl Try.underlying68 (by kernel_rfl) rfl (fun _ _ _ => trivial)
theorem rf69 : RefOk Try.prog 69 (.junk : AV) := ref_of (x := .nilFunc) rfl Try.underlying69 (by kernel_rfl) rfl (fun _ _ _ => trivial)
theorem rf71 : RefOk Try.prog 71 (.junk : AV) := ref_of (x := .nilFunc) rfl Try.underlying71 (by kernel_rfl) rfl (fun _ _ _ => trivial)
theorem rf72 : RefOk Try.prog 72 (.junk : AV) := ref_of (x := .nilFunc) rfl Try.underlying72 (by kernel_rfl) rfl (fun _ _ _ => trivial)
theorem rf74 : RefOk Try.prog 74 (.junk : AV) := ref_of (x := .nilFunc) rfl Try.underlying74 (by kernel_rfl) rfl (fun _ _ _ => trivial)
theorem rf77 : RefOk Try.prog 77 (.junk : AV) := ref_of (x := .nilFunc) rfl Try.underlying77 (by kernel_rfl) rfl (fun _ _ _ => trivial)
theorem rf78 : RefOk Try.prog 78 (.junk : AV) := ref_of (x := .nilFunc) rfl Try.underlying78 (by kernel_rfl) rfl (fun _ _ _ => trivial)
theorem rf80 : RefOk Try.prog 80 (.junk : AV) := ref_of (x := .nilFunc) rfl Try.underlying80 (by kernel_rfl) rfl (fun _ _ _ => trivial)
theorem rf81 : RefOk Try.prog 81 (.junk : AV) := ref_of (x := .nilFunc) rfl Try.underlying81 (by kernel_rfl) rfl (fun _ _ _ => trivial)
theorem rf82 : RefOk Try.prog 82 (.nilp : AV) := ref_of (x := .pointer none) rfl Try.underlying82 (by kernel_rfl) rfl (fun _ _ _ => rfl)
theorem rf83 : RefOk Try.prog 83 (.junk : AV) := ref_of (x := .nilFunc) rfl Try.underlying83 (by kernel_rfl) rfl (fun _ _ _ => trivial)
theorem rf84 : RefOk Try.prog 84 (.junk : AV) := ref_of (x := .nilFunc) rfl Try.underlying84 (by kernel_rfl) rfl (fun _ _ _ => trivial)
theorem rf85 : RefOk Try.prog 85 (.junk : AV) := ref_of (x := .nilFunc) rfl Try.underlying85 (by kernel_rfl) rfl (fun _ _ _ => trivial)
theorem rf86 : RefOk Try.prog 86 (.junk : AV) := ref_of (x := .nilFunc) rfl Try.underlying86 (by kernel_rfl) rfl (fun _ _ _ => trivial)
theorem rf87 : RefOk Try.prog 87 (.junk : AV) := ref_of (x := .nilFunc) rfl Try.underlying87 (by kernel_rfl) rfl (fun _ _ _ => trivial)
theorem rf88 : RefOk Try.prog 88 (.junk : AV) := ref_of (x := .nilFunc) rfl Try.underlying88 (by kernel_rfl) rfl (fun _ _ _ => trivial)
theorem rf89 : RefOk Try.prog 89 (.junk : AV) := ref_of (x := .nilFunc) rfl Try.underlying89 (by kernel_rfl) rfl (fun _ _ _ => trivial)
theorem rf91 : RefOk Try.prog 91 (.junk : AV) := ref_of (x := .nilFunc) rfl Try.underlying91 (by kernel_rfl) rfl (fun _ _ _ => trivial)
theorem rf92 : RefOk Try.prog 92 (.junk : AV) := ref_of (x := .nilFunc) rfl Try.underlying92 (by kernel_rfl) rfl (fun _ _ _ => trivial)
theorem rf93 : RefOk Try.prog 93 (.junk : AV) := ref_of (x := .nilFunc) rfl Try.underlying93 (by kernel_rfl) rfl (fun _ _ _ => trivial)
theorem rf94 : RefOk Try.prog 94 (.junk : AV) := ref_of (x := .nilFunc) rfl Try.underlying94 (by kernel_rfl) rfl (fun _ _ _ => trivial)
theorem rf95 : RefOk Try.prog 95 (.junk : AV) := ref_of (x := .nilFunc) rfl Try.underlying95 (by kernel_rfl) rfl (fun _ _ _ => trivial)
theorem rf96 : RefOk Try.prog 96 (.junk : AV) := ref_of (x := .nilFunc) rfl Try.underlying96 (by kernel_rfl) rfl (fun _ _ _ => trivial)
theorem rf97 : RefOk Try.prog 97 (.junk : AV) := ref_of (x := .nilFunc) rfl Try.underlying97 (by kernel_rfl) rfl (fun _ _ _ => trivial)
theorem rf98 : RefOk Try.prog 98 (.junk : AV) := ref_of (x := .nilFunc) rfl Try.underlying98 (by kernel_rfl) rfl (fun _ _ _ => trivial)
theorem rf99 : RefOk Try.prog 99 (.junk : AV) := ref_of (x := .nilFunc) rfl Try.underlying99 (by kernel_rfl) rfl (fun _ _ _ => trivial)
theorem rf101 : RefOk Try.prog 101 (.junk : AV) := ref_of (x := .nilFunc) rfl Try.underlying101 (by kernel_rfl) rfl (fun _ _ _ => trivial)
theorem rf102 : RefOk Try.prog 102 (.junk : AV) := ref_of (x := .nilFunc) rfl Try.underlying102 (by kernel_rfl) rfl (fun _ _ _ => trivial)
theorem rf103 : RefOk Try.prog 103 (.junk : AV) := ref_of (x := .nilFunc) rfl Try.underlying103 (by kernel_rfl) rfl (fun _ _ _ => trivial)
theorem rf104 : RefOk Try.prog 104 (.junk : AV) := ref_of (x := .nilFunc) rfl Try.underlying104 (by kernel_rfl) rfl (fun _ _ _ => trivial)
theorem rf105 : RefOk Try.prog 105 (.junk : AV) := ref_of (x := .nilFunc) rfl Try.underlying105 (by kernel_rfl) rfl (fun _ _ _ => trivial)
theorem rf106 : RefOk Try.prog 106 (.junk : AV) := ref_of (x := .nilFunc) rfl Try.underlying106 (by kernel_rfl) rfl (fun _ _ _ => trivial)
theorem rf107 : RefOk Try.prog 107 (.junk : AV) := ref_of (x := .nilFunc) rfl Try.underlying107 (by kernel_rfl) rfl (fun _ _ _ => trivial)
theorem rf108 : RefOk Try.prog 108 (.junk : AV) := ref_of (x := .nilFunc) rfl Try.underlying108 (by kernel_rfl) rfl (fun _ _ _ => trivial)
theorem rf109 : RefOk Try.prog 109 (.junk : AV) := ref_of (x := .nilFunc) rfl Try.underlying109 (by kernel_rfl) rfl (fun _ _ _ => trivial)
theorem rf110 : RefOk Try.prog 110 (.junk : AV) := ref_of (x := .nilFunc) rfl Try.underlying110 (by kernel_rfl) rfl (fun _ _ _ => trivial)
theorem rf111 : RefOk Try.prog 111 (.junk : AV) := ref_of (x := .nilFunc) rfl Try.underlying111 (by kernel_rfl) rfl (fun _ _ _ => trivial)
theorem rf112 : RefOk Try.prog 112 (.junk : AV) := ref_of (x := .nilFunc) rfl Try.underlying112 (by kernel_rfl) rfl (fun _ _ _ => trivial)
theorem rf113 : RefOk Try.prog 113 (.junk : AV) := ref_of (x := .nilFunc) rfl Try.underlying113 (by kernel_rfl) rfl (fun _ _ _ => trivial)
theorem rf114 : RefOk Try.prog 114 (.junk : AV) := ref_of (x := .nilFunc) rfl Try.underlying114 (by kernel_rfl) rfl (fun _ _ _ => trivial)
theorem rf115 : RefOk Try.prog 115 (.junk : AV) := ref_of (x := .nilFunc) rfl Try.underlying115 (by kernel_rfl) rfl (fun _ _ _ => trivial)
theorem rf116 : RefOk Try.prog 116 (.junk : AV) := ref_of (x := .nilFunc) rfl Try.underlying116 (by kernel_rfl) rfl (fun _ _ _ => trivial)
theorem rf117 : RefOk Try.prog 117 (.junk : AV) := ref_of (x := .nilFunc) rfl Try.underlying117 (by kernel_rfl) rfl (fun _ _ _ => trivial)
theorem rf118 : RefOk Try.prog 118 (.junk : AV) := ref_of (x := .nilFunc) rfl Try.underlying118 (by kernel_rfl) rfl (fun _ _ _ => trivial)
theorem rf119 : RefOk Try.prog 119 (.junk : AV) := ref_of (x := .nilFunc) rfl Try.underlying119 (by kernel_rfl) rfl (fun _ _ _ => trivial)
theorem rf120 : RefOk Try.prog 120 (.junk : AV) := ref_of (x := .nilFunc) rfl Try.underlying120 (by kernel_rfl) rfl (fun _ _ _ => trivial)
theorem rf121 : RefOk Try.prog 121 (.junk : AV) := ref_of (x := .nilFunc) rfl Try.underlying121 (by kernel_rfl) rfl (fun _ _ _ => trivial)
theorem rf122 : RefOk Try.prog 122 (.junk : AV) := ref_of (x := .nilFunc) rfl Try.underlying122 (by kernel_rfl) rfl (fun _ _ _ => trivial)
theorem rf123 : RefOk Try.prog 123 (.junk : AV) := ref_of (x := .nilFunc) rfl Try.underlying123 (by kernel_rfl) rfl (fun _ _ _ => trivial)
theorem rf124 : RefOk Try.prog 124 (.junk : AV) := ref_of (x := .nilFunc) rfl Try.underlying124 (by kernel_rfl) rfl (fun _ _ _ => trivial)
theorem rf125 : RefOk Try.prog 125 (.junk : AV) := ref_of (x := .nilFunc) rfl Try.underlying125 (by kernel_rfl) rfl (fun _ _ _ => trivial)
theorem rf126 : RefOk Try.prog 126 (.junk : AV) := ref_of (x := .nilFunc) rfl Try.underlying126 (by kernel_rfl) rfl (fun _ _ _ => trivial)
theorem rf127 : RefOk Try.prog 127 (.junk : AV) := ref_of (x := .nilFunc) rfl Try.underlying127 (by kernel_rfl) rfl (fun _ _ _ => trivial)
theorem rf128 : RefOk Try.prog 128 (.junk : AV) := ref_of (x := .nilFunc) rfl Try.underlying128 (by kernel_rfl) rfl (fun _ _ _ => trivial)
theorem rf129 : RefOk Try.prog 129 (.junk : AV) := ref_of (x := .nilFunc) rfl Try.underlying129 (by kernel_rfl) rfl (fun _ _ _ => trivial)
theorem rf130 : RefOk Try.prog 130 (.junk : AV) := ref_of (x := .nilFunc) rfl Try.underlying130 (by kernel_rfl) rfl (fun _ _ _ => trivial)
theorem rf131 : RefOk Try.prog 131 (.junk : AV) := ref_of (x := .nilFunc) rfl Try.underlying131 (by kernel_rfl) rfl (fun _ _ _ => trivial)
theorem rf132 : RefOk Try.prog 132 (.junk : AV) := ref_of (x := .nilFunc) rfl Try.underlying132 (by kernel_rfl) rfl (fun _ _ _ => trivial)
theorem rf133 : RefOk Try.prog 133 (.junk : AV) := ref_of (x := .nilFunc) rfl Try.underlying133 (by kernel_rfl) rfl (fun _ _ _ => trivial)
theorem rf134 : RefOk Try.prog 134 (.junk : AV) := ref_of (x := .nilFunc) rfl Try.underlying134 (by kernel_rfl) rfl (fun _ _ _ => trivial)
theorem rf135 : RefOk Try.prog 135 (.junk : AV) := ref_of (x := .nilFunc) rfl Try.underlying135 (by kernel_rfl) rfl (fun _ _ _ => trivial)
theorem rf136 : RefOk Try.prog 136 (.nilp : AV) := ref_of (x := .pointer none) rfl Try.underlying136 (by kernel_rfl) rfl (fun _ _ _ => rfl)
theorem rf137 : RefOk Try.prog 137 (.junk : AV) := ref_of (x := .nilFunc) rfl Try.underlying137 (by kernel_rfl) rfl (fun _ _ _ => trivial)
theorem rf138 : RefOk Try.prog 138 (.junk : AV) := ref_of (x := .nilFunc) rfl Try.underlying138 (by kernel_rfl) rfl (fun _ _ _ => trivial)
theorem rf139 : RefOk Try.prog 139 (.junk : AV) := ref_of (x := .nilFunc) rfl Try.underlying139 (by kernel_rfl) rfl (fun _ _ _ => trivial)
theorem rf140 : RefOk Try.prog 140 (.junk : AV) := ref_of (x := .nilFunc) rfl Try.underlying140 (by kernel_rfl) rfl (fun _ _ _ => trivial)
theorem rf141 : RefOk Try.prog 141 (.junk : AV) := ref_of (x := .nilFunc) rfl Try.underlying141 (by kernel_rfl) rfl (fun _ _ _ => trivial)
theorem rf142 : RefOk Try.prog 142 (.junk : AV) := ref_of (x := .nilFunc) rfl Try.underlying142 (by kernel_rfl) rfl (fun _ _ _ => trivial)
theorem rf144 : RefOk Try.prog 144 (.junk : AV) := ref_of (x := .nilFunc) rfl Try.underlying144 (by kernel_rfl) rfl (fun _ _ _ => trivial)
theorem rf145 : RefOk Try.prog 145 (.junk : AV) := ref_of (x := .nilFunc) rfl Try.underlying145 (by kernel_rfl) rfl (fun _ _ _ => trivial)
theorem rf146 : RefOk Try.prog 146 (.junk : AV) := ref_of (x := .nilFunc) rfl Try.underlying146 (by kernel_rfl) rfl (fun _ _ _ => trivial)
theorem rf147 : RefOk Try.prog 147 (.junk : AV) := ref_of (x := .nilFunc) rfl Try.underlying147 (by kernel_rfl) rfl (fun _ _ _ => trivial)
theorem rf148 : RefOk Try.prog 148 (.junk : AV) := ref_of (x := .nilFunc) rfl Try.underlying148 (by kernel_rfl) rfl (fun _ _ _ => trivial)
theorem rf149 : RefOk Try.prog 149 (.junk : AV) := ref_of (x := .nilFunc) rfl Try.underlying149 (by kernel_rfl) rfl (fun _ _ _ => trivial)
theorem rf150 : RefOk Try.prog 150 (.nils : AV) := ref_of (x := .slice none 0 0) rfl Try.underlying150 (by kernel_rfl) rfl (fun _ _ _ => rfl)
theorem rf151 : RefOk Try.prog 151 (.junk : AV) := ref_of (x := .nilFunc) rfl Try.underlying151 (by kernel_rfl) rfl (fun _ _ _ => trivial)
theorem rf152 : RefOk Try.prog 152 (.junk : AV) := ref_of (x := .nilFunc) rfl Try.underlying152 (by kernel_rfl) rfl (fun _ _ _ => trivial)
theorem rf158 : RefOk Try.prog 158 (.junk : AV) := ref_of (x := .nilFunc) rfl Try.underlying158 (by kernel_rfl) rfl (fun _ _ _ => trivial)
theorem rf162 : RefOk Try.prog 162 (.junk : AV) := ref_of (x := .nilFunc) rfl Try.underlying162 (by kernel_rfl) rfl (fun _ _ _ => trivial)
theorem rf163 : RefOk Try.prog 163 (.nilp : AV) := ref_of (x := .pointer none) rfl Try.underlying163 (by kernel_rfl) rfl (fun _ _ _ => rfl)
theorem rf168 : RefOk Try.prog 168 (.junk : AV) := ref_of (x := .nilFunc) rfl Try.underlying168 (by kernel_rfl) rfl (fun _ _ _ => trivial)
def tyL : List (Nat × Sh) := [(2, .int .i64), (3, .int .i64), (4, .bool), (5, .int .u8), (6, .int .u8), (9, .str), (10, .str), (11, .str), (12, .int .u64), (21, .int .i32), (22, .int .i8), (23, .int .i16), (24, .arr 8 (.int .i16)), (25, .arr 8 (.arr 8 (.int .i16))), (26, .arr 3 (.int .i16)), (27, .arr 8 (.arr 3 (.int .i16))), (28, .arr 8 (.arr 8 (.arr 3 (.int .i16)))), (29, .arr 8 (.int .u8)), (31, shSheet), (33, shFold), (37, shSheet), (39, shFold), (63, shSpot), (66, shSpot), (75, .arr 8 (.arr 8 (.int .i16))), (90, .arr 2 shSpot), (100, .arr 3 (.int .i64)), (143, .int .u64), (159, .int .u32), (160, .int .u8), (161, .int .u8), (164, .int .i32), (165, .int .i32)]
def slL : List (Nat × Sh) := [(34, .arr 2 shSpot), (44, shFold), (50, .arr 3 (.int .i64)), (56, shSpot), (150, .int .i64)]
def rfL : List (Nat × AV) := [(1, .junk), (15, .nilp), (16, .nilp), (17, .nilp), (34, .nils), (36, .junk), (38, .junk), (40, .junk), (41, .junk), (42, .junk), (43, .junk), (44, .nils), (46, .junk), (47, .junk), (48, .junk), (49, .junk), (50, .nils), (52, .junk), (53, .junk), (54, .junk), (55, .junk), (56, .nils), (58, .junk), (59, .junk), (60, .junk), (61, .junk), (65, .junk), (67, .junk), (68, .junk), (69, .junk), (71, .junk), (72, .junk), (74, .junk), (77, .junk), (78, .junk), (80, .junk), (81, .junk), (82, .nilp), (83, .junk), (84, .junk), (85, .junk), (86, .junk), (87, .junk), (88, .junk), (89, .junk), (91, .junk), (92, .junk), (93, .junk), (94, .junk), (95, .junk), (96, .junk), (97, .junk), (98, .junk), (99, .junk), (101, .junk), (102, .junk), (103, .junk), (104, .junk), (105, .junk), (106, .junk), (107, .junk), (108, .junk), (109, .junk), (110, .junk), (111, .junk), (112, .junk), (113, .junk), (114, .junk), (115, .junk), (116, .junk), (117, .junk), (118, .junk), (119, .junk), (120, .junk), (121, .junk), (122, .junk), (123, .junk), (124, .junk), (125, .junk), (126, .junk), (127, .junk), (128, .junk), (129, .junk), (130, .junk), (131, .junk), (132, .junk), (133, .junk), (134, .junk), (135, .junk), (136, .nilp), (137, .junk), (138, .junk), (139, .junk), (140, .junk), (141, .junk), (142, .junk), (144, .junk), (145, .junk), (146, .junk), (147, .junk), (148, .junk), (149, .junk), (150, .nils), (151, .junk), (152, .junk), (158, .junk), (162, .junk), (163, .nilp), (168, .junk)]
def eqL : List Nat := [24, 26, 29, 63, 66, 100]
def quL : List Nat := [16, 17, 37, 38, 39, 40, 41, 42, 43, 44, 45, 46, 47, 48, 50, 51, 52, 53, 54, 55, 56, 58, 59, 60, 61, 64, 66, 68, 69, 70, 72, 73, 75, 76, 78, 81, 82, 83, 85, 87, 88, 91, 93, 94, 95, 97, 98, 103, 106, 108, 109, 110, 111, 112, 113, 115, 116, 117, 118, 119, 121, 124, 125, 127, 131, 132, 133, 134, 135, 137, 138, 139]
def altL : List ((Nat × Nat × Nat) × OT) := [((4, 22, 15), (.split 4 5 .txt (.perm [0, 1, 2, 3, 5, 4, 6, 7, 8, 9, 10, 11, 12, 13, 14])))]
def apL : List ((Nat × Nat) × List (Nat × Nat)) := []
noncomputable def Cx : Ctx := { P := Try.prog, ty := fun t => tyL.lookup t, sl := fun t => slL.lookup t, rf := fun t => rfL.lookup t, eq := fun t => eqL.elem t, quiet := fun t => quL.elem t, ap := fun i d => (apL.lookup (i, d.getD 0)).getD [], alt := fun i d m => (altL.lookup (i, d.getD 0, m)).getD .txt }
theorem lookup_mem {α : Type} {t : Nat} {x : α} : ∀ {l : List (Nat × α)}, l.lookup t = some x → (t, x) ∈ l
  | [], h => by simp at h
  | (s, y) :: l, h => by
    rw [List.lookup_cons] at h
    split at h
    · rename_i e
      have := eq_of_beq e
      cases h
      subst this
      simp
    · exact List.mem_cons_of_mem _ (lookup_mem h)
theorem zk5 : Cx.quiet 0 = false := rfl
theorem zk6 : Cx.quiet 1 = false := rfl
theorem zlh : Cx.quiet 2 = false := rfl
theorem zls : Cx.quiet 3 = false := rfl
theorem zm0 : Cx.quiet 4 = false := rfl
theorem zma : Cx.quiet 5 = false := rfl
theorem zmj : Cx.quiet 6 = false := rfl
theorem zmr : Cx.quiet 7 = false := rfl
theorem zn0 : Cx.quiet 8 = false := rfl
theorem zn4 : Cx.quiet 9 = false := rfl
theorem zk7 : Cx.quiet 10 = false := rfl
theorem zkg : Cx.quiet 11 = false := rfl
theorem zkm : Cx.quiet 12 = false := rfl
theorem zkq : Cx.quiet 13 = false := rfl
theorem zkv : Cx.quiet 14 = false := rfl
theorem zl6 : Cx.quiet 15 = false := rfl
theorem ze2 : Cx.quiet 16 = true := rfl
theorem zle : Cx.quiet 17 = true := rfl
theorem zlf : Cx.quiet 18 = false := rfl
theorem zlg : Cx.quiet 19 = false := rfl
theorem zli : Cx.quiet 20 = false := rfl
theorem zlj : Cx.quiet 21 = false := rfl
theorem zlk : Cx.quiet 22 = false := rfl
theorem zll : Cx.quiet 23 = false := rfl
theorem zlm : Cx.quiet 24 = false := rfl
theorem zln : Cx.quiet 25 = false := rfl
theorem zlo : Cx.quiet 26 = false := rfl
theorem zlp : Cx.quiet 27 = false := rfl
theorem zlq : Cx.quiet 28 = false := rfl
theorem zlr : Cx.quiet 29 = false := rfl
theorem zlt : Cx.quiet 30 = false := rfl
theorem zlu : Cx.quiet 31 = false := rfl
theorem zlv : Cx.quiet 32 = false := rfl
theorem zlw : Cx.quiet 33 = false := rfl
theorem zlx : Cx.quiet 34 = false := rfl
theorem zly : Cx.quiet 35 = false := rfl
theorem zlz : Cx.quiet 36 = false := rfl
theorem ze3 : Cx.quiet 37 = true := rfl
theorem ze4 : Cx.quiet 38 = true := rfl
theorem ze5 : Cx.quiet 39 = true := rfl
theorem ze6 : Cx.quiet 40 = true := rfl
theorem zm1 : Cx.quiet 41 = true := rfl
theorem zm2 : Cx.quiet 42 = true := rfl
theorem zm3 : Cx.quiet 43 = true := rfl
theorem zm4 : Cx.quiet 44 = true := rfl
theorem zm5 : Cx.quiet 45 = true := rfl
theorem zm6 : Cx.quiet 46 = true := rfl
theorem zm7 : Cx.quiet 47 = true := rfl
theorem zm8 : Cx.quiet 48 = true := rfl
theorem zm9 : Cx.quiet 49 = false := rfl
theorem zmb : Cx.quiet 50 = true := rfl
theorem zmc : Cx.quiet 51 = true := rfl
theorem zmd : Cx.quiet 52 = true := rfl
theorem zme : Cx.quiet 53 = true := rfl
theorem zmf : Cx.quiet 54 = true := rfl
theorem zmg : Cx.quiet 55 = true := rfl
theorem zmh : Cx.quiet 56 = true := rfl
theorem zmi : Cx.quiet 57 = false := rfl
theorem zg9 : Cx.quiet 58 = true := rfl
theorem zga : Cx.quiet 59 = true := rfl
theorem zgb : Cx.quiet 60 = true := rfl
theorem zmk : Cx.quiet 61 = true := rfl
theorem zml : Cx.quiet 62 = false := rfl
theorem zmm : Cx.quiet 63 = false := rfl
theorem zhh : Cx.quiet 64 = true := rfl
theorem zmn : Cx.quiet 65 = false := rfl
theorem z9m : Cx.quiet 66 = true := rfl
theorem zmo : Cx.quiet 67 = false := rfl
theorem zmp : Cx.quiet 68 = true := rfl
theorem zmq : Cx.quiet 69 = true := rfl
theorem zd1 : Cx.quiet 70 = true := rfl
theorem zms : Cx.quiet 71 = false := rfl
theorem zmt : Cx.quiet 72 = true := rfl
theorem zcu : Cx.quiet 73 = true := rfl
theorem zmu : Cx.quiet 74 = false := rfl
theorem zmv : Cx.quiet 75 = true := rfl
theorem zmw : Cx.quiet 76 = true := rfl
theorem zmx : Cx.quiet 77 = false := rfl
theorem zmy : Cx.quiet 78 = true := rfl
theorem zmz : Cx.quiet 79 = false := rfl
theorem zn1 : Cx.quiet 80 = false := rfl
theorem zn2 : Cx.quiet 81 = true := rfl
theorem zn3 : Cx.quiet 82 = true := rfl
theorem zc4 : Cx.quiet 83 = true := rfl
theorem zc5 : Cx.quiet 84 = false := rfl
theorem zbh : Cx.quiet 85 = true := rfl
theorem zc6 : Cx.quiet 86 = false := rfl
theorem z8m : Cx.quiet 87 = true := rfl
theorem z8n : Cx.quiet 88 = true := rfl
theorem z9n : Cx.quiet 89 = false := rfl
theorem z9o : Cx.quiet 90 = false := rfl
theorem z8o : Cx.quiet 91 = true := rfl
theorem z9p : Cx.quiet 92 = false := rfl
theorem zgc : Cx.quiet 93 = true := rfl
theorem zgd : Cx.quiet 94 = true := rfl
theorem zge : Cx.quiet 95 = true := rfl
theorem zn5 : Cx.quiet 96 = false := rfl
theorem zn6 : Cx.quiet 97 = true := rfl
theorem zn7 : Cx.quiet 98 = true := rfl
theorem zn8 : Cx.quiet 99 = false := rfl
theorem zk8 : Cx.quiet 100 = false := rfl
theorem zk9 : Cx.quiet 101 = false := rfl
theorem zka : Cx.quiet 102 = false := rfl
theorem zh7 : Cx.quiet 103 = true := rfl
theorem zkb : Cx.quiet 104 = false := rfl
theorem zkc : Cx.quiet 105 = false := rfl
theorem zkd : Cx.quiet 106 = true := rfl
theorem zke : Cx.quiet 107 = false := rfl
theorem zkf : Cx.quiet 108 = true := rfl
theorem zcx : Cx.quiet 109 = true := rfl
theorem zd0 : Cx.quiet 110 = true := rfl
theorem zh8 : Cx.quiet 111 = true := rfl
theorem zh9 : Cx.quiet 112 = true := rfl
theorem zkh : Cx.quiet 113 = true := rfl
theorem zki : Cx.quiet 114 = false := rfl
theorem zkj : Cx.quiet 115 = true := rfl
theorem zkk : Cx.quiet 116 = true := rfl
theorem zeb : Cx.quiet 117 = true := rfl
theorem zha : Cx.quiet 118 = true := rfl
theorem zkl : Cx.quiet 119 = true := rfl
theorem zkn : Cx.quiet 120 = false := rfl
theorem zko : Cx.quiet 121 = true := rfl
theorem zhb : Cx.quiet 122 = false := rfl
theorem zkp : Cx.quiet 123 = false := rfl
theorem zct : Cx.quiet 124 = true := rfl
theorem zdh : Cx.quiet 125 = true := rfl
theorem zes : Cx.quiet 126 = false := rfl
theorem zfr : Cx.quiet 127 = true := rfl
theorem zi1 : Cx.quiet 128 = false := rfl
theorem zhc : Cx.quiet 129 = false := rfl
theorem zhd : Cx.quiet 130 = false := rfl
theorem zhe : Cx.quiet 131 = true := rfl
theorem zkr : Cx.quiet 132 = true := rfl
theorem zhf : Cx.quiet 133 = true := rfl
theorem zks : Cx.quiet 134 = true := rfl
theorem zkt : Cx.quiet 135 = true := rfl
theorem zeh : Cx.quiet 136 = false := rfl
theorem zf4 : Cx.quiet 137 = true := rfl
theorem zhg : Cx.quiet 138 = true := rfl
theorem zku : Cx.quiet 139 = true := rfl
theorem zkw : Cx.quiet 140 = false := rfl
theorem zkx : Cx.quiet 141 = false := rfl
theorem zky : Cx.quiet 142 = false := rfl
theorem zkz : Cx.quiet 143 = false := rfl
theorem zl0 : Cx.quiet 144 = false := rfl
theorem zl1 : Cx.quiet 145 = false := rfl
theorem zl2 : Cx.quiet 146 = false := rfl
theorem zl3 : Cx.quiet 147 = false := rfl
theorem zl4 : Cx.quiet 148 = false := rfl
theorem zl5 : Cx.quiet 149 = false := rfl
theorem zl7 : Cx.quiet 150 = false := rfl
theorem zl8 : Cx.quiet 151 = false := rfl
theorem zl9 : Cx.quiet 152 = false := rfl
theorem zla : Cx.quiet 153 = false := rfl
theorem zlb : Cx.quiet 154 = false := rfl
theorem zlc : Cx.quiet 155 = false := rfl
theorem zld : Cx.quiet 156 = false := rfl
theorem ze9 : Cx.ap 1 (some 5) = [] := rfl
theorem zjs : Cx.ap 1 (some 6) = [] := rfl
theorem zf0 : Cx.ap 1 (some 9) = [] := rfl
theorem zgt : Cx.ap 1 (some 11) = [] := rfl
theorem zdz : Cx.ap 1 (some 12) = [] := rfl
theorem zjr : Cx.ap 1 (some 14) = [] := rfl
theorem ze0 : Cx.ap 2 (some 22) = [] := rfl
theorem zd4 : Cx.ap 4 (some 10) = [] := rfl
theorem zg4 : Cx.ap 4 (some 11) = [] := rfl
theorem z9l : Cx.ap 4 (some 22) = [] := rfl
theorem zfe : Cx.ap 5 (some 16) = [] := rfl
theorem zgu : Cx.ap 5 (some 24) = [] := rfl
theorem zjv : Cx.ap 6 (some 17) = [] := rfl
theorem zff : Cx.ap 6 (some 31) = [] := rfl
theorem zgv : Cx.ap 6 (some 46) = [] := rfl
theorem zeq : Cx.ap 7 (some 22) = [] := rfl
theorem zfg : Cx.ap 7 (some 47) = [] := rfl
theorem zjw : Cx.ap 8 (some 22) = [] := rfl
theorem zf1 : Cx.ap 8 (some 28) = [] := rfl
theorem zfh : Cx.ap 8 (some 67) = [] := rfl
theorem zjx : Cx.ap 9 (some 26) = [] := rfl
theorem zfi : Cx.ap 9 (some 87) = [] := rfl
theorem zjj : Cx.ap 10 (some 28) = [] := rfl
theorem zgr : Cx.ap 10 (some 69) = [] := rfl
theorem zfd : Cx.ap 10 (some 102) = [] := rfl
theorem zjk : Cx.ap 11 (some 32) = [] := rfl
theorem zjl : Cx.ap 11 (some 45) = [] := rfl
theorem zgs : Cx.ap 11 (some 84) = [] := rfl
theorem zjm : Cx.ap 12 (some 44) = [] := rfl
theorem zjn : Cx.ap 13 (some 50) = [] := rfl
theorem zjo : Cx.ap 14 (some 41) = [] := rfl
theorem zjp : Cx.ap 15 (some 34) = [] := rfl
theorem zjq : Cx.ap 17 (some 55) = [] := rfl
theorem zjt : Cx.ap 20 (some 61) = [] := rfl
theorem zju : Cx.ap 26 (some 61) = [] := rfl
theorem zjb : Cx.alt 1 (some 5) 5 = .txt := rfl
theorem zif : Cx.alt 1 (some 5) 11 = .txt := rfl
theorem zhw : Cx.alt 1 (some 5) 12 = .txt := rfl
theorem zig : Cx.alt 1 (some 5) 13 = .txt := rfl
theorem zih : Cx.alt 1 (some 5) 14 = .txt := rfl
theorem zgo : Cx.alt 1 (some 5) 23 = .txt := rfl
theorem zii : Cx.alt 1 (some 5) 27 = .txt := rfl
theorem zjc : Cx.alt 1 (some 6) 12 = .txt := rfl
theorem zex : Cx.alt 1 (some 9) 12 = .txt := rfl
theorem zgn : Cx.alt 1 (some 11) 11 = .txt := rfl
theorem zdx : Cx.alt 1 (some 12) 13 = .txt := rfl
theorem zja : Cx.alt 1 (some 14) 10 = .txt := rfl
theorem zjf : Cx.alt 2 (some 22) 10 = .txt := rfl
theorem zdy : Cx.alt 2 (some 22) 13 = .txt := rfl
theorem zey : Cx.alt 4 (some 10) 7 = .txt := rfl
theorem ze8 : Cx.alt 4 (some 10) 8 = .txt := rfl
theorem zg3 : Cx.alt 4 (some 11) 6 = .txt := rfl
theorem z9k : Cx.alt 4 (some 22) 15 = (.split 4 5 .txt (.perm [0, 1, 2, 3, 5, 4, 6, 7, 8, 9, 10, 11, 12, 13, 14])) := rfl
theorem zf8 : Cx.alt 5 (some 16) 16 = .txt := rfl
theorem zgp : Cx.alt 5 (some 24) 24 = .txt := rfl
theorem zjg : Cx.alt 6 (some 17) 10 = .txt := rfl
theorem zf9 : Cx.alt 6 (some 31) 17 = .txt := rfl
theorem zgq : Cx.alt 6 (some 46) 11 = .txt := rfl
theorem zep : Cx.alt 7 (some 22) 6 = .txt := rfl
theorem zfa : Cx.alt 7 (some 47) 21 = .txt := rfl
theorem zjh : Cx.alt 8 (some 22) 12 = .txt := rfl
theorem zez : Cx.alt 8 (some 28) 14 = .txt := rfl
theorem zfb : Cx.alt 8 (some 67) 21 = .txt := rfl
theorem zji : Cx.alt 9 (some 26) 8 = .txt := rfl
theorem zfc : Cx.alt 9 (some 87) 16 = .txt := rfl
theorem zj2 : Cx.alt 10 (some 28) 18 = .txt := rfl
theorem zgl : Cx.alt 10 (some 69) 16 = .txt := rfl
theorem zf7 : Cx.alt 10 (some 102) 16 = .txt := rfl
theorem zj3 : Cx.alt 11 (some 32) 12 = .txt := rfl
theorem zj4 : Cx.alt 11 (some 45) 21 = .txt := rfl
theorem zgm : Cx.alt 11 (some 84) 16 = .txt := rfl
theorem zj5 : Cx.alt 12 (some 44) 9 = .txt := rfl
theorem zj6 : Cx.alt 13 (some 50) 10 = .txt := rfl
theorem zj7 : Cx.alt 14 (some 41) 18 = .txt := rfl
theorem zj8 : Cx.alt 15 (some 34) 7 = .txt := rfl
theorem zj9 : Cx.alt 17 (some 55) 21 = .txt := rfl
theorem zjd : Cx.alt 20 (some 61) 16 = .txt := rfl
theorem zje : Cx.alt 26 (some 61) 8 = .txt := rfl
theorem ty_all : ∀ x ∈ tyL, TyOk Try.prog x.2 x.1 := by
  unfold tyL
  simp only [List.forall_mem_cons]
  exact ⟨ty2, ty3, ty4, ty5, ty6, ty9, ty10, ty11, ty12, ty21, ty22, ty23, ty24, ty25, ty26, ty27, ty28, ty29, ty31, ty33, ty37, ty39, ty63, ty66, ty75, ty90, ty100, ty143, ty159, ty160, ty161, ty164, ty165, fun _ h => by simp at h⟩
theorem sl_all : ∀ x ∈ slL, ∃ et, Try.prog.underlying x.1 = some (.slice et) ∧ TyOk Try.prog x.2 et ∧ x.2.size ≠ 0 := by
  unfold slL
  simp only [List.forall_mem_cons]
  exact ⟨⟨90, Try.underlying34, ty90, by decide⟩, ⟨39, Try.underlying44, ty39, by decide⟩, ⟨100, Try.underlying50, ty100, by decide⟩, ⟨66, Try.underlying56, ty66, by decide⟩, ⟨3, Try.underlying150, ty3, by decide⟩, fun _ h => by simp at h⟩
theorem rf_all : ∀ x ∈ rfL, RefOk Try.prog x.1 x.2 := by
  unfold rfL
  simp only [List.forall_mem_cons]
  exact ⟨rf1, rf15, rf16, rf17, rf34, rf36, rf38, rf40, rf41, rf42, rf43, rf44, rf46, rf47, rf48, rf49, rf50, rf52, rf53, rf54, rf55, rf56, rf58, rf59, rf60, rf61, rf65, rf67, rf68, rf69, rf71, rf72, rf74, rf77, rf78, rf80, rf81, rf82, rf83, rf84, rf85, rf86, rf87, rf88, rf89, rf91, rf92, rf93, rf94, rf95, rf96, rf97, rf98, rf99, rf101, rf102, rf103, rf104, rf105, rf106, rf107, rf108, rf109, rf110, rf111, rf112, rf113, rf114, rf115, rf116, rf117, rf118, rf119, rf120, rf121, rf122, rf123, rf124, rf125, rf126, rf127, rf128, rf129, rf130, rf131, rf132, rf133, rf134, rf135, rf136, rf137, rf138, rf139, rf140, rf141, rf142, rf144, rf145, rf146, rf147, rf148, rf149, rf150, rf151, rf152, rf158, rf162, rf163, rf168, fun _ h => by simp at h⟩
theorem eq_all : ∀ t ∈ eqL, Try.prog.eqGuardType Try.prog.depth t = false ∧ Try.prog.stoodInHeld t = false ∧ (∀ fs, Try.prog.underlying t = some (.struct fs) → ∀ f ∈ fs.toList, f.name ≠ "_") := by
  unfold eqL
  simp only [List.forall_mem_cons]
  exact ⟨⟨by kernel_rfl, by kernel_rfl, fun fs h => by rw [Try.underlying24] at h; cases h⟩, ⟨by kernel_rfl, by kernel_rfl, fun fs h => by rw [Try.underlying26] at h; cases h⟩, ⟨by kernel_rfl, by kernel_rfl, fun fs h => by rw [Try.underlying29] at h; cases h⟩, ⟨by kernel_rfl, by kernel_rfl, fun fs h => by rw [Try.underlying63] at h; cases h; decide⟩, ⟨by kernel_rfl, by kernel_rfl, fun fs h => by rw [Try.underlying66] at h; cases h; decide⟩, ⟨by kernel_rfl, by kernel_rfl, fun fs h => by rw [Try.underlying100] at h; cases h⟩, fun _ h => by simp at h⟩
theorem mixed : Try.prog.follows .mixedOrders = true := by kernel_rfl
theorem Cx_ok : Cx.Ok where
  mixed := mixed
  ty := fun t τ h => ty_all _ (lookup_mem h)
  sl := fun t e h => sl_all _ (lookup_mem h)
  rf := fun t z h => rf_all _ (lookup_mem h)
  eq := fun t h => eq_all t (by simpa [Cx] using h)
theorem z0v : Cx.ty 2 = some (.int .i64) := rfl
theorem z0w : Cx.ty 3 = some (.int .i64) := rfl
theorem z0x : Cx.ty 4 = some .bool := rfl
theorem z0y : Cx.ty 5 = some (.int .u8) := rfl
theorem z0z : Cx.ty 6 = some (.int .u8) := rfl
theorem z10 : Cx.ty 9 = some .str := rfl
theorem z60 : Cx.ty 10 = some .str := rfl
theorem z62 : Cx.ty 11 = some .str := rfl
theorem z64 : Cx.ty 12 = some (.int .u64) := rfl
theorem z6s : Cx.ty 21 = some (.int .i32) := rfl
theorem z6k : Cx.ty 22 = some (.int .i8) := rfl
theorem z6f : Cx.ty 23 = some (.int .i16) := rfl
theorem z6i : Cx.ty 24 = some (.arr 8 (.int .i16)) := rfl
theorem z6o : Cx.ty 25 = some (.arr 8 (.arr 8 (.int .i16))) := rfl
theorem z6t : Cx.ty 26 = some (.arr 3 (.int .i16)) := rfl
theorem z6m : Cx.ty 27 = some (.arr 8 (.arr 3 (.int .i16))) := rfl
theorem z6x : Cx.ty 28 = some (.arr 8 (.arr 8 (.arr 3 (.int .i16)))) := rfl
theorem z70 : Cx.ty 29 = some (.arr 8 (.int .u8)) := rfl
theorem z7i : Cx.ty 31 = some shSheet := rfl
theorem z7r : Cx.ty 33 = some shFold := rfl
theorem z6v : Cx.ty 37 = some shSheet := rfl
theorem z7p : Cx.ty 39 = some shFold := rfl
theorem zav : Cx.ty 63 = some shSpot := rfl
theorem z6d : Cx.ty 66 = some shSpot := rfl
theorem zca : Cx.ty 75 = some (.arr 8 (.arr 8 (.int .i16))) := rfl
theorem z90 : Cx.ty 90 = some (.arr 2 shSpot) := rfl
theorem zek : Cx.ty 100 = some (.arr 3 (.int .i64)) := rfl
theorem zgi : Cx.ty 143 = some (.int .u64) := rfl
theorem zne : Cx.ty 159 = some (.int .u32) := rfl
theorem znf : Cx.ty 160 = some (.int .u8) := rfl
theorem zhr : Cx.ty 161 = some (.int .u8) := rfl
theorem zhs : Cx.ty 164 = some (.int .i32) := rfl
theorem zht : Cx.ty 165 = some (.int .i32) := rfl
theorem z7y : Cx.sl 34 = some (.arr 2 shSpot) := rfl
theorem z8d : Cx.sl 44 = some shFold := rfl
theorem z95 : Cx.sl 50 = some (.arr 3 (.int .i64)) := rfl
theorem z7l : Cx.sl 56 = some shSpot := rfl
theorem zhq : Cx.sl 150 = some (.int .i64) := rfl
theorem z0u : Cx.rf 1 = some .junk := rfl
theorem z0n {k q} : onK Cx 1 k q = q .junk := onK_rf rfl rfl
theorem z66 : Cx.rf 15 = some .nilp := rfl
theorem z65 {k q} : onK Cx 15 k q = q .nilp := onK_rf rfl rfl
theorem z68 : Cx.rf 16 = some .nilp := rfl
theorem z67 {k q} : onK Cx 16 k q = q .nilp := onK_rf rfl rfl
theorem z6a : Cx.rf 17 = some .nilp := rfl
theorem z69 {k q} : onK Cx 17 k q = q .nilp := onK_rf rfl rfl
theorem z7v : Cx.rf 34 = some .nils := rfl
theorem z7s {k q} : onK Cx 34 k q = q .nils := onK_rf rfl rfl
theorem z7w : Cx.rf 36 = some .junk := rfl
theorem z7t {k q} : onK Cx 36 k q = q .junk := onK_rf rfl rfl
theorem z7o : Cx.rf 38 = some .junk := rfl
theorem z7m {k q} : onK Cx 38 k q = q .junk := onK_rf rfl rfl
theorem z7x : Cx.rf 40 = some .junk := rfl
theorem z7u {k q} : onK Cx 40 k q = q .junk := onK_rf rfl rfl
theorem z81 : Cx.rf 41 = some .junk := rfl
theorem z7z {k q} : onK Cx 41 k q = q .junk := onK_rf rfl rfl
theorem z82 : Cx.rf 42 = some .junk := rfl
theorem z80 {k q} : onK Cx 42 k q = q .junk := onK_rf rfl rfl
theorem z84 : Cx.rf 43 = some .junk := rfl
theorem z83 {k q} : onK Cx 43 k q = q .junk := onK_rf rfl rfl
theorem z8c : Cx.rf 44 = some .nils := rfl
theorem z8b {k q} : onK Cx 44 k q = q .nils := onK_rf rfl rfl
theorem z8f : Cx.rf 46 = some .junk := rfl
theorem z8e {k q} : onK Cx 46 k q = q .junk := onK_rf rfl rfl
theorem zb6 : Cx.rf 47 = some .junk := rfl
theorem zb4 {k q} : onK Cx 47 k q = q .junk := onK_rf rfl rfl
theorem zb7 : Cx.rf 48 = some .junk := rfl
theorem zb5 {k q} : onK Cx 48 k q = q .junk := onK_rf rfl rfl
theorem zbi : Cx.rf 49 = some .junk := rfl
theorem zbe {k q} : onK Cx 49 k q = q .junk := onK_rf rfl rfl
theorem z93 : Cx.rf 50 = some .nils := rfl
theorem z91 {k q} : onK Cx 50 k q = q .nils := onK_rf rfl rfl
theorem z9h : Cx.rf 52 = some .junk := rfl
theorem z9e {k q} : onK Cx 52 k q = q .junk := onK_rf rfl rfl
theorem z9i : Cx.rf 53 = some .junk := rfl
theorem z9f {k q} : onK Cx 53 k q = q .junk := onK_rf rfl rfl
theorem zbm : Cx.rf 54 = some .junk := rfl
theorem zbl {k q} : onK Cx 54 k q = q .junk := onK_rf rfl rfl
theorem z9c : Cx.rf 55 = some .junk := rfl
theorem z9a {k q} : onK Cx 55 k q = q .junk := onK_rf rfl rfl
theorem z7k : Cx.rf 56 = some .nils := rfl
theorem z7j {k q} : onK Cx 56 k q = q .nils := onK_rf rfl rfl
theorem z98 : Cx.rf 58 = some .junk := rfl
theorem z96 {k q} : onK Cx 58 k q = q .junk := onK_rf rfl rfl
theorem z99 : Cx.rf 59 = some .junk := rfl
theorem z97 {k q} : onK Cx 59 k q = q .junk := onK_rf rfl rfl
theorem zba : Cx.rf 60 = some .junk := rfl
theorem zb8 {k q} : onK Cx 60 k q = q .junk := onK_rf rfl rfl
theorem z9d : Cx.rf 61 = some .junk := rfl
theorem z9b {k q} : onK Cx 61 k q = q .junk := onK_rf rfl rfl
theorem z9j : Cx.rf 65 = some .junk := rfl
theorem z9g {k q} : onK Cx 65 k q = q .junk := onK_rf rfl rfl
theorem zbj : Cx.rf 67 = some .junk := rfl
theorem zbf {k q} : onK Cx 67 k q = q .junk := onK_rf rfl rfl
theorem zbk : Cx.rf 68 = some .junk := rfl
theorem zbg {k q} : onK Cx 68 k q = q .junk := onK_rf rfl rfl
theorem zch : Cx.rf 69 = some .junk := rfl
theorem zcf {k q} : onK Cx 69 k q = q .junk := onK_rf rfl rfl
theorem zby : Cx.rf 71 = some .junk := rfl
theorem zbv {k q} : onK Cx 71 k q = q .junk := onK_rf rfl rfl
theorem zbz : Cx.rf 72 = some .junk := rfl
theorem zbw {k q} : onK Cx 72 k q = q .junk := onK_rf rfl rfl
theorem zci : Cx.rf 74 = some .junk := rfl
theorem zcg {k q} : onK Cx 74 k q = q .junk := onK_rf rfl rfl
theorem zce : Cx.rf 77 = some .junk := rfl
theorem zcc {k q} : onK Cx 77 k q = q .junk := onK_rf rfl rfl
theorem zds : Cx.rf 78 = some .junk := rfl
theorem zdm {k q} : onK Cx 78 k q = q .junk := onK_rf rfl rfl
theorem zdt : Cx.rf 80 = some .junk := rfl
theorem zdn {k q} : onK Cx 80 k q = q .junk := onK_rf rfl rfl
theorem zdu : Cx.rf 81 = some .junk := rfl
theorem zdo {k q} : onK Cx 81 k q = q .junk := onK_rf rfl rfl
theorem z8x : Cx.rf 82 = some .nilp := rfl
theorem z8v {k q} : onK Cx 82 k q = q .nilp := onK_rf rfl rfl
theorem zb0 : Cx.rf 83 = some .junk := rfl
theorem zay {k q} : onK Cx 83 k q = q .junk := onK_rf rfl rfl
theorem zb1 : Cx.rf 84 = some .junk := rfl
theorem zaz {k q} : onK Cx 84 k q = q .junk := onK_rf rfl rfl
theorem zbb : Cx.rf 85 = some .junk := rfl
theorem zb9 {k q} : onK Cx 85 k q = q .junk := onK_rf rfl rfl
theorem zb3 : Cx.rf 86 = some .junk := rfl
theorem zb2 {k q} : onK Cx 86 k q = q .junk := onK_rf rfl rfl
theorem z8h : Cx.rf 87 = some .junk := rfl
theorem z8g {k q} : onK Cx 87 k q = q .junk := onK_rf rfl rfl
theorem z8j : Cx.rf 88 = some .junk := rfl
theorem z8i {k q} : onK Cx 88 k q = q .junk := onK_rf rfl rfl
theorem z8y : Cx.rf 89 = some .junk := rfl
theorem z8w {k q} : onK Cx 89 k q = q .junk := onK_rf rfl rfl
theorem z8l : Cx.rf 91 = some .junk := rfl
theorem z8k {k q} : onK Cx 91 k q = q .junk := onK_rf rfl rfl
theorem z94 : Cx.rf 92 = some .junk := rfl
theorem z92 {k q} : onK Cx 92 k q = q .junk := onK_rf rfl rfl
theorem zdv : Cx.rf 93 = some .junk := rfl
theorem zdp {k q} : onK Cx 93 k q = q .junk := onK_rf rfl rfl
theorem zdc : Cx.rf 94 = some .junk := rfl
theorem zd6 {k q} : onK Cx 94 k q = q .junk := onK_rf rfl rfl
theorem zdd : Cx.rf 95 = some .junk := rfl
theorem zd7 {k q} : onK Cx 95 k q = q .junk := onK_rf rfl rfl
theorem zde : Cx.rf 96 = some .junk := rfl
theorem zd8 {k q} : onK Cx 96 k q = q .junk := onK_rf rfl rfl
theorem zdf : Cx.rf 97 = some .junk := rfl
theorem zd9 {k q} : onK Cx 97 k q = q .junk := onK_rf rfl rfl
theorem zdw : Cx.rf 98 = some .junk := rfl
theorem zdq {k q} : onK Cx 98 k q = q .junk := onK_rf rfl rfl
theorem zdg : Cx.rf 99 = some .junk := rfl
theorem zda {k q} : onK Cx 99 k q = q .junk := onK_rf rfl rfl
theorem zfs : Cx.rf 101 = some .junk := rfl
theorem zfj {k q} : onK Cx 101 k q = q .junk := onK_rf rfl rfl
theorem zdr : Cx.rf 102 = some .junk := rfl
theorem zdl {k q} : onK Cx 102 k q = q .junk := onK_rf rfl rfl
theorem zdb : Cx.rf 103 = some .junk := rfl
theorem zd5 {k q} : onK Cx 103 k q = q .junk := onK_rf rfl rfl
theorem zei : Cx.rf 104 = some .junk := rfl
theorem zee {k q} : onK Cx 104 k q = q .junk := onK_rf rfl rfl
theorem zej : Cx.rf 105 = some .junk := rfl
theorem zef {k q} : onK Cx 105 k q = q .junk := onK_rf rfl rfl
theorem zcz : Cx.rf 106 = some .junk := rfl
theorem zcy {k q} : onK Cx 106 k q = q .junk := onK_rf rfl rfl
theorem zbq : Cx.rf 107 = some .junk := rfl
theorem zbo {k q} : onK Cx 107 k q = q .junk := onK_rf rfl rfl
theorem zbr : Cx.rf 108 = some .junk := rfl
theorem zbp {k q} : onK Cx 108 k q = q .junk := onK_rf rfl rfl
theorem z9r : Cx.rf 109 = some .junk := rfl
theorem z9q {k q} : onK Cx 109 k q = q .junk := onK_rf rfl rfl
theorem zcw : Cx.rf 110 = some .junk := rfl
theorem zcv {k q} : onK Cx 110 k q = q .junk := onK_rf rfl rfl
theorem zc7 : Cx.rf 111 = some .junk := rfl
theorem zc0 {k q} : onK Cx 111 k q = q .junk := onK_rf rfl rfl
theorem zc8 : Cx.rf 112 = some .junk := rfl
theorem zc1 {k q} : onK Cx 112 k q = q .junk := onK_rf rfl rfl
theorem zbt : Cx.rf 113 = some .junk := rfl
theorem zbs {k q} : onK Cx 113 k q = q .junk := onK_rf rfl rfl
theorem zc9 : Cx.rf 114 = some .junk := rfl
theorem zc2 {k q} : onK Cx 114 k q = q .junk := onK_rf rfl rfl
theorem zcl : Cx.rf 115 = some .junk := rfl
theorem zcj {k q} : onK Cx 115 k q = q .junk := onK_rf rfl rfl
theorem zcm : Cx.rf 116 = some .junk := rfl
theorem zck {k q} : onK Cx 116 k q = q .junk := onK_rf rfl rfl
theorem zd3 : Cx.rf 117 = some .junk := rfl
theorem zd2 {k q} : onK Cx 117 k q = q .junk := onK_rf rfl rfl
theorem zcd : Cx.rf 118 = some .junk := rfl
theorem zcb {k q} : onK Cx 118 k q = q .junk := onK_rf rfl rfl
theorem zco : Cx.rf 119 = some .junk := rfl
theorem zcn {k q} : onK Cx 119 k q = q .junk := onK_rf rfl rfl
theorem zcr : Cx.rf 120 = some .junk := rfl
theorem zcp {k q} : onK Cx 120 k q = q .junk := onK_rf rfl rfl
theorem zgf : Cx.rf 121 = some .junk := rfl
theorem zg5 {k q} : onK Cx 121 k q = q .junk := onK_rf rfl rfl
theorem zet : Cx.rf 122 = some .junk := rfl
theorem zer {k q} : onK Cx 122 k q = q .junk := onK_rf rfl rfl
theorem zgg : Cx.rf 123 = some .junk := rfl
theorem zg6 {k q} : onK Cx 123 k q = q .junk := onK_rf rfl rfl
theorem zcs : Cx.rf 124 = some .junk := rfl
theorem zcq {k q} : onK Cx 124 k q = q .junk := onK_rf rfl rfl
theorem zbd : Cx.rf 125 = some .junk := rfl
theorem zbc {k q} : onK Cx 125 k q = q .junk := onK_rf rfl rfl
theorem zbx : Cx.rf 126 = some .junk := rfl
theorem zbu {k q} : onK Cx 126 k q = q .junk := onK_rf rfl rfl
theorem zft : Cx.rf 127 = some .junk := rfl
theorem zfk {k q} : onK Cx 127 k q = q .junk := onK_rf rfl rfl
theorem zgh : Cx.rf 128 = some .junk := rfl
theorem zg7 {k q} : onK Cx 128 k q = q .junk := onK_rf rfl rfl
theorem zfu : Cx.rf 129 = some .junk := rfl
theorem zfl {k q} : onK Cx 129 k q = q .junk := onK_rf rfl rfl
theorem zfv : Cx.rf 130 = some .junk := rfl
theorem zfm {k q} : onK Cx 130 k q = q .junk := onK_rf rfl rfl
theorem zfw : Cx.rf 131 = some .junk := rfl
theorem zfn {k q} : onK Cx 131 k q = q .junk := onK_rf rfl rfl
theorem zn9 : Cx.rf 132 = some .junk := rfl
theorem zjy {k q} : onK Cx 132 k q = q .junk := onK_rf rfl rfl
theorem zhi : Cx.rf 133 = some .junk := rfl
theorem zgw {k q} : onK Cx 133 k q = q .junk := onK_rf rfl rfl
theorem zi2 : Cx.rf 134 = some .junk := rfl
theorem zhx {k q} : onK Cx 134 k q = q .junk := onK_rf rfl rfl
theorem zi3 : Cx.rf 135 = some .junk := rfl
theorem zhy {k q} : onK Cx 135 k q = q .junk := onK_rf rfl rfl
theorem ze7 : Cx.rf 136 = some .nilp := rfl
theorem ze1 {k q} : onK Cx 136 k q = q .nilp := onK_rf rfl rfl
theorem zec : Cx.rf 137 = some .junk := rfl
theorem zea {k q} : onK Cx 137 k q = q .junk := onK_rf rfl rfl
theorem zf5 : Cx.rf 138 = some .junk := rfl
theorem zf2 {k q} : onK Cx 138 k q = q .junk := onK_rf rfl rfl
theorem zhj : Cx.rf 139 = some .junk := rfl
theorem zgx {k q} : onK Cx 139 k q = q .junk := onK_rf rfl rfl
theorem zhk : Cx.rf 140 = some .junk := rfl
theorem zgy {k q} : onK Cx 140 k q = q .junk := onK_rf rfl rfl
theorem zna : Cx.rf 141 = some .junk := rfl
theorem zjz {k q} : onK Cx 141 k q = q .junk := onK_rf rfl rfl
theorem zhl : Cx.rf 142 = some .junk := rfl
theorem zgz {k q} : onK Cx 142 k q = q .junk := onK_rf rfl rfl
theorem zf6 : Cx.rf 144 = some .junk := rfl
theorem zf3 {k q} : onK Cx 144 k q = q .junk := onK_rf rfl rfl
theorem zhm : Cx.rf 145 = some .junk := rfl
theorem zh0 {k q} : onK Cx 145 k q = q .junk := onK_rf rfl rfl
theorem zfx : Cx.rf 146 = some .junk := rfl
theorem zfo {k q} : onK Cx 146 k q = q .junk := onK_rf rfl rfl
theorem zfy : Cx.rf 147 = some .junk := rfl
theorem zfp {k q} : onK Cx 147 k q = q .junk := onK_rf rfl rfl
theorem zi4 : Cx.rf 148 = some .junk := rfl
theorem zhz {k q} : onK Cx 148 k q = q .junk := onK_rf rfl rfl
theorem zfz : Cx.rf 149 = some .junk := rfl
theorem zfq {k q} : onK Cx 149 k q = q .junk := onK_rf rfl rfl
theorem zhn : Cx.rf 150 = some .nils := rfl
theorem zh1 {k q} : onK Cx 150 k q = q .nils := onK_rf rfl rfl
theorem znb : Cx.rf 151 = some .junk := rfl
theorem zk0 {k q} : onK Cx 151 k q = q .junk := onK_rf rfl rfl
theorem zi5 : Cx.rf 152 = some .junk := rfl
theorem zi0 {k q} : onK Cx 152 k q = q .junk := onK_rf rfl rfl
theorem zho : Cx.rf 158 = some .junk := rfl
theorem zh2 {k q} : onK Cx 158 k q = q .junk := onK_rf rfl rfl
theorem zhp : Cx.rf 162 = some .junk := rfl
theorem zh3 {k q} : onK Cx 162 k q = q .junk := onK_rf rfl rfl
theorem znc : Cx.rf 163 = some .nilp := rfl
theorem zk1 {k q} : onK Cx 163 k q = q .nilp := onK_rf rfl rfl
theorem znd : Cx.rf 168 = some .junk := rfl
theorem zk2 {k q} : onK Cx 168 k q = q .junk := onK_rf rfl rfl
theorem z0o {k q} : onK Cx 2 k q = k (.int .i64) := onK_ty rfl
theorem z0p {k q} : onK Cx 3 k q = k (.int .i64) := onK_ty rfl
theorem z0q {k q} : onK Cx 4 k q = k .bool := onK_ty rfl
theorem z0r {k q} : onK Cx 5 k q = k (.int .u8) := onK_ty rfl
theorem z0s {k q} : onK Cx 6 k q = k (.int .u8) := onK_ty rfl
theorem z0t {k q} : onK Cx 9 k q = k .str := onK_ty rfl
theorem z5z {k q} : onK Cx 10 k q = k .str := onK_ty rfl
theorem z61 {k q} : onK Cx 11 k q = k .str := onK_ty rfl
theorem z63 {k q} : onK Cx 12 k q = k (.int .u64) := onK_ty rfl
theorem z6q {k q} : onK Cx 21 k q = k (.int .i32) := onK_ty rfl
theorem z6j {k q} : onK Cx 22 k q = k (.int .i8) := onK_ty rfl
theorem z6e {k q} : onK Cx 23 k q = k (.int .i16) := onK_ty rfl
theorem z6h {k q} : onK Cx 24 k q = k (.arr 8 (.int .i16)) := onK_ty rfl
theorem z6n {k q} : onK Cx 25 k q = k (.arr 8 (.arr 8 (.int .i16))) := onK_ty rfl
theorem z6r {k q} : onK Cx 26 k q = k (.arr 3 (.int .i16)) := onK_ty rfl
theorem z6l {k q} : onK Cx 27 k q = k (.arr 8 (.arr 3 (.int .i16))) := onK_ty rfl
theorem z6w {k q} : onK Cx 28 k q = k (.arr 8 (.arr 8 (.arr 3 (.int .i16)))) := onK_ty rfl
theorem z6z {k q} : onK Cx 29 k q = k (.arr 8 (.int .u8)) := onK_ty rfl
theorem z7h {k q} : onK Cx 31 k q = k shSheet := onK_ty rfl
theorem z7q {k q} : onK Cx 33 k q = k shFold := onK_ty rfl
theorem z6u {k q} : onK Cx 37 k q = k shSheet := onK_ty rfl
theorem z7n {k q} : onK Cx 39 k q = k shFold := onK_ty rfl
theorem zau {k q} : onK Cx 63 k q = k shSpot := onK_ty rfl
theorem z6c {k q} : onK Cx 66 k q = k shSpot := onK_ty rfl
theorem zc3 {k q} : onK Cx 75 k q = k (.arr 8 (.arr 8 (.int .i16))) := onK_ty rfl
theorem z8z {k q} : onK Cx 90 k q = k (.arr 2 shSpot) := onK_ty rfl
theorem zeg {k q} : onK Cx 100 k q = k (.arr 3 (.int .i64)) := onK_ty rfl
theorem zg8 {k q} : onK Cx 143 k q = k (.int .u64) := onK_ty rfl
theorem zk3 {k q} : onK Cx 159 k q = k (.int .u32) := onK_ty rfl
theorem zk4 {k q} : onK Cx 160 k q = k (.int .u8) := onK_ty rfl
theorem zh4 {k q} : onK Cx 161 k q = k (.int .u8) := onK_ty rfl
theorem zh5 {k q} : onK Cx 164 k q = k (.int .i32) := onK_ty rfl
theorem zh6 {k q} : onK Cx 165 k q = k (.int .i32) := onK_ty rfl
theorem z6g : Cx.eq 24 = true := rfl
theorem z6p : Cx.eq 26 = true := rfl
theorem z6y : Cx.eq 29 = true := rfl
theorem zat : Cx.eq 63 = true := rfl
theorem z6b : Cx.eq 66 = true := rfl
theorem zed : Cx.eq 100 = true := rfl
theorem cP : Cx.P = Try.prog := rfl
end Go.Proofs.Ytaabokmbkohieaa
