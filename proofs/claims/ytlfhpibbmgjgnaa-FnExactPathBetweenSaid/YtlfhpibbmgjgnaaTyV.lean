/- The types of this translation, as the evaluator reads them: each entry is proved from the program's own table. No conditions. -/
import Derived.Test.YtlfhpibbmgjgnaaChecked
import Derived.Test.YtlfhpibbmgjgnaaInkGe
import Derived.KernelRfl
set_option linter.unusedVariables false
set_option linter.unusedSimpArgs false
namespace Go.Proofs.Ytlfhpibbmgjgnaa
open Ink Go
set_option maxRecDepth 100000
theorem info_of {P : Program} {t : TypeId} {τ : Sh} (h1 : (P.info? t).map (fun i => (i.zero, i.size)) = some (some (enc τ τ.zero), τ.size)) (h2 : (P.info? t).map (fun i => decide (i.bytes ≤ 65536)) = some true) : InfoOk P t τ := by
  cases hi : P.info? t with
  | none => rw [hi] at h1; cases h1
  | some i =>
    rw [hi] at h1 h2
    simp only [Option.map_some, Option.some.injEq, Prod.mk.injEq, decide_eq_true_eq] at h1 h2
    exact ⟨i, hi, h1.2, h1.1, h2⟩
theorem ref_of {P : Program} {t : TypeId} {z : AV} {d : TypeDesc} {x : Value} (hdd : (match d with | .struct _ | .array _ _ => false | _ => true) = true) (hd : P.underlying t = some d) (h1 : (P.info? t).map (fun i => (i.zero, i.size)) = some (some x, 1)) (hx : x.oneCell' = true) (hr : ∀ ρ S w, Rv ρ S w z x) : RefOk P t z := by
  cases hi : P.info? t with
  | none => rw [hi] at h1; cases h1
  | some i =>
    rw [hi] at h1
    simp only [Option.map_some, Option.some.injEq, Prod.mk.injEq] at h1
    exact ⟨d, i, hd, hi, h1.2, ⟨x, h1.1, hx, hr⟩, hdd⟩
theorem ty2 : TyOk Try.prog (.int .i64 : Sh) 2 := by
  have h : InfoOk Try.prog 2 (.int .i64 : Sh) := info_of (by kernel_rfl) (by kernel_rfl)
  unfold TyOk; exact ⟨Try.underlying2, h⟩
theorem ty3 : TyOk Try.prog (.int .i64 : Sh) 3 := by
  have h : InfoOk Try.prog 3 (.int .i64 : Sh) := info_of (by kernel_rfl) (by kernel_rfl)
  unfold TyOk; exact ⟨Try.underlying3, h⟩
theorem ty4 : TyOk Try.prog (.bool : Sh) 4 := by
  have h : InfoOk Try.prog 4 (.bool : Sh) := info_of (by kernel_rfl) (by kernel_rfl)
  unfold TyOk; exact ⟨Try.underlying4, h⟩
theorem ty5 : TyOk Try.prog (.int .u8 : Sh) 5 := by
  have h : InfoOk Try.prog 5 (.int .u8 : Sh) := info_of (by kernel_rfl) (by kernel_rfl)
  unfold TyOk; exact ⟨Try.underlying5, h⟩
theorem ty6 : TyOk Try.prog (.int .u8 : Sh) 6 := by
  have h : InfoOk Try.prog 6 (.int .u8 : Sh) := info_of (by kernel_rfl) (by kernel_rfl)
  unfold TyOk; exact ⟨Try.underlying6, h⟩
theorem ty9 : TyOk Try.prog (.str : Sh) 9 := by
  have h : InfoOk Try.prog 9 (.str : Sh) := info_of (by kernel_rfl) (by kernel_rfl)
  unfold TyOk; exact ⟨Try.underlying9, h⟩
theorem ty10 : TyOk Try.prog (.str : Sh) 10 := by
  have h : InfoOk Try.prog 10 (.str : Sh) := info_of (by kernel_rfl) (by kernel_rfl)
  unfold TyOk; exact ⟨Try.underlying10, h⟩
theorem ty11 : TyOk Try.prog (.str : Sh) 11 := by
  have h : InfoOk Try.prog 11 (.str : Sh) := info_of (by kernel_rfl) (by kernel_rfl)
  unfold TyOk; exact ⟨Try.underlying11, h⟩
theorem ty12 : TyOk Try.prog (.int .u64 : Sh) 12 := by
  have h : InfoOk Try.prog 12 (.int .u64 : Sh) := info_of (by kernel_rfl) (by kernel_rfl)
  unfold TyOk; exact ⟨Try.underlying12, h⟩
theorem ty21 : TyOk Try.prog (.int .i32 : Sh) 21 := by
  have h : InfoOk Try.prog 21 (.int .i32 : Sh) := info_of (by kernel_rfl) (by kernel_rfl)
  unfold TyOk; exact ⟨Try.underlying21, h⟩
theorem ty32 : TyOk Try.prog (.int .i8 : Sh) 32 := by
  have h : InfoOk Try.prog 32 (.int .i8 : Sh) := info_of (by kernel_rfl) (by kernel_rfl)
  unfold TyOk; exact ⟨Try.underlying32, h⟩
theorem ty33 : TyOk Try.prog (.arr 8 (.int .u8) : Sh) 33 := by
  have h : InfoOk Try.prog 33 (.arr 8 (.int .u8) : Sh) := info_of (by kernel_rfl) (by kernel_rfl)
  unfold TyOk; exact ⟨⟨5, Try.underlying33, ty5⟩, h⟩
theorem ty34 : TyOk Try.prog (.arr 8 (.arr 8 (.int .u8)) : Sh) 34 := by
  have h : InfoOk Try.prog 34 (.arr 8 (.arr 8 (.int .u8)) : Sh) := info_of (by kernel_rfl) (by kernel_rfl)
  unfold TyOk; exact ⟨⟨33, Try.underlying34, ty33⟩, h⟩
theorem ty36 : TyOk Try.prog shPic 36 := by
  have h : InfoOk Try.prog 36 shPic := info_of (by kernel_rfl) (by kernel_rfl)
  unfold shPic at h ⊢; unfold TyOk; exact ⟨⟨_, _, _, Try.underlying36, rfl, rfl, by decide, ty32, ⟨rfl, by decide, ty32, ⟨rfl, by decide, ty34, trivial⟩⟩⟩, h⟩
theorem ty38 : TyOk Try.prog shPic 38 := by
  have h : InfoOk Try.prog 38 shPic := info_of (by kernel_rfl) (by kernel_rfl)
  unfold shPic at h ⊢; unfold TyOk; exact ⟨⟨_, _, _, Try.underlying38, rfl, rfl, by decide, ty32, ⟨rfl, by decide, ty32, ⟨rfl, by decide, ty34, trivial⟩⟩⟩, h⟩
theorem ty41 : TyOk Try.prog (.int .i16 : Sh) 41 := by
  have h : InfoOk Try.prog 41 (.int .i16 : Sh) := info_of (by kernel_rfl) (by kernel_rfl)
  unfold TyOk; exact ⟨Try.underlying41, h⟩
theorem ty42 : TyOk Try.prog (.arr 8 (.int .i16) : Sh) 42 := by
  have h : InfoOk Try.prog 42 (.arr 8 (.int .i16) : Sh) := info_of (by kernel_rfl) (by kernel_rfl)
  unfold TyOk; exact ⟨⟨41, Try.underlying42, ty41⟩, h⟩
theorem ty43 : TyOk Try.prog (.arr 8 (.arr 8 (.int .i16)) : Sh) 43 := by
  have h : InfoOk Try.prog 43 (.arr 8 (.arr 8 (.int .i16)) : Sh) := info_of (by kernel_rfl) (by kernel_rfl)
  unfold TyOk; exact ⟨⟨42, Try.underlying43, ty42⟩, h⟩
theorem ty44 : TyOk Try.prog (.arr 3 (.int .i16) : Sh) 44 := by
  have h : InfoOk Try.prog 44 (.arr 3 (.int .i16) : Sh) := info_of (by kernel_rfl) (by kernel_rfl)
  unfold TyOk; exact ⟨⟨41, Try.underlying44, ty41⟩, h⟩
theorem ty45 : TyOk Try.prog (.arr 8 (.arr 3 (.int .i16)) : Sh) 45 := by
  have h : InfoOk Try.prog 45 (.arr 8 (.arr 3 (.int .i16)) : Sh) := info_of (by kernel_rfl) (by kernel_rfl)
  unfold TyOk; exact ⟨⟨44, Try.underlying45, ty44⟩, h⟩
theorem ty46 : TyOk Try.prog (.arr 8 (.arr 8 (.arr 3 (.int .i16))) : Sh) 46 := by
  have h : InfoOk Try.prog 46 (.arr 8 (.arr 8 (.arr 3 (.int .i16))) : Sh) := info_of (by kernel_rfl) (by kernel_rfl)
  unfold TyOk; exact ⟨⟨45, Try.underlying46, ty45⟩, h⟩
theorem ty48 : TyOk Try.prog shSheet 48 := by
  have h : InfoOk Try.prog 48 shSheet := info_of (by kernel_rfl) (by kernel_rfl)
  unfold shSheet at h ⊢; unfold TyOk; exact ⟨⟨_, _, _, Try.underlying48, rfl, rfl, by decide, ty32, ⟨rfl, by decide, ty32, ⟨rfl, by decide, ty43, ⟨rfl, by decide, ty46, ⟨rfl, by decide, ty33, trivial⟩⟩⟩⟩⟩, h⟩
theorem ty51 : TyOk Try.prog shSheet 51 := by
  have h : InfoOk Try.prog 51 shSheet := info_of (by kernel_rfl) (by kernel_rfl)
  unfold shSheet at h ⊢; unfold TyOk; exact ⟨⟨_, _, _, Try.underlying51, rfl, rfl, by decide, ty32, ⟨rfl, by decide, ty32, ⟨rfl, by decide, ty43, ⟨rfl, by decide, ty46, ⟨rfl, by decide, ty33, trivial⟩⟩⟩⟩⟩, h⟩
theorem ty55 : TyOk Try.prog shSpot 55 := by
  have h : InfoOk Try.prog 55 shSpot := info_of (by kernel_rfl) (by kernel_rfl)
  unfold shSpot at h ⊢; unfold TyOk; exact ⟨⟨_, _, _, Try.underlying55, rfl, rfl, by decide, ty32, ⟨rfl, by decide, ty32, trivial⟩⟩, h⟩
theorem ty59 : TyOk Try.prog shSpot 59 := by
  have h : InfoOk Try.prog 59 shSpot := info_of (by kernel_rfl) (by kernel_rfl)
  unfold shSpot at h ⊢; unfold TyOk; exact ⟨⟨_, _, _, Try.underlying59, rfl, rfl, by decide, ty32, ⟨rfl, by decide, ty32, trivial⟩⟩, h⟩
theorem ty127 : TyOk Try.prog (.int .u64 : Sh) 127 := by
  have h : InfoOk Try.prog 127 (.int .u64 : Sh) := info_of (by kernel_rfl) (by kernel_rfl)
  unfold TyOk; exact ⟨Try.underlying127, h⟩
theorem ty154 : TyOk Try.prog (.int .u32 : Sh) 154 := by
  have h : InfoOk Try.prog 154 (.int .u32 : Sh) := info_of (by kernel_rfl) (by kernel_rfl)
  unfold TyOk; exact ⟨Try.underlying154, h⟩
theorem ty155 : TyOk Try.prog (.int .u8 : Sh) 155 := by
  have h : InfoOk Try.prog 155 (.int .u8 : Sh) := info_of (by kernel_rfl) (by kernel_rfl)
  unfold TyOk; exact ⟨Try.underlying155, h⟩
theorem ty156 : TyOk Try.prog (.int .u8 : Sh) 156 := by
  have h : InfoOk Try.prog 156 (.int .u8 : Sh) := info_of (by kernel_rfl) (by kernel_rfl)
  unfold TyOk; exact ⟨Try.underlying156, h⟩
theorem ty158 : TyOk Try.prog (.int .i32 : Sh) 158 := by
  have h : InfoOk Try.prog 158 (.int .i32 : Sh) := info_of (by kernel_rfl) (by kernel_rfl)
  unfold TyOk; exact ⟨Try.underlying158, h⟩
theorem ty159 : TyOk Try.prog (.int .i32 : Sh) 159 := by
  have h : InfoOk Try.prog 159 (.int .i32 : Sh) := info_of (by kernel_rfl) (by kernel_rfl)
  unfold TyOk; exact ⟨Try.underlying159, h⟩
theorem ty164 : TyOk Try.prog (.arr 8 (.arr 8 (.int .i16)) : Sh) 164 := by
  have h : InfoOk Try.prog 164 (.arr 8 (.arr 8 (.int .i16)) : Sh) := info_of (by kernel_rfl) (by kernel_rfl)
  unfold TyOk; exact ⟨⟨42, Try.underlying164, ty42⟩, h⟩
theorem rf1 : RefOk Try.prog 1 (.junk : AV) := ref_of (x := .nilFunc) rfl Try.underlying1 (by kernel_rfl) rfl (fun _ _ _ => trivial)
theorem rf15 : RefOk Try.prog 15 (.nilp : AV) := ref_of (x := .pointer none) rfl Try.underlying15 (by kernel_rfl) rfl (fun _ _ _ => rfl)
theorem rf16 : RefOk Try.prog 16 (.nilp : AV) := ref_of (x := .pointer none) rfl Try.underlying16 (by kernel_rfl) rfl (fun _ _ _ => rfl)
theorem rf17 : RefOk Try.prog 17 (.nilp : AV) := ref_of (x := .pointer none) rfl Try.underlying17 (by kernel_rfl) rfl (fun _ _ _ => rfl)
theorem rf22 : RefOk Try.prog 22 (.nils : AV) := ref_of (x := .slice none 0 0) rfl Try.underlying22 (by kernel_rfl) rfl (fun _ _ _ => rfl)
theorem rf23 : RefOk Try.prog 23 (.junk : AV) := ref_of (x := .nilFunc) rfl Try.underlying23 (by kernel_rfl) rfl (fun _ _ _ => trivial)
theorem rf24 : RefOk Try.prog 24 (.nils : AV) := ref_of (x := .slice none 0 0) rfl Try.underlying24 (by kernel_rfl) rfl (fun _ _ _ => rfl)
theorem rf25 : RefOk Try.prog 25 (.nils : AV) := ref_of (x := .slice none 0 0) rfl Try.underlying25 (by kernel_rfl) rfl (fun _ _ _ => rfl)
theorem rf27 : RefOk Try.prog 27 (.junk : AV) := ref_of (x := .nilFunc) rfl Try.underlying27 (by kernel_rfl) rfl (fun _ _ _ => trivial)
theorem rf28 : RefOk Try.prog 28 (.junk : AV) := ref_of (x := .nilFunc) rfl Try.underlying28 (by kernel_rfl) rfl (fun _ _ _ => trivial)
theorem rf29 : RefOk Try.prog 29 (.junk : AV) := ref_of (x := .nilFunc) rfl Try.underlying29 (by kernel_rfl) rfl (fun _ _ _ => trivial)
theorem rf30 : RefOk Try.prog 30 (.junk : AV) := ref_of (x := .nilFunc) rfl Try.underlying30 (by kernel_rfl) rfl (fun _ _ _ => trivial)
theorem rf31 : RefOk Try.prog 31 (.junk : AV) := ref_of (x := .nilFunc) rfl Try.underlying31 (by kernel_rfl) rfl (fun _ _ _ => trivial)
theorem rf37 : RefOk Try.prog 37 (.junk : AV) := ref_of (x := .nilFunc) rfl Try.underlying37 (by kernel_rfl) rfl (fun _ _ _ => trivial)
theorem rf39 : RefOk Try.prog 39 (.junk : AV) := ref_of (x := .nilFunc) rfl Try.underlying39 (by kernel_rfl) rfl (fun _ _ _ => trivial)
theorem rf40 : RefOk Try.prog 40 (.junk : AV) := ref_of (x := .nilFunc) rfl Try.underlying40 (by kernel_rfl) rfl (fun _ _ _ => trivial)
theorem rf50 : RefOk Try.prog 50 (.junk : AV) := ref_of (x := .nilFunc) rfl Try.underlying50 (by kernel_rfl) rfl (fun _ _ _ => trivial)
theorem rf52 : RefOk Try.prog 52 (.junk : AV) := ref_of (x := .nilFunc) rfl Try.underlying52 (by kernel_rfl) rfl (fun _ _ _ => trivial)
theorem rf53 : RefOk Try.prog 53 (.junk : AV) := ref_of (x := .nilFunc) rfl Try.underlying53 (by kernel_rfl) rfl (fun _ _ _ => trivial)
theorem rf56 : RefOk Try.prog 56 (.nils : AV) := ref_of (x := .slice none 0 0) rfl Try.underlying56 (by kernel_rfl) rfl (fun _ _ _ => rfl)
theorem rf58 : RefOk Try.prog 58 (.junk : AV) := ref_of (x := .nilFunc) rfl Try.underlying58 (by kernel_rfl) rfl (fun _ _ _ => trivial)
theorem rf60 : RefOk Try.prog 60 (.junk : AV) := ref_of (x := .nilFunc) rfl Try.underlying60 (by kernel_rfl) rfl (fun _ _ _ => trivial)
theorem rf61 : RefOk Try.prog 61 (.junk : AV) := ref_of (x := .nilFunc) rfl Try.underlying61 (by kernel_rfl) rfl (fun _ _ _ => trivial)
theorem rf62 : RefOk Try.prog 62 (.junk : AV) := ref_of (x := .nilFunc) rfl Try.underlying62 (by kernel_rfl) rfl (fun _ _ _ => trivial)
theorem rf63 : RefOk Try.prog 63 (.junk : AV) := ref_of (x := .nilFunc) rfl Try.underlying63 (by kernel_rfl) rfl (fun _ _ _ => trivial)
theorem rf64 : RefOk Try.prog 64 (.junk : AV) := ref_of (x := .nilFunc) rfl Try.underlying64 (by kernel_rfl) rfl (fun _ _ _ => trivial)
theorem rf65 : RefOk Try.prog 65 (.junk : AV) := ref_of (x := .nilFunc) rfl Try.underlying65 (by kernel_rfl) rfl (fun _ _ _ => trivial)
theorem rf66 : RefOk Try.prog 66 (.nilp : AV) := ref_of (x := .pointer none) rfl Try.underlying66 (by kernel_rfl) rfl (fun _ _ _ => rfl)
theorem rf67 : RefOk Try.prog 67 (.junk : AV) := ref_of (x := .nilFunc) rfl Try.underlying67 (by kernel_rfl) rfl (fun _ _ _ => trivial)
theorem rf68 : RefOk Try.prog 68 (.junk : AV) := ref_of (x := .nilFunc) rfl Try.underlying68 (by kernel_rfl) rfl (fun _ _ _ => trivial)
theorem rf69 : RefOk Try.prog 69 (.junk : AV) := ref_of (x := .nilFunc) rfl Try.underlying69 (by kernel_rfl) rfl (fun _ _ _ => trivial)
theorem rf70 : RefOk Try.prog 70 (.junk : AV) := ref_of (x := .nilFunc) rfl Try.underlying70 (by kernel_rfl) rfl (fun _ _ _ => trivial)
theorem rf72 : RefOk Try.prog 72 (.junk : AV) := ref_of (x := .nilFunc) rfl Try.underlying72 (by kernel_rfl) rfl (fun _ _ _ => trivial)
theorem rf73 : RefOk Try.prog 73 (.junk : AV) := ref_of (x := .nilFunc) rfl Try.underlying73 (by kernel_rfl) rfl (fun _ _ _ => trivial)
theorem rf74 : RefOk Try.prog 74 (.junk : AV) := ref_of (x := .nilFunc) rfl Try.underlying74 (by kernel_rfl) rfl (fun _ _ _ => trivial)
theorem rf75 : RefOk Try.prog 75 (.nilp : AV) := ref_of (x := .pointer none) rfl Try.underlying75 (by kernel_rfl) rfl (fun _ _ _ => rfl)
theorem rf76 : RefOk Try.prog 76 (.junk : AV) := ref_of (x := .nilFunc) rfl Try.underlying76 (by kernel_rfl) rfl (fun _ _ _ => trivial)
theorem rf77 : RefOk Try.prog 77 (.junk : AV) := ref_of (x := .nilFunc) rfl Try.underlying77 (by kernel_rfl) rfl (fun _ _ _ => trivial)
theorem rf78 : RefOk Try.prog 78 (.junk : AV) := ref_of (x := .nilFunc) rfl Try.underlying78 (by kernel_rfl) rfl (fun _ _ _ => trivial)
theorem rf79 : RefOk Try.prog 79 (.junk : AV) := ref_of (x := .nilFunc) rfl Try.underlying79 (by kernel_rfl) rfl (fun _ _ _ => trivial)
theorem rf80 : RefOk Try.prog 80 (.junk : AV) := ref_of (x := .nilFunc) rfl Try.underlying80 (by kernel_rfl) rfl (fun _ _ _ => trivial)
theorem rf81 : RefOk Try.prog 81 (.junk : AV) := ref_of (x := .nilFunc) rfl Try.underlying81 (by kernel_rfl) rfl (fun _ _ _ => trivial)
theorem rf82 : RefOk Try.prog 82 (.junk : AV) := ref_of (x := .nilFunc) rfl Try.underlying82 (by kernel_rfl) rfl (fun _ _ _ => trivial)
theorem rf83 : RefOk Try.prog 83 (.junk : AV) := ref_of (x := .nilFunc) rfl Try.underlying83 (by kernel_rfl) rfl (fun _ _ _ => trivial)
theorem rf84 : RefOk Try.prog 84 (.junk : AV) := ref_of (x := .nilFunc) rfl Try.underlying84 (by kernel_rfl) rfl (fun _ _ _ => trivial)
theorem rf85 : RefOk Try.prog 85 (.junk : AV) := ref_of (x := .nilFunc) rfl Try.underlying85 (by kernel_rfl) rfl (fun _ _ _ => trivial)
theorem rf86 : RefOk Try.prog 86 (.junk : AV) := ref_of (x := .nilFunc) rfl Try.underlying86 (by kernel_rfl) rfl (fun _ _ _ => trivial)
theorem rf87 : RefOk Try.prog 87 (.junk : AV) := ref_of (x := .nilFunc) rfl Try.underlying87 (by kernel_rfl) rfl (fun _ _ _ => trivial)
theorem rf88 : RefOk Try.prog 88 (.junk : AV) := ref_of (x := .nilFunc) rfl Try.underlying88 (by kernel_rfl) rfl (fun _ _ _ => trivial)
theorem rf89 : RefOk Try.prog 89 (.junk : AV) := ref_of (x := .nilFunc) rfl Try.underlying89 (by kernel_rfl) rfl (fun _ _ _ => trivial)
theorem rf90 : RefOk Try.prog 90 (.junk : AV) := ref_of (x := .nilFunc) rfl Try.underlying90 (by kernel_rfl) rfl (fun _ _ _ => trivial)
theorem rf91 : RefOk Try.prog 91 (.junk : AV) := ref_of (x := .nilFunc) rfl Try.underlying91 (by kernel_rfl) rfl (fun _ _ _ => trivial)
theorem rf92 : RefOk Try.prog 92 (.junk : AV) := ref_of (x := .nilFunc) rfl Try.underlying92 (by kernel_rfl) rfl (fun _ _ _ => trivial)
theorem rf93 : RefOk Try.prog 93 (.junk : AV) := ref_of (x := .nilFunc) rfl Try.underlying93 (by kernel_rfl) rfl (fun _ _ _ => trivial)
theorem rf94 : RefOk Try.prog 94 ((.raw (.map none)) : AV) := ref_of (x := .map none) rfl Try.underlying94 (by kernel_rfl) rfl (fun _ _ _ => rfl)
theorem rf95 : RefOk Try.prog 95 (.junk : AV) := ref_of (x := .nilFunc) rfl Try.underlying95 (by kernel_rfl) rfl (fun _ _ _ => trivial)
theorem rf97 : RefOk Try.prog 97 (.junk : AV) := ref_of (x := .nilFunc) rfl Try.underlying97 (by kernel_rfl) rfl (fun _ _ _ => trivial)
theorem rf98 : RefOk Try.prog 98 (.junk : AV) := ref_of (x := .nilFunc) rfl Try.underlying98 (by kernel_rfl) rfl (fun _ _ _ => trivial)
theorem rf99 : RefOk Try.prog 99 (.junk : AV) := ref_of (x := .nilFunc) rfl Try.underlying99 (by kernel_rfl) rfl (fun _ _ _ => trivial)
theorem rf100 : RefOk Try.prog 100 (.junk : AV) := ref_of (x := .nilFunc) rfl Try.underlying100 (by kernel_rfl) rfl (fun _ _ _ => trivial)
theorem rf101 : RefOk Try.prog 101 (.junk : AV) := ref_of (x := .nilFunc) rfl Try.underlying101 (by kernel_rfl) rfl (fun _ _ _ => trivial)
theorem rf102 : RefOk Try.prog 102 (.junk : AV) := ref_of (x := .nilFunc) rfl Try.underlying102 (by kernel_rfl) rfl (fun _ _ _ => trivial)
theorem rf103 : RefOk Try.prog 103 (.junk : AV) := ref_of (x := .nilFunc) rfl Try.underlying103 (by kernel_rfl) rfl (fun _ _ _ => trivial)
theorem rf104 : RefOk Try.prog 104 (.junk : AV) := ref_of (x := .nilFunc) rfl Try.underlying104 (by kernel_rfl) rfl (fun _ _ _ => trivial)
theorem rf105 : RefOk Try.prog 105 (.junk : AV) := ref_of (x := .nilFunc) rfl Try.underlying105 (by kernel_rfl) rfl (fun _ _ _ => trivial)
theorem rf106 : RefOk Try.prog 106 (.junk : AV) := ref_of (x := .nilFunc) rfl Try.underlying106 (by kernel_rfl) rfl (fun _ _ _ => trivial)
theorem rf107 : RefOk Try.prog 107 (.junk : AV) := ref_of (x := .nilFunc) rfl Try.underlying107 (by kernel_rfl) rfl (fun _ _ _ => trivial)
theorem rf108 : RefOk Try.prog 108 (.junk : AV) := ref_of (x := .nilFunc) rfl Try.underlying108 (by kernel_rfl) rfl (fun _ _ _ => trivial)
theorem rf109 : RefOk Try.prog 109 (.junk : AV) := ref_of (x := .nilFunc) rfl Try.underlying109 (by kernel_rfl) rfl (fun _ _ _ => trivial)
theorem rf110 : RefOk Try.prog 110 (.junk : AV) := ref_of (x := .nilFunc) rfl Try.underlying110 (by kernel_rfl) rfl (fun _ _ _ => trivial)
theorem rf111 : RefOk Try.prog 111 (.junk : AV) := ref_of (x := .nilFunc) rfl Try.underlying111 (by kernel_rfl) rfl (fun _ _ _ => trivial)
theorem rf112 : RefOk Try.prog 112 (.junk : AV) := ref_of (x := .nilFunc) rfl Try.underlying112 (by kernel_rfl) rfl (fun _ _ _ => trivial)
theorem rf113 : RefOk Try.prog 113 (.junk : AV) := ref_of (x := .nilFunc) rfl Try.underlying113 (by kernel_rfl) rfl (fun _ _ _ => trivial)
theorem rf114 : RefOk Try.prog 114 (.junk : AV) := ref_of (x := .nilFunc) rfl Try.underlying114 (by kernel_rfl) rfl (fun _ _ _ => trivial)
theorem rf115 : RefOk Try.prog 115 (.junk : AV) := ref_of (x := .nilFunc) rfl Try.underlying115 (by kernel_rfl) rfl (fun _ _ _ => trivial)
theorem rf116 : RefOk Try.prog 116 (.nilp : AV) := ref_of (x := .pointer none) rfl Try.underlying116 (by kernel_rfl) rfl (fun _ _ _ => rfl)
theorem rf117 : RefOk Try.prog 117 (.nils : AV) := ref_of (x := .slice none 0 0) rfl Try.underlying117 (by kernel_rfl) rfl (fun _ _ _ => rfl)
theorem rf120 : RefOk Try.prog 120 (.nils : AV) := ref_of (x := .slice none 0 0) rfl Try.underlying120 (by kernel_rfl) rfl (fun _ _ _ => rfl)
theorem rf124 : RefOk Try.prog 124 (.junk : AV) := ref_of (x := .nilFunc) rfl Try.underlying124 (by kernel_rfl) rfl (fun _ _ _ => trivial)
theorem rf125 : RefOk Try.prog 125 (.junk : AV) := ref_of (x := .nilFunc) rfl Try.underlying125 (by kernel_rfl) rfl (fun _ _ _ => trivial)
theorem rf126 : RefOk Try.prog 126 (.junk : AV) := ref_of (x := .nilFunc) rfl Try.underlying126 (by kernel_rfl) rfl (fun _ _ _ => trivial)
theorem rf128 : RefOk Try.prog 128 (.junk : AV) := ref_of (x := .nilFunc) rfl Try.underlying128 (by kernel_rfl) rfl (fun _ _ _ => trivial)
theorem rf129 : RefOk Try.prog 129 (.junk : AV) := ref_of (x := .nilFunc) rfl Try.underlying129 (by kernel_rfl) rfl (fun _ _ _ => trivial)
theorem rf130 : RefOk Try.prog 130 (.junk : AV) := ref_of (x := .nilFunc) rfl Try.underlying130 (by kernel_rfl) rfl (fun _ _ _ => trivial)
theorem rf131 : RefOk Try.prog 131 (.junk : AV) := ref_of (x := .nilFunc) rfl Try.underlying131 (by kernel_rfl) rfl (fun _ _ _ => trivial)
theorem rf132 : RefOk Try.prog 132 (.junk : AV) := ref_of (x := .nilFunc) rfl Try.underlying132 (by kernel_rfl) rfl (fun _ _ _ => trivial)
theorem rf133 : RefOk Try.prog 133 (.junk : AV) := ref_of (x := .nilFunc) rfl Try.underlying133 (by kernel_rfl) rfl (fun _ _ _ => trivial)
theorem rf134 : RefOk Try.prog 134 (.junk : AV) := ref_of (x := .nilFunc) rfl Try.underlying134 (by kernel_rfl) rfl (fun _ _ _ => trivial)
theorem rf135 : RefOk Try.prog 135 (.junk : AV) := ref_of (x := .nilFunc) rfl Try.underlying135 (by kernel_rfl) rfl (fun _ _ _ => trivial)
theorem rf136 : RefOk Try.prog 136 (.junk : AV) := ref_of (x := .nilFunc) rfl Try.underlying136 (by kernel_rfl) rfl (fun _ _ _ => trivial)
theorem rf137 : RefOk Try.prog 137 (.junk : AV) := ref_of (x := .nilFunc) rfl Try.underlying137 (by kernel_rfl) rfl (fun _ _ _ => trivial)
theorem rf138 : RefOk Try.prog 138 (.junk : AV) := ref_of (x := .nilFunc) rfl Try.underlying138 (by kernel_rfl) rfl (fun _ _ _ => trivial)
theorem rf139 : RefOk Try.prog 139 (.junk : AV) := ref_of (x := .nilFunc) rfl Try.underlying139 (by kernel_rfl) rfl (fun _ _ _ => trivial)
theorem rf140 : RefOk Try.prog 140 (.nilp : AV) := ref_of (x := .pointer none) rfl Try.underlying140 (by kernel_rfl) rfl (fun _ _ _ => rfl)
theorem rf141 : RefOk Try.prog 141 (.nils : AV) := ref_of (x := .slice none 0 0) rfl Try.underlying141 (by kernel_rfl) rfl (fun _ _ _ => rfl)
theorem rf142 : RefOk Try.prog 142 (.junk : AV) := ref_of (x := .nilFunc) rfl Try.underlying142 (by kernel_rfl) rfl (fun _ _ _ => trivial)
theorem rf143 : RefOk Try.prog 143 (.junk : AV) := ref_of (x := .nilFunc) rfl Try.underlying143 (by kernel_rfl) rfl (fun _ _ _ => trivial)
theorem rf144 : RefOk Try.prog 144 (.junk : AV) := ref_of (x := .nilFunc) rfl Try.underlying144 (by kernel_rfl) rfl (fun _ _ _ => trivial)
theorem rf146 : RefOk Try.prog 146 (.junk : AV) := ref_of (x := .nilFunc) rfl Try.underlying146 (by kernel_rfl) rfl (fun _ _ _ => trivial)
theorem rf147 : RefOk Try.prog 147 (.junk : AV) := ref_of (x := .nilFunc) rfl Try.underlying147 (by kernel_rfl) rfl (fun _ _ _ => trivial)
theorem rf153 : RefOk Try.prog 153 (.junk : AV) := ref_of (x := .nilFunc) rfl Try.underlying153 (by kernel_rfl) rfl (fun _ _ _ => trivial)
theorem rf157 : RefOk Try.prog 157 (.junk : AV) := ref_of (x := .nilFunc) rfl Try.underlying157 (by kernel_rfl) rfl (fun _ _ _ => trivial)
theorem rf162 : RefOk Try.prog 162 (.junk : AV) := ref_of (x := .nilFunc) rfl Try.underlying162 (by kernel_rfl) rfl (fun _ _ _ => trivial)
theorem rf163 : RefOk Try.prog 163 (.junk : AV) := ref_of (x := .nilFunc) rfl Try.underlying163 (by kernel_rfl) rfl (fun _ _ _ => trivial)
def tyL : List (Nat × Sh) := [(2, .int .i64), (3, .int .i64), (4, .bool), (5, .int .u8), (6, .int .u8), (9, .str), (10, .str), (11, .str), (12, .int .u64), (21, .int .i32), (32, .int .i8), (33, .arr 8 (.int .u8)), (34, .arr 8 (.arr 8 (.int .u8))), (36, shPic), (38, shPic), (41, .int .i16), (42, .arr 8 (.int .i16)), (43, .arr 8 (.arr 8 (.int .i16))), (44, .arr 3 (.int .i16)), (45, .arr 8 (.arr 3 (.int .i16))), (46, .arr 8 (.arr 8 (.arr 3 (.int .i16)))), (48, shSheet), (51, shSheet), (55, shSpot), (59, shSpot), (127, .int .u64), (154, .int .u32), (155, .int .u8), (156, .int .u8), (158, .int .i32), (159, .int .i32), (164, .arr 8 (.arr 8 (.int .i16)))]
def slL : List (Nat × Sh) := [(22, shSheet), (24, shSheet), (25, shSheet), (56, shSpot), (117, .int .u8), (120, .str), (141, .int .i64)]
def rfL : List (Nat × AV) := [(1, .junk), (15, .nilp), (16, .nilp), (17, .nilp), (22, .nils), (23, .junk), (24, .nils), (25, .nils), (27, .junk), (28, .junk), (29, .junk), (30, .junk), (31, .junk), (37, .junk), (39, .junk), (40, .junk), (50, .junk), (52, .junk), (53, .junk), (56, .nils), (58, .junk), (60, .junk), (61, .junk), (62, .junk), (63, .junk), (64, .junk), (65, .junk), (66, .nilp), (67, .junk), (68, .junk), (69, .junk), (70, .junk), (72, .junk), (73, .junk), (74, .junk), (75, .nilp), (76, .junk), (77, .junk), (78, .junk), (79, .junk), (80, .junk), (81, .junk), (82, .junk), (83, .junk), (84, .junk), (85, .junk), (86, .junk), (87, .junk), (88, .junk), (89, .junk), (90, .junk), (91, .junk), (92, .junk), (93, .junk), (94, (.raw (.map none))), (95, .junk), (97, .junk), (98, .junk), (99, .junk), (100, .junk), (101, .junk), (102, .junk), (103, .junk), (104, .junk), (105, .junk), (106, .junk), (107, .junk), (108, .junk), (109, .junk), (110, .junk), (111, .junk), (112, .junk), (113, .junk), (114, .junk), (115, .junk), (116, .nilp), (117, .nils), (120, .nils), (124, .junk), (125, .junk), (126, .junk), (128, .junk), (129, .junk), (130, .junk), (131, .junk), (132, .junk), (133, .junk), (134, .junk), (135, .junk), (136, .junk), (137, .junk), (138, .junk), (139, .junk), (140, .nilp), (141, .nils), (142, .junk), (143, .junk), (144, .junk), (146, .junk), (147, .junk), (153, .junk), (157, .junk), (162, .junk), (163, .junk)]
def eqL : List Nat := [33, 42, 44, 55, 59]
def quL : List Nat := [18, 21, 30, 31, 37, 39, 40, 41, 42, 45, 47, 48, 52, 57, 58, 65, 66, 67, 68, 71, 74, 75, 77, 78, 79, 83, 84, 85, 89, 90, 95, 96, 98, 99, 100, 103, 105]
def altL : List ((Nat × Nat × Nat) × OT) := [((0, 5, 16), (.split 8 12 .txt (.perm [0, 1, 2, 3, 4, 5, 6, 7, 9, 10, 11, 12, 8, 13, 14, 15]))), ((6, 41, 9), (.split 0 5 (.split 2 5 (.split 0 6 (.split 2 6 (.split 5 6 (.perm [1, 4, 0, 2, 3, 5, 6, 7, 8]) (.split 5 7 (.perm [1, 4, 0, 2, 3, 6, 5, 7, 8]) (.perm [1, 4, 0, 2, 3, 6, 7, 5, 8]))) (.split 5 7 (.perm [1, 4, 0, 6, 2, 3, 5, 7, 8]) (.perm [1, 4, 0, 6, 2, 3, 7, 5, 8]))) (.split 5 7 (.perm [1, 4, 6, 0, 2, 3, 5, 7, 8]) (.perm [1, 4, 6, 0, 2, 3, 7, 5, 8]))) (.split 0 6 (.split 5 6 (.split 2 6 (.perm [1, 4, 0, 5, 2, 3, 6, 7, 8]) (.perm [1, 4, 0, 5, 6, 2, 3, 7, 8])) (.perm [1, 4, 0, 6, 5, 2, 3, 7, 8])) (.perm [1, 4, 6, 0, 5, 2, 3, 7, 8]))) (.split 5 6 (.split 0 6 (.split 2 6 (.perm [1, 4, 5, 0, 2, 3, 6, 7, 8]) (.perm [1, 4, 5, 0, 6, 2, 3, 7, 8])) (.perm [1, 4, 5, 6, 0, 2, 3, 7, 8])) (.perm [1, 4, 6, 5, 0, 2, 3, 7, 8]))))]
def apL : List ((Nat × Nat) × List (Nat × Nat)) := [((6, 25), [(29, 48), (31, 48)]), ((6, 41), [(5, 41), (5, 9)])]
noncomputable def Cx : Ctx := { P := Try.prog, ty := fun t => tyL.lookup t, sl := fun t => slL.lookup t, rf := fun t => rfL.lookup t, eq := fun t => eqL.elem t, quiet := fun t => quL.elem t, ap := fun i d => (apL.lookup (i, d.getD 0)).getD [], alt := fun i d m => (altL.lookup (i, d.getD 0, m)).getD .txt, sk := fun t => [25].elem t, mp := fun t => [94].elem t }
theorem lookup_mem {α : Type} {t : Nat} {x : α} : ∀ {l : List (Nat × α)}, l.lookup t = some x → (t, x) ∈ l
  | [], h => by simp at h
  | (s, y) :: l, h => by
    rw [List.lookup_cons] at h
    split at h
    · rename_i e
      have := eq_of_beq e
      cases h
      subst this
      simp
    · exact List.mem_cons_of_mem _ (lookup_mem h)
theorem zjm : Cx.quiet 0 = false := rfl
theorem zjn : Cx.quiet 1 = false := rfl
theorem zko : Cx.quiet 2 = false := rfl
theorem zkt : Cx.quiet 3 = false := rfl
theorem zl2 : Cx.quiet 4 = false := rfl
theorem zl6 : Cx.quiet 5 = false := rfl
theorem zl9 : Cx.quiet 6 = false := rfl
theorem zlj : Cx.quiet 7 = false := rfl
theorem zlo : Cx.quiet 8 = false := rfl
theorem zls : Cx.quiet 9 = false := rfl
theorem zjo : Cx.quiet 10 = false := rfl
theorem zjx : Cx.quiet 11 = false := rfl
theorem zk8 : Cx.quiet 12 = false := rfl
theorem zki : Cx.quiet 13 = false := rfl
theorem zkj : Cx.quiet 14 = false := rfl
theorem zkk : Cx.quiet 15 = false := rfl
theorem zkl : Cx.quiet 16 = false := rfl
theorem zkm : Cx.quiet 17 = false := rfl
theorem zh0 : Cx.quiet 18 = true := rfl
theorem zkn : Cx.quiet 19 = false := rfl
theorem zh1 : Cx.quiet 20 = false := rfl
theorem zh2 : Cx.quiet 21 = true := rfl
theorem zh3 : Cx.quiet 22 = false := rfl
theorem zh4 : Cx.quiet 23 = false := rfl
theorem zh5 : Cx.quiet 24 = false := rfl
theorem zh6 : Cx.quiet 25 = false := rfl
theorem zkp : Cx.quiet 26 = false := rfl
theorem zkq : Cx.quiet 27 = false := rfl
theorem zkr : Cx.quiet 28 = false := rfl
theorem zks : Cx.quiet 29 = false := rfl
theorem zku : Cx.quiet 30 = true := rfl
theorem zkv : Cx.quiet 31 = true := rfl
theorem zkw : Cx.quiet 32 = false := rfl
theorem zkx : Cx.quiet 33 = false := rfl
theorem zky : Cx.quiet 34 = false := rfl
theorem zkz : Cx.quiet 35 = false := rfl
theorem zl0 : Cx.quiet 36 = false := rfl
theorem zgd : Cx.quiet 37 = true := rfl
theorem zl1 : Cx.quiet 38 = false := rfl
theorem zg1 : Cx.quiet 39 = true := rfl
theorem zg2 : Cx.quiet 40 = true := rfl
theorem zg3 : Cx.quiet 41 = true := rfl
theorem zdo : Cx.quiet 42 = true := rfl
theorem zl3 : Cx.quiet 43 = false := rfl
theorem zl4 : Cx.quiet 44 = false := rfl
theorem zco : Cx.quiet 45 = true := rfl
theorem zl5 : Cx.quiet 46 = false := rfl
theorem zes : Cx.quiet 47 = true := rfl
theorem zdw : Cx.quiet 48 = true := rfl
theorem zet : Cx.quiet 49 = false := rfl
theorem zeh : Cx.quiet 50 = false := rfl
theorem zeu : Cx.quiet 51 = false := rfl
theorem zcp : Cx.quiet 52 = true := rfl
theorem zdp : Cx.quiet 53 = false := rfl
theorem zdf : Cx.quiet 54 = false := rfl
theorem zdq : Cx.quiet 55 = false := rfl
theorem zdr : Cx.quiet 56 = false := rfl
theorem zl7 : Cx.quiet 57 = true := rfl
theorem zfq : Cx.quiet 58 = true := rfl
theorem zl8 : Cx.quiet 59 = false := rfl
theorem zla : Cx.quiet 60 = false := rfl
theorem zlb : Cx.quiet 61 = false := rfl
theorem zlc : Cx.quiet 62 = false := rfl
theorem zld : Cx.quiet 63 = false := rfl
theorem zle : Cx.quiet 64 = false := rfl
theorem zlf : Cx.quiet 65 = true := rfl
theorem zlg : Cx.quiet 66 = true := rfl
theorem zlh : Cx.quiet 67 = true := rfl
theorem zew : Cx.quiet 68 = true := rfl
theorem zli : Cx.quiet 69 = false := rfl
theorem zlk : Cx.quiet 70 = false := rfl
theorem zej : Cx.quiet 71 = true := rfl
theorem zll : Cx.quiet 72 = false := rfl
theorem zlm : Cx.quiet 73 = false := rfl
theorem zev : Cx.quiet 74 = true := rfl
theorem zfd : Cx.quiet 75 = true := rfl
theorem zln : Cx.quiet 76 = false := rfl
theorem zge : Cx.quiet 77 = true := rfl
theorem zgf : Cx.quiet 78 = true := rfl
theorem zgg : Cx.quiet 79 = true := rfl
theorem zlp : Cx.quiet 80 = false := rfl
theorem zlq : Cx.quiet 81 = false := rfl
theorem zlr : Cx.quiet 82 = false := rfl
theorem zek : Cx.quiet 83 = true := rfl
theorem zfr : Cx.quiet 84 = true := rfl
theorem zfs : Cx.quiet 85 = true := rfl
theorem zgh : Cx.quiet 86 = false := rfl
theorem zgi : Cx.quiet 87 = false := rfl
theorem zff : Cx.quiet 88 = false := rfl
theorem zg4 : Cx.quiet 89 = true := rfl
theorem zg5 : Cx.quiet 90 = true := rfl
theorem zlt : Cx.quiet 91 = false := rfl
theorem zlu : Cx.quiet 92 = false := rfl
theorem zlv : Cx.quiet 93 = false := rfl
theorem zlw : Cx.quiet 94 = false := rfl
theorem zlx : Cx.quiet 95 = true := rfl
theorem zly : Cx.quiet 96 = true := rfl
theorem zlz : Cx.quiet 97 = false := rfl
theorem zm0 : Cx.quiet 98 = true := rfl
theorem zgj : Cx.quiet 99 = true := rfl
theorem zei : Cx.quiet 100 = true := rfl
theorem zjp : Cx.quiet 101 = false := rfl
theorem zjq : Cx.quiet 102 = false := rfl
theorem zgc : Cx.quiet 103 = true := rfl
theorem zjr : Cx.quiet 104 = false := rfl
theorem zjs : Cx.quiet 105 = true := rfl
theorem zjt : Cx.quiet 106 = false := rfl
theorem zju : Cx.quiet 107 = false := rfl
theorem zjv : Cx.quiet 108 = false := rfl
theorem zjw : Cx.quiet 109 = false := rfl
theorem zjy : Cx.quiet 110 = false := rfl
theorem zjz : Cx.quiet 111 = false := rfl
theorem zk0 : Cx.quiet 112 = false := rfl
theorem zk1 : Cx.quiet 113 = false := rfl
theorem zk2 : Cx.quiet 114 = false := rfl
theorem zk3 : Cx.quiet 115 = false := rfl
theorem zk4 : Cx.quiet 116 = false := rfl
theorem zk5 : Cx.quiet 117 = false := rfl
theorem zk6 : Cx.quiet 118 = false := rfl
theorem zk7 : Cx.quiet 119 = false := rfl
theorem zk9 : Cx.quiet 120 = false := rfl
theorem zka : Cx.quiet 121 = false := rfl
theorem zkb : Cx.quiet 122 = false := rfl
theorem zkc : Cx.quiet 123 = false := rfl
theorem zkd : Cx.quiet 124 = false := rfl
theorem zke : Cx.quiet 125 = false := rfl
theorem zkf : Cx.quiet 126 = false := rfl
theorem zkg : Cx.quiet 127 = false := rfl
theorem zkh : Cx.quiet 128 = false := rfl
theorem zim : Cx.ap 0 (some 5) = [] := rfl
theorem zin : Cx.ap 1 (some 3) = [] := rfl
theorem zio : Cx.ap 1 (some 4) = [] := rfl
theorem zex : Cx.ap 1 (some 5) = [] := rfl
theorem zip : Cx.ap 1 (some 6) = [] := rfl
theorem ziq : Cx.ap 1 (some 8) = [] := rfl
theorem zfn : Cx.ap 1 (some 9) = [] := rfl
theorem zgy : Cx.ap 1 (some 16) = [] := rfl
theorem zgz : Cx.ap 2 (some 26) = [] := rfl
theorem zir : Cx.ap 2 (some 27) = [] := rfl
theorem zis : Cx.ap 3 (some 9) = [] := rfl
theorem zit : Cx.ap 4 (some 10) = [] := rfl
theorem ziu : Cx.ap 4 (some 49) = [] := rfl
theorem zfo : Cx.ap 6 (some 17) = [] := rfl
theorem ziv : Cx.ap 6 (some 23) = [] := rfl
theorem ziw : Cx.ap 6 (some 25) = [(29, 48), (31, 48)] := rfl
theorem zdm : Cx.ap 6 (some 41) = [(5, 41), (5, 9)] := rfl
theorem zfv : Cx.ap 7 (some 20) = [] := rfl
theorem zfp : Cx.ap 8 (some 28) = [] := rfl
theorem zix : Cx.ap 8 (some 55) = [] := rfl
theorem zfc : Cx.ap 9 (some 25) = [] := rfl
theorem zer : Cx.ap 9 (some 36) = [] := rfl
theorem zgx : Cx.ap 13 (some 56) = [] := rfl
theorem zdl : Cx.ap 15 (some 70) = [] := rfl
theorem zfa : Cx.ap 18 (some 51) = [] := rfl
theorem zeq : Cx.ap 18 (some 59) = [] := rfl
theorem zfb : Cx.ap 19 (some 65) = [] := rfl
theorem zi6 : Cx.alt 0 (some 5) 16 = (.split 8 12 .txt (.perm [0, 1, 2, 3, 4, 5, 6, 7, 9, 10, 11, 12, 8, 13, 14, 15])) := rfl
theorem zi7 : Cx.alt 1 (some 3) 11 = .txt := rfl
theorem zi8 : Cx.alt 1 (some 3) 12 = .txt := rfl
theorem zi9 : Cx.alt 1 (some 4) 12 = .txt := rfl
theorem zhk : Cx.alt 1 (some 5) 9 = .txt := rfl
theorem zhg : Cx.alt 1 (some 5) 11 = .txt := rfl
theorem zhh : Cx.alt 1 (some 5) 12 = .txt := rfl
theorem zft : Cx.alt 1 (some 5) 13 = .txt := rfl
theorem zhi : Cx.alt 1 (some 5) 14 = .txt := rfl
theorem zg7 : Cx.alt 1 (some 5) 23 = .txt := rfl
theorem zhj : Cx.alt 1 (some 5) 27 = .txt := rfl
theorem zia : Cx.alt 1 (some 6) 11 = .txt := rfl
theorem zib : Cx.alt 1 (some 6) 12 = .txt := rfl
theorem zic : Cx.alt 1 (some 8) 20 = .txt := rfl
theorem zfk : Cx.alt 1 (some 9) 12 = .txt := rfl
theorem zgv : Cx.alt 1 (some 16) 12 = .txt := rfl
theorem zgw : Cx.alt 2 (some 26) 12 = .txt := rfl
theorem zid : Cx.alt 2 (some 27) 20 = .txt := rfl
theorem zie : Cx.alt 3 (some 9) 13 = .txt := rfl
theorem zig : Cx.alt 4 (some 10) 7 = .txt := rfl
theorem zih : Cx.alt 4 (some 10) 8 = .txt := rfl
theorem zif : Cx.alt 4 (some 10) 29 = .txt := rfl
theorem zii : Cx.alt 4 (some 49) 16 = .txt := rfl
theorem zfl : Cx.alt 6 (some 17) 10 = .txt := rfl
theorem zij : Cx.alt 6 (some 23) 23 = .txt := rfl
theorem zik : Cx.alt 6 (some 25) 29 = .txt := rfl
theorem zdk : Cx.alt 6 (some 41) 9 = (.split 0 5 (.split 2 5 (.split 0 6 (.split 2 6 (.split 5 6 (.perm [1, 4, 0, 2, 3, 5, 6, 7, 8]) (.split 5 7 (.perm [1, 4, 0, 2, 3, 6, 5, 7, 8]) (.perm [1, 4, 0, 2, 3, 6, 7, 5, 8]))) (.split 5 7 (.perm [1, 4, 0, 6, 2, 3, 5, 7, 8]) (.perm [1, 4, 0, 6, 2, 3, 7, 5, 8]))) (.split 5 7 (.perm [1, 4, 6, 0, 2, 3, 5, 7, 8]) (.perm [1, 4, 6, 0, 2, 3, 7, 5, 8]))) (.split 0 6 (.split 5 6 (.split 2 6 (.perm [1, 4, 0, 5, 2, 3, 6, 7, 8]) (.perm [1, 4, 0, 5, 6, 2, 3, 7, 8])) (.perm [1, 4, 0, 6, 5, 2, 3, 7, 8])) (.perm [1, 4, 6, 0, 5, 2, 3, 7, 8]))) (.split 5 6 (.split 0 6 (.split 2 6 (.perm [1, 4, 5, 0, 2, 3, 6, 7, 8]) (.perm [1, 4, 5, 0, 6, 2, 3, 7, 8])) (.perm [1, 4, 5, 6, 0, 2, 3, 7, 8])) (.perm [1, 4, 6, 5, 0, 2, 3, 7, 8]))) := rfl
theorem zfu : Cx.alt 7 (some 20) 8 = .txt := rfl
theorem zfm : Cx.alt 8 (some 28) 14 = .txt := rfl
theorem zil : Cx.alt 8 (some 55) 12 = .txt := rfl
theorem zf9 : Cx.alt 9 (some 25) 7 = .txt := rfl
theorem zep : Cx.alt 9 (some 36) 8 = .txt := rfl
theorem zgu : Cx.alt 13 (some 56) 12 = .txt := rfl
theorem zdj : Cx.alt 15 (some 70) 10 = .txt := rfl
theorem zf7 : Cx.alt 18 (some 51) 14 = .txt := rfl
theorem zeo : Cx.alt 18 (some 59) 35 = .txt := rfl
theorem zf8 : Cx.alt 19 (some 65) 27 = .txt := rfl
theorem ty_all : ∀ x ∈ tyL, TyOk Try.prog x.2 x.1 := by
  unfold tyL
  simp only [List.forall_mem_cons]
  exact ⟨ty2, ty3, ty4, ty5, ty6, ty9, ty10, ty11, ty12, ty21, ty32, ty33, ty34, ty36, ty38, ty41, ty42, ty43, ty44, ty45, ty46, ty48, ty51, ty55, ty59, ty127, ty154, ty155, ty156, ty158, ty159, ty164, fun _ h => by simp at h⟩
theorem sl_all : ∀ x ∈ slL, ∃ et, Try.prog.underlying x.1 = some (.slice et) ∧ TyOk Try.prog x.2 et ∧ x.2.size ≠ 0 := by
  unfold slL
  simp only [List.forall_mem_cons]
  exact ⟨⟨48, Try.underlying22, ty48, by decide⟩, ⟨51, Try.underlying24, ty51, by decide⟩, ⟨51, Try.underlying25, ty51, by decide⟩, ⟨59, Try.underlying56, ty59, by decide⟩, ⟨5, Try.underlying117, ty5, by decide⟩, ⟨9, Try.underlying120, ty9, by decide⟩, ⟨3, Try.underlying141, ty3, by decide⟩, fun _ h => by simp at h⟩
theorem rf_all : ∀ x ∈ rfL, RefOk Try.prog x.1 x.2 := by
  unfold rfL
  simp only [List.forall_mem_cons]
  exact ⟨rf1, rf15, rf16, rf17, rf22, rf23, rf24, rf25, rf27, rf28, rf29, rf30, rf31, rf37, rf39, rf40, rf50, rf52, rf53, rf56, rf58, rf60, rf61, rf62, rf63, rf64, rf65, rf66, rf67, rf68, rf69, rf70, rf72, rf73, rf74, rf75, rf76, rf77, rf78, rf79, rf80, rf81, rf82, rf83, rf84, rf85, rf86, rf87, rf88, rf89, rf90, rf91, rf92, rf93, rf94, rf95, rf97, rf98, rf99, rf100, rf101, rf102, rf103, rf104, rf105, rf106, rf107, rf108, rf109, rf110, rf111, rf112, rf113, rf114, rf115, rf116, rf117, rf120, rf124, rf125, rf126, rf128, rf129, rf130, rf131, rf132, rf133, rf134, rf135, rf136, rf137, rf138, rf139, rf140, rf141, rf142, rf143, rf144, rf146, rf147, rf153, rf157, rf162, rf163, fun _ h => by simp at h⟩
theorem eq_all : ∀ t ∈ eqL, Try.prog.eqGuardType Try.prog.depth t = false ∧ Try.prog.stoodInHeld t = false ∧ (∀ fs, Try.prog.underlying t = some (.struct fs) → ∀ f ∈ fs.toList, f.name ≠ "_") := by
  unfold eqL
  simp only [List.forall_mem_cons]
  exact ⟨⟨by kernel_rfl, by kernel_rfl, fun fs h => by rw [Try.underlying33] at h; cases h⟩, ⟨by kernel_rfl, by kernel_rfl, fun fs h => by rw [Try.underlying42] at h; cases h⟩, ⟨by kernel_rfl, by kernel_rfl, fun fs h => by rw [Try.underlying44] at h; cases h⟩, ⟨by kernel_rfl, by kernel_rfl, fun fs h => by rw [Try.underlying55] at h; cases h; decide⟩, ⟨by kernel_rfl, by kernel_rfl, fun fs h => by rw [Try.underlying59] at h; cases h; decide⟩, fun _ h => by simp at h⟩
theorem mpo94 : MapOk Try.prog 94 := ⟨59, 3, _, _, _, Try.underlying94, ty59, ty3, (eq_all 59 (by decide)).2.1, Try.underlying59, rfl, by decide, by decide⟩
theorem mp_all : ∀ t ∈ ([94] : List Nat), MapOk Try.prog t := by
  simp only [List.forall_mem_cons]
  exact ⟨mpo94, fun _ h => by simp at h⟩
theorem mixed : Try.prog.follows .mixedOrders = true := by kernel_rfl
theorem Cx_ok : Cx.Ok where
  mixed := mixed
  ty := fun t τ h => ty_all _ (lookup_mem h)
  sl := fun t e h => sl_all _ (lookup_mem h)
  rf := fun t z h => rf_all _ (lookup_mem h)
  eq := fun t h => eq_all t (by simpa [Cx] using h)
  mp := fun t h => mp_all t (by simpa [Cx] using h)
theorem z0u : Cx.ty 2 = some (.int .i64) := rfl
theorem z0v : Cx.ty 3 = some (.int .i64) := rfl
theorem z0w : Cx.ty 4 = some .bool := rfl
theorem z0x : Cx.ty 5 = some (.int .u8) := rfl
theorem z0y : Cx.ty 6 = some (.int .u8) := rfl
theorem z6g : Cx.ty 9 = some .str := rfl
theorem z6j : Cx.ty 10 = some .str := rfl
theorem z6k : Cx.ty 11 = some .str := rfl
theorem z6m : Cx.ty 12 = some (.int .u64) := rfl
theorem z7b : Cx.ty 21 = some (.int .i32) := rfl
theorem z73 : Cx.ty 32 = some (.int .i8) := rfl
theorem z7w : Cx.ty 33 = some (.arr 8 (.int .u8)) := rfl
theorem z8u : Cx.ty 34 = some (.arr 8 (.arr 8 (.int .u8))) := rfl
theorem z8v : Cx.ty 36 = some shPic := rfl
theorem z8w : Cx.ty 38 = some shPic := rfl
theorem z80 : Cx.ty 41 = some (.int .i16) := rfl
theorem z87 : Cx.ty 42 = some (.arr 8 (.int .i16)) := rfl
theorem z8l : Cx.ty 43 = some (.arr 8 (.arr 8 (.int .i16))) := rfl
theorem z8p : Cx.ty 44 = some (.arr 3 (.int .i16)) := rfl
theorem z8d : Cx.ty 45 = some (.arr 8 (.arr 3 (.int .i16))) := rfl
theorem z8f : Cx.ty 46 = some (.arr 8 (.arr 8 (.arr 3 (.int .i16)))) := rfl
theorem z8q : Cx.ty 48 = some shSheet := rfl
theorem z8b : Cx.ty 51 = some shSheet := rfl
theorem z9f : Cx.ty 55 = some shSpot := rfl
theorem z6t : Cx.ty 59 = some shSpot := rfl
theorem zhm : Cx.ty 127 = some (.int .u64) := rfl
theorem zmj : Cx.ty 154 = some (.int .u32) := rfl
theorem zmk : Cx.ty 155 = some (.int .u8) := rfl
theorem zml : Cx.ty 156 = some (.int .u8) := rfl
theorem zmm : Cx.ty 158 = some (.int .i32) := rfl
theorem zmn : Cx.ty 159 = some (.int .i32) := rfl
theorem zmo : Cx.ty 164 = some (.arr 8 (.arr 8 (.int .i16))) := rfl
theorem z7a : Cx.sl 22 = some shSheet := rfl
theorem z7f : Cx.sl 24 = some shSheet := rfl
theorem z7p : Cx.sl 25 = some shSheet := rfl
theorem z7j : Cx.sl 56 = some shSpot := rfl
theorem zfz : Cx.sl 117 = some (.int .u8) := rfl
theorem zee : Cx.sl 120 = some .str := rfl
theorem zfi : Cx.sl 141 = some (.int .i64) := rfl
theorem z79 : Cx.sk 22 = false := rfl
theorem z7e : Cx.sk 24 = false := rfl
theorem z7o : Cx.sk 25 = true := rfl
theorem z7i : Cx.sk 56 = false := rfl
theorem zfy : Cx.sk 117 = false := rfl
theorem zed : Cx.sk 120 = false := rfl
theorem zfh : Cx.sk 141 = false := rfl
theorem z0t : Cx.rf 1 = some .junk := rfl
theorem z0n {k q} : onK Cx 1 k q = q .junk := onK_rf rfl rfl
theorem z6o : Cx.rf 15 = some .nilp := rfl
theorem z6n {k q} : onK Cx 15 k q = q .nilp := onK_rf rfl rfl
theorem z6q : Cx.rf 16 = some .nilp := rfl
theorem z6p {k q} : onK Cx 16 k q = q .nilp := onK_rf rfl rfl
theorem z6v : Cx.rf 17 = some .nilp := rfl
theorem z6u {k q} : onK Cx 17 k q = q .nilp := onK_rf rfl rfl
theorem z77 : Cx.rf 22 = some .nils := rfl
theorem z74 {k q} : onK Cx 22 k q = q .nils := onK_rf rfl rfl
theorem z78 : Cx.rf 23 = some .junk := rfl
theorem z75 {k q} : onK Cx 23 k q = q .junk := onK_rf rfl rfl
theorem z7d : Cx.rf 24 = some .nils := rfl
theorem z7c {k q} : onK Cx 24 k q = q .nils := onK_rf rfl rfl
theorem z7n : Cx.rf 25 = some .nils := rfl
theorem z7m {k q} : onK Cx 25 k q = q .nils := onK_rf rfl rfl
theorem z7l : Cx.rf 27 = some .junk := rfl
theorem z7k {k q} : onK Cx 27 k q = q .junk := onK_rf rfl rfl
theorem z7v : Cx.rf 28 = some .junk := rfl
theorem z7t {k q} : onK Cx 28 k q = q .junk := onK_rf rfl rfl
theorem z7y : Cx.rf 29 = some .junk := rfl
theorem z7x {k q} : onK Cx 29 k q = q .junk := onK_rf rfl rfl
theorem z83 : Cx.rf 30 = some .junk := rfl
theorem z81 {k q} : onK Cx 30 k q = q .junk := onK_rf rfl rfl
theorem z84 : Cx.rf 31 = some .junk := rfl
theorem z82 {k q} : onK Cx 31 k q = q .junk := onK_rf rfl rfl
theorem z8k : Cx.rf 37 = some .junk := rfl
theorem z8i {k q} : onK Cx 37 k q = q .junk := onK_rf rfl rfl
theorem z8h : Cx.rf 39 = some .junk := rfl
theorem z8g {k q} : onK Cx 39 k q = q .junk := onK_rf rfl rfl
theorem z8a : Cx.rf 40 = some .junk := rfl
theorem z88 {k q} : onK Cx 40 k q = q .junk := onK_rf rfl rfl
theorem z94 : Cx.rf 50 = some .junk := rfl
theorem z93 {k q} : onK Cx 50 k q = q .junk := onK_rf rfl rfl
theorem z97 : Cx.rf 52 = some .junk := rfl
theorem z95 {k q} : onK Cx 52 k q = q .junk := onK_rf rfl rfl
theorem z9i : Cx.rf 53 = some .junk := rfl
theorem z9g {k q} : onK Cx 53 k q = q .junk := onK_rf rfl rfl
theorem z7h : Cx.rf 56 = some .nils := rfl
theorem z7g {k q} : onK Cx 56 k q = q .nils := onK_rf rfl rfl
theorem z90 : Cx.rf 58 = some .junk := rfl
theorem z8z {k q} : onK Cx 58 k q = q .junk := onK_rf rfl rfl
theorem za2 : Cx.rf 60 = some .junk := rfl
theorem z9z {k q} : onK Cx 60 k q = q .junk := onK_rf rfl rfl
theorem za3 : Cx.rf 61 = some .junk := rfl
theorem za0 {k q} : onK Cx 61 k q = q .junk := onK_rf rfl rfl
theorem za4 : Cx.rf 62 = some .junk := rfl
theorem za1 {k q} : onK Cx 62 k q = q .junk := onK_rf rfl rfl
theorem z9t : Cx.rf 63 = some .junk := rfl
theorem z9n {k q} : onK Cx 63 k q = q .junk := onK_rf rfl rfl
theorem za9 : Cx.rf 64 = some .junk := rfl
theorem za8 {k q} : onK Cx 64 k q = q .junk := onK_rf rfl rfl
theorem z9u : Cx.rf 65 = some .junk := rfl
theorem z9o {k q} : onK Cx 65 k q = q .junk := onK_rf rfl rfl
theorem z7r : Cx.rf 66 = some .nilp := rfl
theorem z7q {k q} : onK Cx 66 k q = q .nilp := onK_rf rfl rfl
theorem z9v : Cx.rf 67 = some .junk := rfl
theorem z9p {k q} : onK Cx 67 k q = q .junk := onK_rf rfl rfl
theorem z92 : Cx.rf 68 = some .junk := rfl
theorem z91 {k q} : onK Cx 68 k q = q .junk := onK_rf rfl rfl
theorem za7 : Cx.rf 69 = some .junk := rfl
theorem za6 {k q} : onK Cx 69 k q = q .junk := onK_rf rfl rfl
theorem z9d : Cx.rf 70 = some .junk := rfl
theorem z9a {k q} : onK Cx 70 k q = q .junk := onK_rf rfl rfl
theorem z9w : Cx.rf 72 = some .junk := rfl
theorem z9q {k q} : onK Cx 72 k q = q .junk := onK_rf rfl rfl
theorem z9x : Cx.rf 73 = some .junk := rfl
theorem z9r {k q} : onK Cx 73 k q = q .junk := onK_rf rfl rfl
theorem z8y : Cx.rf 74 = some .junk := rfl
theorem z8x {k q} : onK Cx 74 k q = q .junk := onK_rf rfl rfl
theorem z9e : Cx.rf 75 = some .nilp := rfl
theorem z9b {k q} : onK Cx 75 k q = q .nilp := onK_rf rfl rfl
theorem z9y : Cx.rf 76 = some .junk := rfl
theorem z9s {k q} : onK Cx 76 k q = q .junk := onK_rf rfl rfl
theorem z98 : Cx.rf 77 = some .junk := rfl
theorem z96 {k q} : onK Cx 77 k q = q .junk := onK_rf rfl rfl
theorem zc8 : Cx.rf 78 = some .junk := rfl
theorem zc6 {k q} : onK Cx 78 k q = q .junk := onK_rf rfl rfl
theorem zbp : Cx.rf 79 = some .junk := rfl
theorem zbo {k q} : onK Cx 79 k q = q .junk := onK_rf rfl rfl
theorem zbx : Cx.rf 80 = some .junk := rfl
theorem zbu {k q} : onK Cx 80 k q = q .junk := onK_rf rfl rfl
theorem zby : Cx.rf 81 = some .junk := rfl
theorem zbv {k q} : onK Cx 81 k q = q .junk := onK_rf rfl rfl
theorem zcj : Cx.rf 82 = some .junk := rfl
theorem zci {k q} : onK Cx 82 k q = q .junk := onK_rf rfl rfl
theorem z9j : Cx.rf 83 = some .junk := rfl
theorem z9h {k q} : onK Cx 83 k q = q .junk := onK_rf rfl rfl
theorem zaf : Cx.rf 84 = some .junk := rfl
theorem zae {k q} : onK Cx 84 k q = q .junk := onK_rf rfl rfl
theorem zbz : Cx.rf 85 = some .junk := rfl
theorem zbw {k q} : onK Cx 85 k q = q .junk := onK_rf rfl rfl
theorem zad : Cx.rf 86 = some .junk := rfl
theorem zac {k q} : onK Cx 86 k q = q .junk := onK_rf rfl rfl
theorem zce : Cx.rf 87 = some .junk := rfl
theorem zcc {k q} : onK Cx 87 k q = q .junk := onK_rf rfl rfl
theorem zc4 : Cx.rf 88 = some .junk := rfl
theorem zc3 {k q} : onK Cx 88 k q = q .junk := onK_rf rfl rfl
theorem zbn : Cx.rf 89 = some .junk := rfl
theorem zbm {k q} : onK Cx 89 k q = q .junk := onK_rf rfl rfl
theorem zbt : Cx.rf 90 = some .junk := rfl
theorem zbr {k q} : onK Cx 90 k q = q .junk := onK_rf rfl rfl
theorem zcu : Cx.rf 91 = some .junk := rfl
theorem zcs {k q} : onK Cx 91 k q = q .junk := onK_rf rfl rfl
theorem zcv : Cx.rf 92 = some .junk := rfl
theorem zct {k q} : onK Cx 92 k q = q .junk := onK_rf rfl rfl
theorem zcy : Cx.rf 93 = some .junk := rfl
theorem zcw {k q} : onK Cx 93 k q = q .junk := onK_rf rfl rfl
theorem zcl : Cx.rf 94 = some (.raw (.map none)) := rfl
theorem zck {k q} : onK Cx 94 k q = q (.raw (.map none)) := onK_rf rfl rfl
theorem zcq : Cx.rf 95 = some .junk := rfl
theorem zcm {k q} : onK Cx 95 k q = q .junk := onK_rf rfl rfl
theorem zcr : Cx.rf 97 = some .junk := rfl
theorem zcn {k q} : onK Cx 97 k q = q .junk := onK_rf rfl rfl
theorem zcz : Cx.rf 98 = some .junk := rfl
theorem zcx {k q} : onK Cx 98 k q = q .junk := onK_rf rfl rfl
theorem zcf : Cx.rf 99 = some .junk := rfl
theorem zcd {k q} : onK Cx 99 k q = q .junk := onK_rf rfl rfl
theorem zab : Cx.rf 100 = some .junk := rfl
theorem zaa {k q} : onK Cx 100 k q = q .junk := onK_rf rfl rfl
theorem zd3 : Cx.rf 101 = some .junk := rfl
theorem zd2 {k q} : onK Cx 101 k q = q .junk := onK_rf rfl rfl
theorem zd6 : Cx.rf 102 = some .junk := rfl
theorem zd4 {k q} : onK Cx 102 k q = q .junk := onK_rf rfl rfl
theorem zd1 : Cx.rf 103 = some .junk := rfl
theorem zd0 {k q} : onK Cx 103 k q = q .junk := onK_rf rfl rfl
theorem zd7 : Cx.rf 104 = some .junk := rfl
theorem zd5 {k q} : onK Cx 104 k q = q .junk := onK_rf rfl rfl
theorem zde : Cx.rf 105 = some .junk := rfl
theorem zdd {k q} : onK Cx 105 k q = q .junk := onK_rf rfl rfl
theorem zds : Cx.rf 106 = some .junk := rfl
theorem zdn {k q} : onK Cx 106 k q = q .junk := onK_rf rfl rfl
theorem zch : Cx.rf 107 = some .junk := rfl
theorem zcg {k q} : onK Cx 107 k q = q .junk := onK_rf rfl rfl
theorem zbs : Cx.rf 108 = some .junk := rfl
theorem zbq {k q} : onK Cx 108 k q = q .junk := onK_rf rfl rfl
theorem zc7 : Cx.rf 109 = some .junk := rfl
theorem zc5 {k q} : onK Cx 109 k q = q .junk := onK_rf rfl rfl
theorem zdc : Cx.rf 110 = some .junk := rfl
theorem zdb {k q} : onK Cx 110 k q = q .junk := onK_rf rfl rfl
theorem zeg : Cx.rf 111 = some .junk := rfl
theorem zef {k q} : onK Cx 111 k q = q .junk := onK_rf rfl rfl
theorem ze1 : Cx.rf 112 = some .junk := rfl
theorem zdx {k q} : onK Cx 112 k q = q .junk := onK_rf rfl rfl
theorem ze2 : Cx.rf 113 = some .junk := rfl
theorem zdy {k q} : onK Cx 113 k q = q .junk := onK_rf rfl rfl
theorem ze6 : Cx.rf 114 = some .junk := rfl
theorem ze5 {k q} : onK Cx 114 k q = q .junk := onK_rf rfl rfl
theorem ze3 : Cx.rf 115 = some .junk := rfl
theorem zdz {k q} : onK Cx 115 k q = q .junk := onK_rf rfl rfl
theorem ze4 : Cx.rf 116 = some .nilp := rfl
theorem ze0 {k q} : onK Cx 116 k q = q .nilp := onK_rf rfl rfl
theorem zfx : Cx.rf 117 = some .nils := rfl
theorem zfw {k q} : onK Cx 117 k q = q .nils := onK_rf rfl rfl
theorem zea : Cx.rf 120 = some .nils := rfl
theorem ze7 {k q} : onK Cx 120 k q = q .nils := onK_rf rfl rfl
theorem zg6 : Cx.rf 124 = some .junk := rfl
theorem zg0 {k q} : onK Cx 124 k q = q .junk := onK_rf rfl rfl
theorem zeb : Cx.rf 125 = some .junk := rfl
theorem ze8 {k q} : onK Cx 125 k q = q .junk := onK_rf rfl rfl
theorem zec : Cx.rf 126 = some .junk := rfl
theorem ze9 {k q} : onK Cx 126 k q = q .junk := onK_rf rfl rfl
theorem zm1 : Cx.rf 128 = some .junk := rfl
theorem ziy {k q} : onK Cx 128 k q = q .junk := onK_rf rfl rfl
theorem zm2 : Cx.rf 129 = some .junk := rfl
theorem ziz {k q} : onK Cx 129 k q = q .junk := onK_rf rfl rfl
theorem zm3 : Cx.rf 130 = some .junk := rfl
theorem zj0 {k q} : onK Cx 130 k q = q .junk := onK_rf rfl rfl
theorem zm4 : Cx.rf 131 = some .junk := rfl
theorem zj1 {k q} : onK Cx 131 k q = q .junk := onK_rf rfl rfl
theorem zm5 : Cx.rf 132 = some .junk := rfl
theorem zj2 {k q} : onK Cx 132 k q = q .junk := onK_rf rfl rfl
theorem zm6 : Cx.rf 133 = some .junk := rfl
theorem zj3 {k q} : onK Cx 133 k q = q .junk := onK_rf rfl rfl
theorem zm7 : Cx.rf 134 = some .junk := rfl
theorem zj4 {k q} : onK Cx 134 k q = q .junk := onK_rf rfl rfl
theorem zm8 : Cx.rf 135 = some .junk := rfl
theorem zj5 {k q} : onK Cx 135 k q = q .junk := onK_rf rfl rfl
theorem zm9 : Cx.rf 136 = some .junk := rfl
theorem zj6 {k q} : onK Cx 136 k q = q .junk := onK_rf rfl rfl
theorem zma : Cx.rf 137 = some .junk := rfl
theorem zj7 {k q} : onK Cx 137 k q = q .junk := onK_rf rfl rfl
theorem zmb : Cx.rf 138 = some .junk := rfl
theorem zj8 {k q} : onK Cx 138 k q = q .junk := onK_rf rfl rfl
theorem zmc : Cx.rf 139 = some .junk := rfl
theorem zj9 {k q} : onK Cx 139 k q = q .junk := onK_rf rfl rfl
theorem zmd : Cx.rf 140 = some .nilp := rfl
theorem zja {k q} : onK Cx 140 k q = q .nilp := onK_rf rfl rfl
theorem zfg : Cx.rf 141 = some .nils := rfl
theorem zfe {k q} : onK Cx 141 k q = q .nils := onK_rf rfl rfl
theorem zgk : Cx.rf 142 = some .junk := rfl
theorem zg8 {k q} : onK Cx 142 k q = q .junk := onK_rf rfl rfl
theorem zme : Cx.rf 143 = some .junk := rfl
theorem zjb {k q} : onK Cx 143 k q = q .junk := onK_rf rfl rfl
theorem zgl : Cx.rf 144 = some .junk := rfl
theorem zg9 {k q} : onK Cx 144 k q = q .junk := onK_rf rfl rfl
theorem zgm : Cx.rf 146 = some .junk := rfl
theorem zga {k q} : onK Cx 146 k q = q .junk := onK_rf rfl rfl
theorem zgn : Cx.rf 147 = some .junk := rfl
theorem zgb {k q} : onK Cx 147 k q = q .junk := onK_rf rfl rfl
theorem zmf : Cx.rf 153 = some .junk := rfl
theorem zjc {k q} : onK Cx 153 k q = q .junk := onK_rf rfl rfl
theorem zmg : Cx.rf 157 = some .junk := rfl
theorem zjd {k q} : onK Cx 157 k q = q .junk := onK_rf rfl rfl
theorem zmh : Cx.rf 162 = some .junk := rfl
theorem zje {k q} : onK Cx 162 k q = q .junk := onK_rf rfl rfl
theorem zmi : Cx.rf 163 = some .junk := rfl
theorem zjf {k q} : onK Cx 163 k q = q .junk := onK_rf rfl rfl
theorem z0o {k q} : onK Cx 2 k q = k (.int .i64) := onK_ty rfl
theorem z0p {k q} : onK Cx 3 k q = k (.int .i64) := onK_ty rfl
theorem z0q {k q} : onK Cx 4 k q = k .bool := onK_ty rfl
theorem z0r {k q} : onK Cx 5 k q = k (.int .u8) := onK_ty rfl
theorem z0s {k q} : onK Cx 6 k q = k (.int .u8) := onK_ty rfl
theorem z6f {k q} : onK Cx 9 k q = k .str := onK_ty rfl
theorem z6h {k q} : onK Cx 10 k q = k .str := onK_ty rfl
theorem z6i {k q} : onK Cx 11 k q = k .str := onK_ty rfl
theorem z6l {k q} : onK Cx 12 k q = k (.int .u64) := onK_ty rfl
theorem z76 {k q} : onK Cx 21 k q = k (.int .i32) := onK_ty rfl
theorem z72 {k q} : onK Cx 32 k q = k (.int .i8) := onK_ty rfl
theorem z7u {k q} : onK Cx 33 k q = k (.arr 8 (.int .u8)) := onK_ty rfl
theorem z8r {k q} : onK Cx 34 k q = k (.arr 8 (.arr 8 (.int .u8))) := onK_ty rfl
theorem z8s {k q} : onK Cx 36 k q = k shPic := onK_ty rfl
theorem z8t {k q} : onK Cx 38 k q = k shPic := onK_ty rfl
theorem z7z {k q} : onK Cx 41 k q = k (.int .i16) := onK_ty rfl
theorem z86 {k q} : onK Cx 42 k q = k (.arr 8 (.int .i16)) := onK_ty rfl
theorem z8j {k q} : onK Cx 43 k q = k (.arr 8 (.arr 8 (.int .i16))) := onK_ty rfl
theorem z8n {k q} : onK Cx 44 k q = k (.arr 3 (.int .i16)) := onK_ty rfl
theorem z8c {k q} : onK Cx 45 k q = k (.arr 8 (.arr 3 (.int .i16))) := onK_ty rfl
theorem z8e {k q} : onK Cx 46 k q = k (.arr 8 (.arr 8 (.arr 3 (.int .i16)))) := onK_ty rfl
theorem z8o {k q} : onK Cx 48 k q = k shSheet := onK_ty rfl
theorem z89 {k q} : onK Cx 51 k q = k shSheet := onK_ty rfl
theorem z9c {k q} : onK Cx 55 k q = k shSpot := onK_ty rfl
theorem z6s {k q} : onK Cx 59 k q = k shSpot := onK_ty rfl
theorem zhl {k q} : onK Cx 127 k q = k (.int .u64) := onK_ty rfl
theorem zjg {k q} : onK Cx 154 k q = k (.int .u32) := onK_ty rfl
theorem zjh {k q} : onK Cx 155 k q = k (.int .u8) := onK_ty rfl
theorem zji {k q} : onK Cx 156 k q = k (.int .u8) := onK_ty rfl
theorem zjj {k q} : onK Cx 158 k q = k (.int .i32) := onK_ty rfl
theorem zjk {k q} : onK Cx 159 k q = k (.int .i32) := onK_ty rfl
theorem zjl {k q} : onK Cx 164 k q = k (.arr 8 (.arr 8 (.int .i16))) := onK_ty rfl
theorem cmp94 : Cx.mp 94 = true := rfl
theorem z7s : Cx.eq 33 = true := rfl
theorem z85 : Cx.eq 42 = true := rfl
theorem z8m : Cx.eq 44 = true := rfl
theorem z99 : Cx.eq 55 = true := rfl
theorem z6r : Cx.eq 59 = true := rfl
theorem cP : Cx.P = Try.prog := rfl
end Go.Proofs.Ytlfhpibbmgjgnaa
