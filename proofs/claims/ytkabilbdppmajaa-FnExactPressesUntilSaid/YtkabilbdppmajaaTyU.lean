/- The types of this translation, as the evaluator reads them: each entry is proved from the program's own table. No conditions. -/
import Derived.Test.YtkabilbdppmajaaChecked
import Derived.Test.YtkabilbdppmajaaInkGe
import Derived.KernelRfl
set_option linter.unusedVariables false
set_option linter.unusedSimpArgs false
namespace Go.Proofs.Ytkabilbdppmajaa
open Ink Go
set_option maxRecDepth 100000
theorem info_of {P : Program} {t : TypeId} {τ : Sh} (h1 : (P.info? t).map (fun i => (i.zero, i.size)) = some (some (enc τ τ.zero), τ.size)) (h2 : (P.info? t).map (fun i => decide (i.bytes ≤ 65536)) = some true) : InfoOk P t τ := by
  cases hi : P.info? t with
  | none => rw [hi] at h1; cases h1
  | some i =>
    rw [hi] at h1 h2
    simp only [Option.map_some, Option.some.injEq, Prod.mk.injEq, decide_eq_true_eq] at h1 h2
    exact ⟨i, hi, h1.2, h1.1, h2⟩
theorem ref_of {P : Program} {t : TypeId} {z : AV} {d : TypeDesc} {x : Value} (hdd : (match d with | .struct _ | .array _ _ => false | _ => true) = true) (hd : P.underlying t = some d) (h1 : (P.info? t).map (fun i => (i.zero, i.size)) = some (some x, 1)) (hx : x.oneCell' = true) (hr : ∀ ρ S w, Rv ρ S w z x) : RefOk P t z := by
  cases hi : P.info? t with
  | none => rw [hi] at h1; cases h1
  | some i =>
    rw [hi] at h1
    simp only [Option.map_some, Option.some.injEq, Prod.mk.injEq] at h1
    exact ⟨d, i, hd, hi, h1.2, ⟨x, h1.1, hx, hr⟩, hdd⟩
theorem ty2 : TyOk Try.prog (.int .i64 : Sh) 2 := by
  have h : InfoOk Try.prog 2 (.int .i64 : Sh) := info_of (by kernel_rfl) (by kernel_rfl)
  unfold TyOk; exact ⟨Try.underlying2, h⟩
theorem ty3 : TyOk Try.prog (.int .i64 : Sh) 3 := by
  have h : InfoOk Try.prog 3 (.int .i64 : Sh) := info_of (by kernel_rfl) (by kernel_rfl)
  unfold TyOk; exact ⟨Try.underlying3, h⟩
theorem ty4 : TyOk Try.prog (.bool : Sh) 4 := by
  have h : InfoOk Try.prog 4 (.bool : Sh) := info_of (by kernel_rfl) (by kernel_rfl)
  unfold TyOk; exact ⟨Try.underlying4, h⟩
theorem ty5 : TyOk Try.prog (.int .u8 : Sh) 5 := by
  have h : InfoOk Try.prog 5 (.int .u8 : Sh) := info_of (by kernel_rfl) (by kernel_rfl)
  unfold TyOk; exact ⟨Try.underlying5, h⟩
theorem ty6 : TyOk Try.prog (.int .u8 : Sh) 6 := by
  have h : InfoOk Try.prog 6 (.int .u8 : Sh) := info_of (by kernel_rfl) (by kernel_rfl)
  unfold TyOk; exact ⟨Try.underlying6, h⟩
theorem ty9 : TyOk Try.prog (.str : Sh) 9 := by
  have h : InfoOk Try.prog 9 (.str : Sh) := info_of (by kernel_rfl) (by kernel_rfl)
  unfold TyOk; exact ⟨Try.underlying9, h⟩
theorem ty10 : TyOk Try.prog (.str : Sh) 10 := by
  have h : InfoOk Try.prog 10 (.str : Sh) := info_of (by kernel_rfl) (by kernel_rfl)
  unfold TyOk; exact ⟨Try.underlying10, h⟩
theorem ty11 : TyOk Try.prog (.str : Sh) 11 := by
  have h : InfoOk Try.prog 11 (.str : Sh) := info_of (by kernel_rfl) (by kernel_rfl)
  unfold TyOk; exact ⟨Try.underlying11, h⟩
theorem ty12 : TyOk Try.prog (.int .u64 : Sh) 12 := by
  have h : InfoOk Try.prog 12 (.int .u64 : Sh) := info_of (by kernel_rfl) (by kernel_rfl)
  unfold TyOk; exact ⟨Try.underlying12, h⟩
theorem ty21 : TyOk Try.prog (.int .i32 : Sh) 21 := by
  have h : InfoOk Try.prog 21 (.int .i32 : Sh) := info_of (by kernel_rfl) (by kernel_rfl)
  unfold TyOk; exact ⟨Try.underlying21, h⟩
theorem ty22 : TyOk Try.prog (.int .i8 : Sh) 22 := by
  have h : InfoOk Try.prog 22 (.int .i8 : Sh) := info_of (by kernel_rfl) (by kernel_rfl)
  unfold TyOk; exact ⟨Try.underlying22, h⟩
theorem ty23 : TyOk Try.prog (.int .i16 : Sh) 23 := by
  have h : InfoOk Try.prog 23 (.int .i16 : Sh) := info_of (by kernel_rfl) (by kernel_rfl)
  unfold TyOk; exact ⟨Try.underlying23, h⟩
theorem ty24 : TyOk Try.prog (.arr 8 (.int .i16) : Sh) 24 := by
  have h : InfoOk Try.prog 24 (.arr 8 (.int .i16) : Sh) := info_of (by kernel_rfl) (by kernel_rfl)
  unfold TyOk; exact ⟨⟨23, Try.underlying24, ty23⟩, h⟩
theorem ty25 : TyOk Try.prog (.arr 8 (.arr 8 (.int .i16)) : Sh) 25 := by
  have h : InfoOk Try.prog 25 (.arr 8 (.arr 8 (.int .i16)) : Sh) := info_of (by kernel_rfl) (by kernel_rfl)
  unfold TyOk; exact ⟨⟨24, Try.underlying25, ty24⟩, h⟩
theorem ty26 : TyOk Try.prog (.arr 3 (.int .i16) : Sh) 26 := by
  have h : InfoOk Try.prog 26 (.arr 3 (.int .i16) : Sh) := info_of (by kernel_rfl) (by kernel_rfl)
  unfold TyOk; exact ⟨⟨23, Try.underlying26, ty23⟩, h⟩
theorem ty27 : TyOk Try.prog (.arr 8 (.arr 3 (.int .i16)) : Sh) 27 := by
  have h : InfoOk Try.prog 27 (.arr 8 (.arr 3 (.int .i16)) : Sh) := info_of (by kernel_rfl) (by kernel_rfl)
  unfold TyOk; exact ⟨⟨26, Try.underlying27, ty26⟩, h⟩
theorem ty28 : TyOk Try.prog (.arr 8 (.arr 8 (.arr 3 (.int .i16))) : Sh) 28 := by
  have h : InfoOk Try.prog 28 (.arr 8 (.arr 8 (.arr 3 (.int .i16))) : Sh) := info_of (by kernel_rfl) (by kernel_rfl)
  unfold TyOk; exact ⟨⟨27, Try.underlying28, ty27⟩, h⟩
theorem ty29 : TyOk Try.prog (.arr 8 (.int .u8) : Sh) 29 := by
  have h : InfoOk Try.prog 29 (.arr 8 (.int .u8) : Sh) := info_of (by kernel_rfl) (by kernel_rfl)
  unfold TyOk; exact ⟨⟨5, Try.underlying29, ty5⟩, h⟩
theorem ty31 : TyOk Try.prog shSheet 31 := by
  have h : InfoOk Try.prog 31 shSheet := info_of (by kernel_rfl) (by kernel_rfl)
  unfold shSheet at h ⊢; unfold TyOk; exact ⟨⟨_, _, _, Try.underlying31, rfl, rfl, by decide, ty22, ⟨rfl, by decide, ty22, ⟨rfl, by decide, ty25, ⟨rfl, by decide, ty28, ⟨rfl, by decide, ty29, trivial⟩⟩⟩⟩⟩, h⟩
theorem ty33 : TyOk Try.prog shBrush 33 := by
  have h : InfoOk Try.prog 33 shBrush := info_of (by kernel_rfl) (by kernel_rfl)
  unfold shBrush at h ⊢; unfold TyOk; exact ⟨⟨_, _, _, Try.underlying33, rfl, rfl, by decide, ty26, ⟨rfl, by decide, ty23, ⟨rfl, by decide, ty22, trivial⟩⟩⟩, h⟩
theorem ty35 : TyOk Try.prog shSpot 35 := by
  have h : InfoOk Try.prog 35 shSpot := info_of (by kernel_rfl) (by kernel_rfl)
  unfold shSpot at h ⊢; unfold TyOk; exact ⟨⟨_, _, _, Try.underlying35, rfl, rfl, by decide, ty22, ⟨rfl, by decide, ty22, trivial⟩⟩, h⟩
theorem ty36 : TyOk Try.prog shSheet 36 := by
  have h : InfoOk Try.prog 36 shSheet := info_of (by kernel_rfl) (by kernel_rfl)
  unfold shSheet at h ⊢; unfold TyOk; exact ⟨⟨_, _, _, Try.underlying36, rfl, rfl, by decide, ty22, ⟨rfl, by decide, ty22, ⟨rfl, by decide, ty25, ⟨rfl, by decide, ty28, ⟨rfl, by decide, ty29, trivial⟩⟩⟩⟩⟩, h⟩
theorem ty37 : TyOk Try.prog shBrush 37 := by
  have h : InfoOk Try.prog 37 shBrush := info_of (by kernel_rfl) (by kernel_rfl)
  unfold shBrush at h ⊢; unfold TyOk; exact ⟨⟨_, _, _, Try.underlying37, rfl, rfl, by decide, ty26, ⟨rfl, by decide, ty23, ⟨rfl, by decide, ty22, trivial⟩⟩⟩, h⟩
theorem ty42 : TyOk Try.prog shSpot 42 := by
  have h : InfoOk Try.prog 42 shSpot := info_of (by kernel_rfl) (by kernel_rfl)
  unfold shSpot at h ⊢; unfold TyOk; exact ⟨⟨_, _, _, Try.underlying42, rfl, rfl, by decide, ty22, ⟨rfl, by decide, ty22, trivial⟩⟩, h⟩
theorem ty48 : TyOk Try.prog shFold 48 := by
  have h : InfoOk Try.prog 48 shFold := info_of (by kernel_rfl) (by kernel_rfl)
  unfold shFold at h ⊢; unfold TyOk; exact ⟨⟨_, _, _, Try.underlying48, rfl, rfl, by decide, ty22, ⟨rfl, by decide, ty4, ⟨rfl, by decide, ty22, trivial⟩⟩⟩, h⟩
theorem ty51 : TyOk Try.prog shFold 51 := by
  have h : InfoOk Try.prog 51 shFold := info_of (by kernel_rfl) (by kernel_rfl)
  unfold shFold at h ⊢; unfold TyOk; exact ⟨⟨_, _, _, Try.underlying51, rfl, rfl, by decide, ty22, ⟨rfl, by decide, ty4, ⟨rfl, by decide, ty22, trivial⟩⟩⟩, h⟩
theorem ty57 : TyOk Try.prog (.arr 3 (.int .i64) : Sh) 57 := by
  have h : InfoOk Try.prog 57 (.arr 3 (.int .i64) : Sh) := info_of (by kernel_rfl) (by kernel_rfl)
  unfold TyOk; exact ⟨⟨2, Try.underlying57, ty2⟩, h⟩
theorem ty69 : TyOk Try.prog (.arr 8 (.arr 8 (.int .u8)) : Sh) 69 := by
  have h : InfoOk Try.prog 69 (.arr 8 (.arr 8 (.int .u8)) : Sh) := info_of (by kernel_rfl) (by kernel_rfl)
  unfold TyOk; exact ⟨⟨29, Try.underlying69, ty29⟩, h⟩
theorem ty71 : TyOk Try.prog shPic 71 := by
  have h : InfoOk Try.prog 71 shPic := info_of (by kernel_rfl) (by kernel_rfl)
  unfold shPic at h ⊢; unfold TyOk; exact ⟨⟨_, _, _, Try.underlying71, rfl, rfl, by decide, ty22, ⟨rfl, by decide, ty22, ⟨rfl, by decide, ty69, trivial⟩⟩⟩, h⟩
theorem ty73 : TyOk Try.prog shPic 73 := by
  have h : InfoOk Try.prog 73 shPic := info_of (by kernel_rfl) (by kernel_rfl)
  unfold shPic at h ⊢; unfold TyOk; exact ⟨⟨_, _, _, Try.underlying73, rfl, rfl, by decide, ty22, ⟨rfl, by decide, ty22, ⟨rfl, by decide, ty69, trivial⟩⟩⟩, h⟩
theorem ty103 : TyOk Try.prog (.arr 2 shSpot : Sh) 103 := by
  have h : InfoOk Try.prog 103 (.arr 2 shSpot : Sh) := info_of (by kernel_rfl) (by kernel_rfl)
  unfold TyOk; exact ⟨⟨42, Try.underlying103, ty42⟩, h⟩
theorem ty193 : TyOk Try.prog (.int .u64 : Sh) 193 := by
  have h : InfoOk Try.prog 193 (.int .u64 : Sh) := info_of (by kernel_rfl) (by kernel_rfl)
  unfold TyOk; exact ⟨Try.underlying193, h⟩
theorem ty218 : TyOk Try.prog (.int .u32 : Sh) 218 := by
  have h : InfoOk Try.prog 218 (.int .u32 : Sh) := info_of (by kernel_rfl) (by kernel_rfl)
  unfold TyOk; exact ⟨Try.underlying218, h⟩
theorem ty219 : TyOk Try.prog (.int .u8 : Sh) 219 := by
  have h : InfoOk Try.prog 219 (.int .u8 : Sh) := info_of (by kernel_rfl) (by kernel_rfl)
  unfold TyOk; exact ⟨Try.underlying219, h⟩
theorem ty220 : TyOk Try.prog (.int .u8 : Sh) 220 := by
  have h : InfoOk Try.prog 220 (.int .u8 : Sh) := info_of (by kernel_rfl) (by kernel_rfl)
  unfold TyOk; exact ⟨Try.underlying220, h⟩
theorem ty222 : TyOk Try.prog (.int .i32 : Sh) 222 := by
  have h : InfoOk Try.prog 222 (.int .i32 : Sh) := info_of (by kernel_rfl) (by kernel_rfl)
  unfold TyOk; exact ⟨Try.underlying222, h⟩
theorem ty223 : TyOk Try.prog (.int .i32 : Sh) 223 := by
  have h : InfoOk Try.prog 223 (.int .i32 : Sh) := info_of (by kernel_rfl) (by kernel_rfl)
  unfold TyOk; exact ⟨Try.underlying223, h⟩
theorem ty229 : TyOk Try.prog (.arr 8 (.arr 8 (.int .i16)) : Sh) 229 := by
  have h : InfoOk Try.prog 229 (.arr 8 (.arr 8 (.int .i16)) : Sh) := info_of (by kernel_rfl) (by kernel_rfl)
  unfold TyOk; exact ⟨⟨24, Try.underlying229, ty24⟩, h⟩
theorem rf1 : RefOk Try.prog 1 (.junk : AV) := ref_of (x := .nilFunc) rfl Try.underlying1 (by kernel_rfl) rfl (fun _ _ _ => trivial)
theorem rf15 : RefOk Try.prog 15 (.nilp : AV) := ref_of (x := .pointer none) rfl Try.underlying15 (by kernel_rfl) rfl (fun _ _ _ => rfl)
theorem rf16 : RefOk Try.prog 16 (.nilp : AV) := ref_of (x := .pointer none) rfl Try.underlying16 (by kernel_rfl) rfl (fun _ _ _ => rfl)
theorem rf17 : RefOk Try.prog 17 (.nilp : AV) := ref_of (x := .pointer none) rfl Try.underlying17 (by kernel_rfl) rfl (fun _ _ _ => rfl)
theorem rf39 : RefOk Try.prog 39 (.junk : AV) := ref_of (x := .nilFunc) rfl Try.underlying39 (by kernel_rfl) rfl (fun _ _ _ => trivial)
theorem rf40 : RefOk Try.prog 40 (.junk : AV) := ref_of (x := .nilFunc) rfl Try.underlying40 (by kernel_rfl) rfl (fun _ _ _ => trivial)
theorem rf41 : RefOk Try.prog 41 (.junk : AV) := ref_of (x := .nilFunc) rfl Try.underlying41 (by kernel_rfl) rfl (fun _ _ _ => trivial)
theorem rf43 : RefOk Try.prog 43 (.junk : AV) := ref_of (x := .nilFunc) rfl Try.underlying43 (by kernel_rfl) rfl (fun _ _ _ => trivial)
theorem rf44 : RefOk Try.prog 44 (.junk : AV) := ref_of (x := .nilFunc) rfl Try.underlying44 (by kernel_rfl) rfl (fun _ _ _ => trivial)
theorem rf45 : RefOk Try.prog 45 (.junk : AV) := ref_of (x := .nilFunc) rfl Try.underlying45 (by kernel_rfl) rfl (fun _ _ _ => trivial)
theorem rf46 : RefOk Try.prog 46 (.junk : AV) := ref_of (x := .nilFunc) rfl Try.underlying46 (by kernel_rfl) rfl (fun _ _ _ => trivial)
theorem rf50 : RefOk Try.prog 50 (.junk : AV) := ref_of (x := .nilFunc) rfl Try.underlying50 (by kernel_rfl) rfl (fun _ _ _ => trivial)
theorem rf52 : RefOk Try.prog 52 (.junk : AV) := ref_of (x := .nilFunc) rfl Try.underlying52 (by kernel_rfl) rfl (fun _ _ _ => trivial)
theorem rf53 : RefOk Try.prog 53 (.junk : AV) := ref_of (x := .nilFunc) rfl Try.underlying53 (by kernel_rfl) rfl (fun _ _ _ => trivial)
theorem rf55 : RefOk Try.prog 55 (.junk : AV) := ref_of (x := .nilFunc) rfl Try.underlying55 (by kernel_rfl) rfl (fun _ _ _ => trivial)
theorem rf56 : RefOk Try.prog 56 (.junk : AV) := ref_of (x := .nilFunc) rfl Try.underlying56 (by kernel_rfl) rfl (fun _ _ _ => trivial)
theorem rf59 : RefOk Try.prog 59 (.junk : AV) := ref_of (x := .nilFunc) rfl Try.underlying59 (by kernel_rfl) rfl (fun _ _ _ => trivial)
theorem rf60 : RefOk Try.prog 60 (.junk : AV) := ref_of (x := .nilFunc) rfl Try.underlying60 (by kernel_rfl) rfl (fun _ _ _ => trivial)
theorem rf61 : RefOk Try.prog 61 (.junk : AV) := ref_of (x := .nilFunc) rfl Try.underlying61 (by kernel_rfl) rfl (fun _ _ _ => trivial)
theorem rf62 : RefOk Try.prog 62 (.nils : AV) := ref_of (x := .slice none 0 0) rfl Try.underlying62 (by kernel_rfl) rfl (fun _ _ _ => rfl)
theorem rf63 : RefOk Try.prog 63 (.junk : AV) := ref_of (x := .nilFunc) rfl Try.underlying63 (by kernel_rfl) rfl (fun _ _ _ => trivial)
theorem rf64 : RefOk Try.prog 64 (.junk : AV) := ref_of (x := .nilFunc) rfl Try.underlying64 (by kernel_rfl) rfl (fun _ _ _ => trivial)
theorem rf65 : RefOk Try.prog 65 (.nils : AV) := ref_of (x := .slice none 0 0) rfl Try.underlying65 (by kernel_rfl) rfl (fun _ _ _ => rfl)
theorem rf66 : RefOk Try.prog 66 (.junk : AV) := ref_of (x := .nilFunc) rfl Try.underlying66 (by kernel_rfl) rfl (fun _ _ _ => trivial)
theorem rf67 : RefOk Try.prog 67 (.junk : AV) := ref_of (x := .nilFunc) rfl Try.underlying67 (by kernel_rfl) rfl (fun _ _ _ => trivial)
theorem rf68 : RefOk Try.prog 68 (.junk : AV) := ref_of (x := .nilFunc) rfl Try.underlying68 (by kernel_rfl) rfl (fun _ _ _ => trivial)
theorem rf72 : RefOk Try.prog 72 (.junk : AV) := ref_of (x := .nilFunc) rfl Try.underlying72 (by kernel_rfl) rfl (fun _ _ _ => trivial)
theorem rf74 : RefOk Try.prog 74 (.junk : AV) := ref_of (x := .nilFunc) rfl Try.underlying74 (by kernel_rfl) rfl (fun _ _ _ => trivial)
theorem rf75 : RefOk Try.prog 75 (.junk : AV) := ref_of (x := .nilFunc) rfl Try.underlying75 (by kernel_rfl) rfl (fun _ _ _ => trivial)
theorem rf77 : RefOk Try.prog 77 (.junk : AV) := ref_of (x := .nilFunc) rfl Try.underlying77 (by kernel_rfl) rfl (fun _ _ _ => trivial)
theorem rf78 : RefOk Try.prog 78 (.junk : AV) := ref_of (x := .nilFunc) rfl Try.underlying78 (by kernel_rfl) rfl (fun _ _ _ => trivial)
theorem rf80 : RefOk Try.prog 80 (.junk : AV) := ref_of (x := .nilFunc) rfl Try.underlying80 (by kernel_rfl) rfl (fun _ _ _ => trivial)
theorem rf81 : RefOk Try.prog 81 (.junk : AV) := ref_of (x := .nilFunc) rfl Try.underlying81 (by kernel_rfl) rfl (fun _ _ _ => trivial)
theorem rf82 : RefOk Try.prog 82 (.junk : AV) := ref_of (x := .nilFunc) rfl Try.underlying82 (by kernel_rfl) rfl (fun _ _ _ => trivial)
theorem rf83 : RefOk Try.prog 83 (.junk : AV) := ref_of (x := .nilFunc) rfl Try.underlying83 (by kernel_rfl) rfl (fun _ _ _ => trivial)
theorem rf84 : RefOk Try.prog 84 (.nilp : AV) := ref_of (x := .pointer none) rfl Try.underlying84 (by kernel_rfl) rfl (fun _ _ _ => rfl)
theorem rf85 : RefOk Try.prog 85 (.nilp : AV) := ref_of (x := .pointer none) rfl Try.underlying85 (by kernel_rfl) rfl (fun _ _ _ => rfl)
theorem rf86 : RefOk Try.prog 86 (.junk : AV) := ref_of (x := .nilFunc) rfl Try.underlying86 (by kernel_rfl) rfl (fun _ _ _ => trivial)
theorem rf87 : RefOk Try.prog 87 (.junk : AV) := ref_of (x := .nilFunc) rfl Try.underlying87 (by kernel_rfl) rfl (fun _ _ _ => trivial)
theorem rf88 : RefOk Try.prog 88 (.junk : AV) := ref_of (x := .nilFunc) rfl Try.underlying88 (by kernel_rfl) rfl (fun _ _ _ => trivial)
theorem rf89 : RefOk Try.prog 89 (.junk : AV) := ref_of (x := .nilFunc) rfl Try.underlying89 (by kernel_rfl) rfl (fun _ _ _ => trivial)
theorem rf90 : RefOk Try.prog 90 (.junk : AV) := ref_of (x := .nilFunc) rfl Try.underlying90 (by kernel_rfl) rfl (fun _ _ _ => trivial)
theorem rf91 : RefOk Try.prog 91 (.junk : AV) := ref_of (x := .nilFunc) rfl Try.underlying91 (by kernel_rfl) rfl (fun _ _ _ => trivial)
theorem rf92 : RefOk Try.prog 92 (.junk : AV) := ref_of (x := .nilFunc) rfl Try.underlying92 (by kernel_rfl) rfl (fun _ _ _ => trivial)
theorem rf93 : RefOk Try.prog 93 (.junk : AV) := ref_of (x := .nilFunc) rfl Try.underlying93 (by kernel_rfl) rfl (fun _ _ _ => trivial)
theorem rf94 : RefOk Try.prog 94 (.junk : AV) := ref_of (x := .nilFunc) rfl Try.underlying94 (by kernel_rfl) rfl (fun _ _ _ => trivial)
theorem rf95 : RefOk Try.prog 95 (.junk : AV) := ref_of (x := .nilFunc) rfl Try.underlying95 (by kernel_rfl) rfl (fun _ _ _ => trivial)
theorem rf96 : RefOk Try.prog 96 (.junk : AV) := ref_of (x := .nilFunc) rfl Try.underlying96 (by kernel_rfl) rfl (fun _ _ _ => trivial)
theorem rf97 : RefOk Try.prog 97 (.junk : AV) := ref_of (x := .nilFunc) rfl Try.underlying97 (by kernel_rfl) rfl (fun _ _ _ => trivial)
theorem rf98 : RefOk Try.prog 98 (.junk : AV) := ref_of (x := .nilFunc) rfl Try.underlying98 (by kernel_rfl) rfl (fun _ _ _ => trivial)
theorem rf99 : RefOk Try.prog 99 (.junk : AV) := ref_of (x := .nilFunc) rfl Try.underlying99 (by kernel_rfl) rfl (fun _ _ _ => trivial)
theorem rf100 : RefOk Try.prog 100 (.junk : AV) := ref_of (x := .nilFunc) rfl Try.underlying100 (by kernel_rfl) rfl (fun _ _ _ => trivial)
theorem rf101 : RefOk Try.prog 101 (.junk : AV) := ref_of (x := .nilFunc) rfl Try.underlying101 (by kernel_rfl) rfl (fun _ _ _ => trivial)
theorem rf102 : RefOk Try.prog 102 (.nils : AV) := ref_of (x := .slice none 0 0) rfl Try.underlying102 (by kernel_rfl) rfl (fun _ _ _ => rfl)
theorem rf104 : RefOk Try.prog 104 (.junk : AV) := ref_of (x := .nilFunc) rfl Try.underlying104 (by kernel_rfl) rfl (fun _ _ _ => trivial)
theorem rf105 : RefOk Try.prog 105 (.junk : AV) := ref_of (x := .nilFunc) rfl Try.underlying105 (by kernel_rfl) rfl (fun _ _ _ => trivial)
theorem rf106 : RefOk Try.prog 106 (.junk : AV) := ref_of (x := .nilFunc) rfl Try.underlying106 (by kernel_rfl) rfl (fun _ _ _ => trivial)
theorem rf107 : RefOk Try.prog 107 (.junk : AV) := ref_of (x := .nilFunc) rfl Try.underlying107 (by kernel_rfl) rfl (fun _ _ _ => trivial)
theorem rf108 : RefOk Try.prog 108 (.junk : AV) := ref_of (x := .nilFunc) rfl Try.underlying108 (by kernel_rfl) rfl (fun _ _ _ => trivial)
theorem rf109 : RefOk Try.prog 109 (.junk : AV) := ref_of (x := .nilFunc) rfl Try.underlying109 (by kernel_rfl) rfl (fun _ _ _ => trivial)
theorem rf110 : RefOk Try.prog 110 (.junk : AV) := ref_of (x := .nilFunc) rfl Try.underlying110 (by kernel_rfl) rfl (fun _ _ _ => trivial)
theorem rf111 : RefOk Try.prog 111 (.junk : AV) := ref_of (x := .nilFunc) rfl Try.underlying111 (by kernel_rfl) rfl (fun _ _ _ => trivial)
theorem rf112 : RefOk Try.prog 112 (.junk : AV) := ref_of (x := .nilFunc) rfl Try.underlying112 (by kernel_rfl) rfl (fun _ _ _ => trivial)
theorem rf113 : RefOk Try.prog 113 (.junk : AV) := ref_of (x := .nilFunc) rfl Try.underlying113 (by kernel_rfl) rfl (fun _ _ _ => trivial)
theorem rf114 : RefOk Try.prog 114 (.junk : AV) := ref_of (x := .nilFunc) rfl Try.underlying114 (by kernel_rfl) rfl (fun _ _ _ => trivial)
theorem rf115 : RefOk Try.prog 115 (.junk : AV) := ref_of (x := .nilFunc) rfl Try.underlying115 (by kernel_rfl) rfl (fun _ _ _ => trivial)
theorem rf116 : RefOk Try.prog 116 (.junk : AV) := ref_of (x := .nilFunc) rfl Try.underlying116 (by kernel_rfl) rfl (fun _ _ _ => trivial)
theorem rf117 : RefOk Try.prog 117 (.nilp : AV) := ref_of (x := .pointer none) rfl Try.underlying117 (by kernel_rfl) rfl (fun _ _ _ => rfl)
theorem rf118 : RefOk Try.prog 118 (.junk : AV) := ref_of (x := .nilFunc) rfl Try.underlying118 (by kernel_rfl) rfl (fun _ _ _ => trivial)
theorem rf119 : RefOk Try.prog 119 (.junk : AV) := ref_of (x := .nilFunc) rfl Try.underlying119 (by kernel_rfl) rfl (fun _ _ _ => trivial)
theorem rf121 : RefOk Try.prog 121 (.junk : AV) := ref_of (x := .nilFunc) rfl Try.underlying121 (by kernel_rfl) rfl (fun _ _ _ => trivial)
theorem rf122 : RefOk Try.prog 122 (.junk : AV) := ref_of (x := .nilFunc) rfl Try.underlying122 (by kernel_rfl) rfl (fun _ _ _ => trivial)
theorem rf123 : RefOk Try.prog 123 (.junk : AV) := ref_of (x := .nilFunc) rfl Try.underlying123 (by kernel_rfl) rfl (fun _ _ _ => trivial)
theorem rf124 : RefOk Try.prog 124 (.junk : AV) := ref_of (x := .nilFunc) rfl Try.underlying124 (by kernel_rfl) rfl (fun _ _ _ => trivial)
theorem rf125 : RefOk Try.prog 125 (.junk : AV) := ref_of (x := .nilFunc) rfl Try.underlying125 (by kernel_rfl) rfl (fun _ _ _ => trivial)
theorem rf126 : RefOk Try.prog 126 (.junk : AV) := ref_of (x := .nilFunc) rfl Try.underlying126 (by kernel_rfl) rfl (fun _ _ _ => trivial)
theorem rf127 : RefOk Try.prog 127 (.junk : AV) := ref_of (x := .nilFunc) rfl Try.underlying127 (by kernel_rfl) rfl (fun _ _ _ => trivial)
theorem rf128 : RefOk Try.prog 128 (.junk : AV) := ref_of (x := .nilFunc) rfl Try.underlying128 (by kernel_rfl) rfl (fun _ _ _ => trivial)
theorem rf129 : RefOk Try.prog 129 (.nilp : AV) := ref_of (x := .pointer none) rfl Try.underlying129 (by kernel_rfl) rfl (fun _ _ _ => rfl)
theorem rf130 : RefOk Try.prog 130 (.junk : AV) := ref_of (x := .nilFunc) rfl Try.underlying130 (by kernel_rfl) rfl (fun _ _ _ => trivial)
theorem rf131 : RefOk Try.prog 131 (.junk : AV) := ref_of (x := .nilFunc) rfl Try.underlying131 (by kernel_rfl) rfl (fun _ _ _ => trivial)
theorem rf132 : RefOk Try.prog 132 (.junk : AV) := ref_of (x := .nilFunc) rfl Try.underlying132 (by kernel_rfl) rfl (fun _ _ _ => trivial)
theorem rf133 : RefOk Try.prog 133 (.junk : AV) := ref_of (x := .nilFunc) rfl Try.underlying133 (by kernel_rfl) rfl (fun _ _ _ => trivial)
theorem rf134 : RefOk Try.prog 134 (.junk : AV) := ref_of (x := .nilFunc) rfl Try.underlying134 (by kernel_rfl) rfl (fun _ _ _ => trivial)
theorem rf135 : RefOk Try.prog 135 (.junk : AV) := ref_of (x := .nilFunc) rfl Try.underlying135 (by kernel_rfl) rfl (fun _ _ _ => trivial)
theorem rf136 : RefOk Try.prog 136 (.junk : AV) := ref_of (x := .nilFunc) rfl Try.underlying136 (by kernel_rfl) rfl (fun _ _ _ => trivial)
theorem rf137 : RefOk Try.prog 137 (.junk : AV) := ref_of (x := .nilFunc) rfl Try.underlying137 (by kernel_rfl) rfl (fun _ _ _ => trivial)
theorem rf138 : RefOk Try.prog 138 (.junk : AV) := ref_of (x := .nilFunc) rfl Try.underlying138 (by kernel_rfl) rfl (fun _ _ _ => trivial)
theorem rf139 : RefOk Try.prog 139 (.junk : AV) := ref_of (x := .nilFunc) rfl Try.underlying139 (by kernel_rfl) rfl (fun _ _ _ => trivial)
theorem rf140 : RefOk Try.prog 140 (.junk : AV) := ref_of (x := .nilFunc) rfl Try.underlying140 (by kernel_rfl) rfl (fun _ _ _ => trivial)
theorem rf141 : RefOk Try.prog 141 (.junk : AV) := ref_of (x := .nilFunc) rfl Try.underlying141 (by kernel_rfl) rfl (fun _ _ _ => trivial)
theorem rf143 : RefOk Try.prog 143 (.junk : AV) := ref_of (x := .nilFunc) rfl Try.underlying143 (by kernel_rfl) rfl (fun _ _ _ => trivial)
theorem rf145 : RefOk Try.prog 145 (.junk : AV) := ref_of (x := .nilFunc) rfl Try.underlying145 (by kernel_rfl) rfl (fun _ _ _ => trivial)
theorem rf146 : RefOk Try.prog 146 (.junk : AV) := ref_of (x := .nilFunc) rfl Try.underlying146 (by kernel_rfl) rfl (fun _ _ _ => trivial)
theorem rf147 : RefOk Try.prog 147 (.junk : AV) := ref_of (x := .nilFunc) rfl Try.underlying147 (by kernel_rfl) rfl (fun _ _ _ => trivial)
theorem rf148 : RefOk Try.prog 148 (.junk : AV) := ref_of (x := .nilFunc) rfl Try.underlying148 (by kernel_rfl) rfl (fun _ _ _ => trivial)
theorem rf150 : RefOk Try.prog 150 (.junk : AV) := ref_of (x := .nilFunc) rfl Try.underlying150 (by kernel_rfl) rfl (fun _ _ _ => trivial)
theorem rf151 : RefOk Try.prog 151 (.junk : AV) := ref_of (x := .nilFunc) rfl Try.underlying151 (by kernel_rfl) rfl (fun _ _ _ => trivial)
theorem rf152 : RefOk Try.prog 152 (.junk : AV) := ref_of (x := .nilFunc) rfl Try.underlying152 (by kernel_rfl) rfl (fun _ _ _ => trivial)
theorem rf153 : RefOk Try.prog 153 (.junk : AV) := ref_of (x := .nilFunc) rfl Try.underlying153 (by kernel_rfl) rfl (fun _ _ _ => trivial)
theorem rf154 : RefOk Try.prog 154 (.junk : AV) := ref_of (x := .nilFunc) rfl Try.underlying154 (by kernel_rfl) rfl (fun _ _ _ => trivial)
theorem rf156 : RefOk Try.prog 156 (.junk : AV) := ref_of (x := .nilFunc) rfl Try.underlying156 (by kernel_rfl) rfl (fun _ _ _ => trivial)
theorem rf157 : RefOk Try.prog 157 (.junk : AV) := ref_of (x := .nilFunc) rfl Try.underlying157 (by kernel_rfl) rfl (fun _ _ _ => trivial)
theorem rf158 : RefOk Try.prog 158 (.junk : AV) := ref_of (x := .nilFunc) rfl Try.underlying158 (by kernel_rfl) rfl (fun _ _ _ => trivial)
theorem rf159 : RefOk Try.prog 159 (.junk : AV) := ref_of (x := .nilFunc) rfl Try.underlying159 (by kernel_rfl) rfl (fun _ _ _ => trivial)
theorem rf160 : RefOk Try.prog 160 (.junk : AV) := ref_of (x := .nilFunc) rfl Try.underlying160 (by kernel_rfl) rfl (fun _ _ _ => trivial)
theorem rf161 : RefOk Try.prog 161 (.junk : AV) := ref_of (x := .nilFunc) rfl Try.underlying161 (by kernel_rfl) rfl (fun _ _ _ => trivial)
theorem rf162 : RefOk Try.prog 162 (.junk : AV) := ref_of (x := .nilFunc) rfl Try.underlying162 (by kernel_rfl) rfl (fun _ _ _ => trivial)
theorem rf163 : RefOk Try.prog 163 (.junk : AV) := ref_of (x := .nilFunc) rfl Try.underlying163 (by kernel_rfl) rfl (fun _ _ _ => trivial)
theorem rf164 : RefOk Try.prog 164 (.junk : AV) := ref_of (x := .nilFunc) rfl Try.underlying164 (by kernel_rfl) rfl (fun _ _ _ => trivial)
theorem rf165 : RefOk Try.prog 165 (.junk : AV) := ref_of (x := .nilFunc) rfl Try.underlying165 (by kernel_rfl) rfl (fun _ _ _ => trivial)
theorem rf166 : RefOk Try.prog 166 (.junk : AV) := ref_of (x := .nilFunc) rfl Try.underlying166 (by kernel_rfl) rfl (fun _ _ _ => trivial)
theorem rf167 : RefOk Try.prog 167 (.junk : AV) := ref_of (x := .nilFunc) rfl Try.underlying167 (by kernel_rfl) rfl (fun _ _ _ => trivial)
theorem rf168 : RefOk Try.prog 168 (.junk : AV) := ref_of (x := .nilFunc) rfl Try.underlying168 (by kernel_rfl) rfl (fun _ _ _ => trivial)
theorem rf169 : RefOk Try.prog 169 (.junk : AV) := ref_of (x := .nilFunc) rfl Try.underlying169 (by kernel_rfl) rfl (fun _ _ _ => trivial)
theorem rf170 : RefOk Try.prog 170 (.nilp : AV) := ref_of (x := .pointer none) rfl Try.underlying170 (by kernel_rfl) rfl (fun _ _ _ => rfl)
theorem rf171 : RefOk Try.prog 171 (.junk : AV) := ref_of (x := .nilFunc) rfl Try.underlying171 (by kernel_rfl) rfl (fun _ _ _ => trivial)
theorem rf172 : RefOk Try.prog 172 (.junk : AV) := ref_of (x := .nilFunc) rfl Try.underlying172 (by kernel_rfl) rfl (fun _ _ _ => trivial)
theorem rf173 : RefOk Try.prog 173 (.junk : AV) := ref_of (x := .nilFunc) rfl Try.underlying173 (by kernel_rfl) rfl (fun _ _ _ => trivial)
theorem rf175 : RefOk Try.prog 175 (.junk : AV) := ref_of (x := .nilFunc) rfl Try.underlying175 (by kernel_rfl) rfl (fun _ _ _ => trivial)
theorem rf176 : RefOk Try.prog 176 (.junk : AV) := ref_of (x := .nilFunc) rfl Try.underlying176 (by kernel_rfl) rfl (fun _ _ _ => trivial)
theorem rf177 : RefOk Try.prog 177 (.junk : AV) := ref_of (x := .nilFunc) rfl Try.underlying177 (by kernel_rfl) rfl (fun _ _ _ => trivial)
theorem rf178 : RefOk Try.prog 178 (.junk : AV) := ref_of (x := .nilFunc) rfl Try.underlying178 (by kernel_rfl) rfl (fun _ _ _ => trivial)
theorem rf179 : RefOk Try.prog 179 (.junk : AV) := ref_of (x := .nilFunc) rfl Try.underlying179 (by kernel_rfl) rfl (fun _ _ _ => trivial)
theorem rf180 : RefOk Try.prog 180 (.junk : AV) := ref_of (x := .nilFunc) rfl Try.underlying180 (by kernel_rfl) rfl (fun _ _ _ => trivial)
theorem rf181 : RefOk Try.prog 181 (.junk : AV) := ref_of (x := .nilFunc) rfl Try.underlying181 (by kernel_rfl) rfl (fun _ _ _ => trivial)
theorem rf182 : RefOk Try.prog 182 (.junk : AV) := ref_of (x := .nilFunc) rfl Try.underlying182 (by kernel_rfl) rfl (fun _ _ _ => trivial)
theorem rf183 : RefOk Try.prog 183 (.nilp : AV) := ref_of (x := .pointer none) rfl Try.underlying183 (by kernel_rfl) rfl (fun _ _ _ => rfl)
theorem rf184 : RefOk Try.prog 184 (.nils : AV) := ref_of (x := .slice none 0 0) rfl Try.underlying184 (by kernel_rfl) rfl (fun _ _ _ => rfl)
theorem rf187 : RefOk Try.prog 187 (.nils : AV) := ref_of (x := .slice none 0 0) rfl Try.underlying187 (by kernel_rfl) rfl (fun _ _ _ => rfl)
theorem rf191 : RefOk Try.prog 191 (.junk : AV) := ref_of (x := .nilFunc) rfl Try.underlying191 (by kernel_rfl) rfl (fun _ _ _ => trivial)
theorem rf192 : RefOk Try.prog 192 (.junk : AV) := ref_of (x := .nilFunc) rfl Try.underlying192 (by kernel_rfl) rfl (fun _ _ _ => trivial)
theorem rf194 : RefOk Try.prog 194 (.junk : AV) := ref_of (x := .nilFunc) rfl Try.underlying194 (by kernel_rfl) rfl (fun _ _ _ => trivial)
theorem rf195 : RefOk Try.prog 195 (.junk : AV) := ref_of (x := .nilFunc) rfl Try.underlying195 (by kernel_rfl) rfl (fun _ _ _ => trivial)
theorem rf196 : RefOk Try.prog 196 (.junk : AV) := ref_of (x := .nilFunc) rfl Try.underlying196 (by kernel_rfl) rfl (fun _ _ _ => trivial)
theorem rf197 : RefOk Try.prog 197 (.junk : AV) := ref_of (x := .nilFunc) rfl Try.underlying197 (by kernel_rfl) rfl (fun _ _ _ => trivial)
theorem rf198 : RefOk Try.prog 198 (.junk : AV) := ref_of (x := .nilFunc) rfl Try.underlying198 (by kernel_rfl) rfl (fun _ _ _ => trivial)
theorem rf199 : RefOk Try.prog 199 (.junk : AV) := ref_of (x := .nilFunc) rfl Try.underlying199 (by kernel_rfl) rfl (fun _ _ _ => trivial)
theorem rf200 : RefOk Try.prog 200 (.junk : AV) := ref_of (x := .nilFunc) rfl Try.underlying200 (by kernel_rfl) rfl (fun _ _ _ => trivial)
theorem rf201 : RefOk Try.prog 201 (.junk : AV) := ref_of (x := .nilFunc) rfl Try.underlying201 (by kernel_rfl) rfl (fun _ _ _ => trivial)
theorem rf202 : RefOk Try.prog 202 (.junk : AV) := ref_of (x := .nilFunc) rfl Try.underlying202 (by kernel_rfl) rfl (fun _ _ _ => trivial)
theorem rf203 : RefOk Try.prog 203 (.junk : AV) := ref_of (x := .nilFunc) rfl Try.underlying203 (by kernel_rfl) rfl (fun _ _ _ => trivial)
theorem rf204 : RefOk Try.prog 204 (.nilp : AV) := ref_of (x := .pointer none) rfl Try.underlying204 (by kernel_rfl) rfl (fun _ _ _ => rfl)
theorem rf205 : RefOk Try.prog 205 (.nils : AV) := ref_of (x := .slice none 0 0) rfl Try.underlying205 (by kernel_rfl) rfl (fun _ _ _ => rfl)
theorem rf206 : RefOk Try.prog 206 (.junk : AV) := ref_of (x := .nilFunc) rfl Try.underlying206 (by kernel_rfl) rfl (fun _ _ _ => trivial)
theorem rf207 : RefOk Try.prog 207 (.junk : AV) := ref_of (x := .nilFunc) rfl Try.underlying207 (by kernel_rfl) rfl (fun _ _ _ => trivial)
theorem rf209 : RefOk Try.prog 209 (.junk : AV) := ref_of (x := .nilFunc) rfl Try.underlying209 (by kernel_rfl) rfl (fun _ _ _ => trivial)
theorem rf210 : RefOk Try.prog 210 (.junk : AV) := ref_of (x := .nilFunc) rfl Try.underlying210 (by kernel_rfl) rfl (fun _ _ _ => trivial)
theorem rf211 : RefOk Try.prog 211 (.junk : AV) := ref_of (x := .nilFunc) rfl Try.underlying211 (by kernel_rfl) rfl (fun _ _ _ => trivial)
theorem rf217 : RefOk Try.prog 217 (.junk : AV) := ref_of (x := .nilFunc) rfl Try.underlying217 (by kernel_rfl) rfl (fun _ _ _ => trivial)
theorem rf221 : RefOk Try.prog 221 (.junk : AV) := ref_of (x := .nilFunc) rfl Try.underlying221 (by kernel_rfl) rfl (fun _ _ _ => trivial)
theorem rf226 : RefOk Try.prog 226 (.junk : AV) := ref_of (x := .nilFunc) rfl Try.underlying226 (by kernel_rfl) rfl (fun _ _ _ => trivial)
theorem rf227 : RefOk Try.prog 227 (.junk : AV) := ref_of (x := .nilFunc) rfl Try.underlying227 (by kernel_rfl) rfl (fun _ _ _ => trivial)
theorem rf228 : RefOk Try.prog 228 (.junk : AV) := ref_of (x := .nilFunc) rfl Try.underlying228 (by kernel_rfl) rfl (fun _ _ _ => trivial)
def tyL : List (Nat × Sh) := [(2, .int .i64), (3, .int .i64), (4, .bool), (5, .int .u8), (6, .int .u8), (9, .str), (10, .str), (11, .str), (12, .int .u64), (21, .int .i32), (22, .int .i8), (23, .int .i16), (24, .arr 8 (.int .i16)), (25, .arr 8 (.arr 8 (.int .i16))), (26, .arr 3 (.int .i16)), (27, .arr 8 (.arr 3 (.int .i16))), (28, .arr 8 (.arr 8 (.arr 3 (.int .i16)))), (29, .arr 8 (.int .u8)), (31, shSheet), (33, shBrush), (35, shSpot), (36, shSheet), (37, shBrush), (42, shSpot), (48, shFold), (51, shFold), (57, .arr 3 (.int .i64)), (69, .arr 8 (.arr 8 (.int .u8))), (71, shPic), (73, shPic), (103, .arr 2 shSpot), (193, .int .u64), (218, .int .u32), (219, .int .u8), (220, .int .u8), (222, .int .i32), (223, .int .i32), (229, .arr 8 (.arr 8 (.int .i16)))]
def slL : List (Nat × Sh) := [(62, shSpot), (65, shSpot), (102, .arr 2 shSpot), (184, .int .u8), (187, .str), (205, .int .i64)]
def rfL : List (Nat × AV) := [(1, .junk), (15, .nilp), (16, .nilp), (17, .nilp), (39, .junk), (40, .junk), (41, .junk), (43, .junk), (44, .junk), (45, .junk), (46, .junk), (50, .junk), (52, .junk), (53, .junk), (55, .junk), (56, .junk), (59, .junk), (60, .junk), (61, .junk), (62, .nils), (63, .junk), (64, .junk), (65, .nils), (66, .junk), (67, .junk), (68, .junk), (72, .junk), (74, .junk), (75, .junk), (77, .junk), (78, .junk), (80, .junk), (81, .junk), (82, .junk), (83, .junk), (84, .nilp), (85, .nilp), (86, .junk), (87, .junk), (88, .junk), (89, .junk), (90, .junk), (91, .junk), (92, .junk), (93, .junk), (94, .junk), (95, .junk), (96, .junk), (97, .junk), (98, .junk), (99, .junk), (100, .junk), (101, .junk), (102, .nils), (104, .junk), (105, .junk), (106, .junk), (107, .junk), (108, .junk), (109, .junk), (110, .junk), (111, .junk), (112, .junk), (113, .junk), (114, .junk), (115, .junk), (116, .junk), (117, .nilp), (118, .junk), (119, .junk), (121, .junk), (122, .junk), (123, .junk), (124, .junk), (125, .junk), (126, .junk), (127, .junk), (128, .junk), (129, .nilp), (130, .junk), (131, .junk), (132, .junk), (133, .junk), (134, .junk), (135, .junk), (136, .junk), (137, .junk), (138, .junk), (139, .junk), (140, .junk), (141, .junk), (143, .junk), (145, .junk), (146, .junk), (147, .junk), (148, .junk), (150, .junk), (151, .junk), (152, .junk), (153, .junk), (154, .junk), (156, .junk), (157, .junk), (158, .junk), (159, .junk), (160, .junk), (161, .junk), (162, .junk), (163, .junk), (164, .junk), (165, .junk), (166, .junk), (167, .junk), (168, .junk), (169, .junk), (170, .nilp), (171, .junk), (172, .junk), (173, .junk), (175, .junk), (176, .junk), (177, .junk), (178, .junk), (179, .junk), (180, .junk), (181, .junk), (182, .junk), (183, .nilp), (184, .nils), (187, .nils), (191, .junk), (192, .junk), (194, .junk), (195, .junk), (196, .junk), (197, .junk), (198, .junk), (199, .junk), (200, .junk), (201, .junk), (202, .junk), (203, .junk), (204, .nilp), (205, .nils), (206, .junk), (207, .junk), (209, .junk), (210, .junk), (211, .junk), (217, .junk), (221, .junk), (226, .junk), (227, .junk), (228, .junk)]
def eqL : List Nat := [24, 26, 29, 35, 42, 57]
def quL : List Nat := [11, 12, 13, 14, 15, 16, 17, 18, 19, 20, 21, 22, 23, 24, 25, 40, 42, 43, 44, 45, 46, 47, 49, 50, 51, 52, 53, 55, 59, 60, 62, 64, 65, 66, 69, 70, 71, 72, 75, 76, 79, 80, 84, 85, 86, 92, 97, 98, 106, 107, 108, 109, 110, 111, 112, 113, 114, 115, 116, 118, 119, 120, 123, 124, 125, 126, 130, 131, 133, 135, 136, 143, 144, 149, 150, 153, 154, 155, 156, 157, 158, 159, 160, 161, 162, 163, 164, 169]
def altL : List ((Nat × Nat × Nat) × OT) := [((0, 5, 16), (.split 8 12 .txt (.perm [0, 1, 2, 3, 4, 5, 6, 7, 9, 10, 11, 12, 8, 13, 14, 15]))), ((1, 14, 16), (.split 11 12 .txt (.perm [0, 1, 2, 3, 4, 5, 6, 7, 8, 9, 10, 12, 11, 13, 14, 15]))), ((1, 5, 5), (.split 1 2 .txt (.perm [0, 2, 1, 3, 4]))), ((1, 8, 10), (.split 6 7 .txt (.perm [0, 1, 2, 3, 4, 5, 7, 6, 8, 9]))), ((2, 25, 16), (.split 11 12 .txt (.perm [0, 1, 2, 3, 4, 5, 6, 7, 8, 9, 10, 12, 11, 13, 14, 15]))), ((5, 19, 5), (.split 1 2 .txt (.perm [0, 2, 1, 3, 4]))), ((5, 20, 4), (.split 1 2 .txt (.perm [0, 2, 1, 3]))), ((5, 21, 8), (.split 4 5 (.split 3 6 .txt (.perm [0, 1, 2, 4, 5, 6, 3, 7])) (.split 3 6 (.perm [0, 1, 2, 3, 5, 4, 6, 7]) (.perm [0, 1, 2, 5, 4, 6, 3, 7])))), ((5, 22, 5), (.split 1 2 .txt (.perm [0, 2, 1, 3, 4]))), ((6, 25, 10), (.split 6 7 .txt (.perm [0, 1, 2, 3, 4, 5, 7, 6, 8, 9]))), ((6, 41, 9), (.split 5 6 .txt (.split 4 7 (.split 5 7 (.perm [0, 1, 2, 3, 4, 6, 5, 7, 8]) (.perm [0, 1, 2, 3, 4, 6, 7, 5, 8])) (.perm [0, 1, 2, 3, 6, 7, 4, 5, 8])))), ((7, 26, 5), (.split 0 2 .txt (.perm [1, 2, 0, 3, 4]))), ((7, 30, 6), (.split 2 3 (.split 1 4 .txt (.perm [0, 2, 3, 4, 1, 5])) (.split 1 4 (.perm [0, 1, 3, 2, 4, 5]) (.perm [0, 3, 2, 4, 1, 5])))), ((8, 33, 7), (.split 2 3 .txt (.perm [0, 1, 3, 2, 4, 5, 6]))), ((9, 32, 7), (.split 2 3 .txt (.perm [0, 1, 3, 2, 4, 5, 6])))]
def apL : List ((Nat × Nat) × List (Nat × Nat)) := []
noncomputable def Cx : Ctx := { P := Try.prog, ty := fun t => tyL.lookup t, sl := fun t => slL.lookup t, rf := fun t => rfL.lookup t, eq := fun t => eqL.elem t, quiet := fun t => quL.elem t, ap := fun i d => (apL.lookup (i, d.getD 0)).getD [], alt := fun i d m => (altL.lookup (i, d.getD 0, m)).getD .txt }
theorem lookup_mem {α : Type} {t : Nat} {x : α} : ∀ {l : List (Nat × α)}, l.lookup t = some x → (t, x) ∈ l
  | [], h => by simp at h
  | (s, y) :: l, h => by
    rw [List.lookup_cons] at h
    split at h
    · rename_i e
      have := eq_of_beq e
      cases h
      subst this
      simp
    · exact List.mem_cons_of_mem _ (lookup_mem h)
theorem zkj : Cx.quiet 12 = true := rfl
theorem zkn : Cx.quiet 19 = true := rfl
theorem zko : Cx.quiet 21 = true := rfl
theorem zkp : Cx.quiet 22 = true := rfl
theorem zl7 : Cx.quiet 42 = true := rfl
theorem zl8 : Cx.quiet 43 = true := rfl
theorem zl9 : Cx.quiet 44 = true := rfl
theorem zln : Cx.quiet 45 = true := rfl
theorem zeh : Cx.quiet 47 = true := rfl
theorem zju : Cx.quiet 53 = true := rfl
theorem zjv : Cx.quiet 54 = false := rfl
theorem zjw : Cx.quiet 55 = true := rfl
theorem zio : Cx.quiet 57 = false := rfl
theorem zep : Cx.quiet 59 = true := rfl
theorem zf8 : Cx.quiet 60 = true := rfl
theorem zjx : Cx.quiet 61 = false := rfl
theorem zjy : Cx.quiet 62 = true := rfl
theorem zjz : Cx.quiet 63 = false := rfl
theorem zla : Cx.quiet 69 = true := rfl
theorem zei : Cx.quiet 84 = true := rfl
theorem zlo : Cx.quiet 92 = true := rfl
theorem zje : Cx.quiet 98 = true := rfl
theorem zki : Cx.quiet 106 = true := rfl
theorem zli : Cx.quiet 109 = true := rfl
theorem zlj : Cx.quiet 110 = true := rfl
theorem zkw : Cx.quiet 111 = true := rfl
theorem zlk : Cx.quiet 116 = true := rfl
theorem zf7 : Cx.quiet 117 = false := rfl
theorem zec : Cx.quiet 118 = true := rfl
theorem zkd : Cx.quiet 119 = true := rfl
theorem zl4 : Cx.quiet 120 = true := rfl
theorem zkk : Cx.quiet 122 = false := rfl
theorem zkl : Cx.quiet 123 = true := rfl
theorem zhs : Cx.quiet 124 = true := rfl
theorem zkx : Cx.quiet 125 = true := rfl
theorem zj8 : Cx.quiet 126 = true := rfl
theorem zj9 : Cx.quiet 127 = false := rfl
theorem zja : Cx.quiet 128 = false := rfl
theorem zjc : Cx.quiet 131 = true := rfl
theorem zks : Cx.quiet 132 = false := rfl
theorem zjd : Cx.quiet 143 = true := rfl
theorem zkm : Cx.quiet 144 = true := rfl
theorem zl5 : Cx.quiet 153 = true := rfl
theorem zl6 : Cx.quiet 154 = true := rfl
theorem zfr : Cx.quiet 158 = true := rfl
theorem zll : Cx.quiet 161 = true := rfl
theorem zkt : Cx.quiet 162 = true := rfl
theorem zlm : Cx.quiet 169 = true := rfl
theorem zkc : Cx.ap 1 (some 5) = [] := rfl
theorem zl0 : Cx.ap 1 (some 9) = [] := rfl
theorem zjh : Cx.ap 1 (some 11) = [] := rfl
theorem zkg : Cx.ap 1 (some 12) = [] := rfl
theorem zkh : Cx.ap 2 (some 21) = [] := rfl
theorem zkv : Cx.ap 5 (some 16) = [] := rfl
theorem zj6 : Cx.ap 5 (some 21) = [] := rfl
theorem zj7 : Cx.ap 6 (some 25) = [] := rfl
theorem zji : Cx.ap 6 (some 26) = [] := rfl
theorem zl1 : Cx.ap 8 (some 28) = [] := rfl
theorem zj5 : Cx.ap 10 (some 34) = [] := rfl
theorem zgt : Cx.ap 11 (some 36) = [] := rfl
theorem zkr : Cx.ap 12 (some 37) = [] := rfl
theorem zdu : Cx.ap 12 (some 63) = [] := rfl
theorem zgu : Cx.ap 13 (some 95) = [] := rfl
theorem zgv : Cx.ap 14 (some 114) = [] := rfl
theorem zgw : Cx.ap 16 (some 138) = [] := rfl
theorem zgx : Cx.ap 17 (some 161) = [] := rfl
theorem zgy : Cx.ap 18 (some 177) = [] := rfl
theorem zm4 : Cx.alt 1 (some 5) 11 = .txt := rfl
theorem zm5 : Cx.alt 1 (some 5) 12 = .txt := rfl
theorem zl2 : Cx.alt 1 (some 5) 13 = .txt := rfl
theorem zm6 : Cx.alt 1 (some 5) 14 = .txt := rfl
theorem zlb : Cx.alt 1 (some 5) 23 = .txt := rfl
theorem zm7 : Cx.alt 1 (some 5) 27 = .txt := rfl
theorem zky : Cx.alt 1 (some 9) 12 = .txt := rfl
theorem zjf : Cx.alt 1 (some 11) 8 = .txt := rfl
theorem zke : Cx.alt 1 (some 12) 11 = .txt := rfl
theorem zkf : Cx.alt 2 (some 21) 11 = .txt := rfl
theorem zku : Cx.alt 5 (some 16) 12 = .txt := rfl
theorem zj3 : Cx.alt 5 (some 21) 8 = (.split 4 5 (.split 3 6 .txt (.perm [0, 1, 2, 4, 5, 6, 3, 7])) (.split 3 6 (.perm [0, 1, 2, 3, 5, 4, 6, 7]) (.perm [0, 1, 2, 5, 4, 6, 3, 7]))) := rfl
theorem zj4 : Cx.alt 6 (some 25) 10 = (.split 6 7 .txt (.perm [0, 1, 2, 3, 4, 5, 7, 6, 8, 9])) := rfl
theorem zjg : Cx.alt 6 (some 26) 14 = .txt := rfl
theorem zkz : Cx.alt 8 (some 28) 14 = .txt := rfl
theorem zj1 : Cx.alt 10 (some 34) 29 = .txt := rfl
theorem zgm : Cx.alt 11 (some 36) 28 = .txt := rfl
theorem zkq : Cx.alt 12 (some 37) 29 = .txt := rfl
theorem zj2 : Cx.alt 12 (some 63) 21 = .txt := rfl
theorem zgn : Cx.alt 12 (some 63) 32 = .txt := rfl
theorem zgo : Cx.alt 13 (some 95) 20 = .txt := rfl
theorem zgp : Cx.alt 14 (some 114) 20 = .txt := rfl
theorem zgq : Cx.alt 16 (some 138) 24 = .txt := rfl
theorem zgr : Cx.alt 17 (some 161) 17 = .txt := rfl
theorem zgs : Cx.alt 18 (some 177) 17 = .txt := rfl
theorem ty_all : ∀ x ∈ tyL, TyOk Try.prog x.2 x.1 := by
  unfold tyL
  simp only [List.forall_mem_cons]
  exact ⟨ty2, ty3, ty4, ty5, ty6, ty9, ty10, ty11, ty12, ty21, ty22, ty23, ty24, ty25, ty26, ty27, ty28, ty29, ty31, ty33, ty35, ty36, ty37, ty42, ty48, ty51, ty57, ty69, ty71, ty73, ty103, ty193, ty218, ty219, ty220, ty222, ty223, ty229, fun _ h => by simp at h⟩
theorem sl_all : ∀ x ∈ slL, ∃ et, Try.prog.underlying x.1 = some (.slice et) ∧ TyOk Try.prog x.2 et ∧ x.2.size ≠ 0 := by
  unfold slL
  simp only [List.forall_mem_cons]
  exact ⟨⟨35, Try.underlying62, ty35, by decide⟩, ⟨42, Try.underlying65, ty42, by decide⟩, ⟨103, Try.underlying102, ty103, by decide⟩, ⟨5, Try.underlying184, ty5, by decide⟩, ⟨9, Try.underlying187, ty9, by decide⟩, ⟨3, Try.underlying205, ty3, by decide⟩, fun _ h => by simp at h⟩
theorem rf_all : ∀ x ∈ rfL, RefOk Try.prog x.1 x.2 := by
  unfold rfL
  simp only [List.forall_mem_cons]
  exact ⟨rf1, rf15, rf16, rf17, rf39, rf40, rf41, rf43, rf44, rf45, rf46, rf50, rf52, rf53, rf55, rf56, rf59, rf60, rf61, rf62, rf63, rf64, rf65, rf66, rf67, rf68, rf72, rf74, rf75, rf77, rf78, rf80, rf81, rf82, rf83, rf84, rf85, rf86, rf87, rf88, rf89, rf90, rf91, rf92, rf93, rf94, rf95, rf96, rf97, rf98, rf99, rf100, rf101, rf102, rf104, rf105, rf106, rf107, rf108, rf109, rf110, rf111, rf112, rf113, rf114, rf115, rf116, rf117, rf118, rf119, rf121, rf122, rf123, rf124, rf125, rf126, rf127, rf128, rf129, rf130, rf131, rf132, rf133, rf134, rf135, rf136, rf137, rf138, rf139, rf140, rf141, rf143, rf145, rf146, rf147, rf148, rf150, rf151, rf152, rf153, rf154, rf156, rf157, rf158, rf159, rf160, rf161, rf162, rf163, rf164, rf165, rf166, rf167, rf168, rf169, rf170, rf171, rf172, rf173, rf175, rf176, rf177, rf178, rf179, rf180, rf181, rf182, rf183, rf184, rf187, rf191, rf192, rf194, rf195, rf196, rf197, rf198, rf199, rf200, rf201, rf202, rf203, rf204, rf205, rf206, rf207, rf209, rf210, rf211, rf217, rf221, rf226, rf227, rf228, fun _ h => by simp at h⟩
theorem eq_all : ∀ t ∈ eqL, Try.prog.eqGuardType Try.prog.depth t = false ∧ Try.prog.stoodInHeld t = false ∧ (∀ fs, Try.prog.underlying t = some (.struct fs) → ∀ f ∈ fs.toList, f.name ≠ "_") := by
  unfold eqL
  simp only [List.forall_mem_cons]
  exact ⟨⟨by kernel_rfl, by kernel_rfl, fun fs h => by rw [Try.underlying24] at h; cases h⟩, ⟨by kernel_rfl, by kernel_rfl, fun fs h => by rw [Try.underlying26] at h; cases h⟩, ⟨by kernel_rfl, by kernel_rfl, fun fs h => by rw [Try.underlying29] at h; cases h⟩, ⟨by kernel_rfl, by kernel_rfl, fun fs h => by rw [Try.underlying35] at h; cases h; decide⟩, ⟨by kernel_rfl, by kernel_rfl, fun fs h => by rw [Try.underlying42] at h; cases h; decide⟩, ⟨by kernel_rfl, by kernel_rfl, fun fs h => by rw [Try.underlying57] at h; cases h⟩, fun _ h => by simp at h⟩
theorem mixed : Try.prog.follows .mixedOrders = true := by kernel_rfl
theorem Cx_ok : Cx.Ok where
  mixed := mixed
  ty := fun t τ h => ty_all _ (lookup_mem h)
  sl := fun t e h => sl_all _ (lookup_mem h)
  rf := fun t z h => rf_all _ (lookup_mem h)
  eq := fun t h => eq_all t (by simpa [Cx] using h)
theorem z0s : Cx.ty 2 = some (.int .i64) := rfl
theorem z0t : Cx.ty 3 = some (.int .i64) := rfl
theorem z0u : Cx.ty 4 = some .bool := rfl
theorem z5w : Cx.ty 5 = some (.int .u8) := rfl
theorem z5x : Cx.ty 6 = some (.int .u8) := rfl
theorem z5z : Cx.ty 9 = some .str := rfl
theorem z61 : Cx.ty 10 = some .str := rfl
theorem z64 : Cx.ty 11 = some .str := rfl
theorem z65 : Cx.ty 12 = some (.int .u64) := rfl
theorem z6o : Cx.ty 21 = some (.int .i32) := rfl
theorem z6d : Cx.ty 22 = some (.int .i8) := rfl
theorem z6l : Cx.ty 23 = some (.int .i16) := rfl
theorem z6m : Cx.ty 24 = some (.arr 8 (.int .i16)) := rfl
theorem z6f : Cx.ty 25 = some (.arr 8 (.arr 8 (.int .i16))) := rfl
theorem z6r : Cx.ty 26 = some (.arr 3 (.int .i16)) := rfl
theorem z6h : Cx.ty 27 = some (.arr 8 (.arr 3 (.int .i16))) := rfl
theorem z6t : Cx.ty 28 = some (.arr 8 (.arr 8 (.arr 3 (.int .i16)))) := rfl
theorem z6y : Cx.ty 29 = some (.arr 8 (.int .u8)) := rfl
theorem z7n : Cx.ty 31 = some shSheet := rfl
theorem z8b : Cx.ty 33 = some shBrush := rfl
theorem z8p : Cx.ty 35 = some shSpot := rfl
theorem z6v : Cx.ty 36 = some shSheet := rfl
theorem z8m : Cx.ty 37 = some shBrush := rfl
theorem z7t : Cx.ty 42 = some shSpot := rfl
theorem z93 : Cx.ty 48 = some shFold := rfl
theorem z7j : Cx.ty 51 = some shFold := rfl
theorem z9z : Cx.ty 57 = some (.arr 3 (.int .i64)) := rfl
theorem za7 : Cx.ty 69 = some (.arr 8 (.arr 8 (.int .u8))) := rfl
theorem zae : Cx.ty 71 = some shPic := rfl
theorem zaf : Cx.ty 73 = some shPic := rfl
theorem zas : Cx.ty 103 = some (.arr 2 shSpot) := rfl
theorem zgl : Cx.ty 193 = some (.int .u64) := rfl
theorem zk8 : Cx.ty 219 = some (.int .u8) := rfl
theorem zk9 : Cx.ty 220 = some (.int .u8) := rfl
theorem zka : Cx.ty 223 = some (.int .i32) := rfl
theorem z9g : Cx.sl 62 = some shSpot := rfl
theorem z9r : Cx.sl 65 = some shSpot := rfl
theorem zar : Cx.sl 102 = some (.arr 2 shSpot) := rfl
theorem zim : Cx.sl 184 = some (.int .u8) := rfl
theorem zin : Cx.sl 187 = some .str := rfl
theorem zj0 : Cx.sl 205 = some (.int .i64) := rfl
theorem z0r : Cx.rf 1 = some .junk := rfl
theorem z0n {k q} : onK Cx 1 k q = q .junk := onK_rf rfl rfl
theorem z67 : Cx.rf 15 = some .nilp := rfl
theorem z66 {k q} : onK Cx 15 k q = q .nilp := onK_rf rfl rfl
theorem z69 : Cx.rf 16 = some .nilp := rfl
theorem z68 {k q} : onK Cx 16 k q = q .nilp := onK_rf rfl rfl
theorem z6c : Cx.rf 17 = some .nilp := rfl
theorem z6a {k q} : onK Cx 17 k q = q .nilp := onK_rf rfl rfl
theorem z95 : Cx.rf 39 = some .junk := rfl
theorem z94 {k q} : onK Cx 39 k q = q .junk := onK_rf rfl rfl
theorem z8z : Cx.rf 40 = some .junk := rfl
theorem z8y {k q} : onK Cx 40 k q = q .junk := onK_rf rfl rfl
theorem z8x : Cx.rf 41 = some .junk := rfl
theorem z8w {k q} : onK Cx 41 k q = q .junk := onK_rf rfl rfl
theorem z8s : Cx.rf 43 = some .junk := rfl
theorem z8q {k q} : onK Cx 43 k q = q .junk := onK_rf rfl rfl
theorem z8t : Cx.rf 44 = some .junk := rfl
theorem z8r {k q} : onK Cx 44 k q = q .junk := onK_rf rfl rfl
theorem z8v : Cx.rf 45 = some .junk := rfl
theorem z8u {k q} : onK Cx 45 k q = q .junk := onK_rf rfl rfl
theorem z97 : Cx.rf 46 = some .junk := rfl
theorem z96 {k q} : onK Cx 46 k q = q .junk := onK_rf rfl rfl
theorem z99 : Cx.rf 50 = some .junk := rfl
theorem z98 {k q} : onK Cx 50 k q = q .junk := onK_rf rfl rfl
theorem z9j : Cx.rf 52 = some .junk := rfl
theorem z9h {k q} : onK Cx 52 k q = q .junk := onK_rf rfl rfl
theorem z92 : Cx.rf 53 = some .junk := rfl
theorem z90 {k q} : onK Cx 53 k q = q .junk := onK_rf rfl rfl
theorem z9k : Cx.rf 55 = some .junk := rfl
theorem z9i {k q} : onK Cx 55 k q = q .junk := onK_rf rfl rfl
theorem za3 : Cx.rf 56 = some .junk := rfl
theorem za2 {k q} : onK Cx 56 k q = q .junk := onK_rf rfl rfl
theorem z9m : Cx.rf 59 = some .junk := rfl
theorem z9l {k q} : onK Cx 59 k q = q .junk := onK_rf rfl rfl
theorem z9t : Cx.rf 60 = some .junk := rfl
theorem z9s {k q} : onK Cx 60 k q = q .junk := onK_rf rfl rfl
theorem z9e : Cx.rf 61 = some .junk := rfl
theorem z9c {k q} : onK Cx 61 k q = q .junk := onK_rf rfl rfl
theorem z9f : Cx.rf 62 = some .nils := rfl
theorem z9d {k q} : onK Cx 62 k q = q .nils := onK_rf rfl rfl
theorem z9b : Cx.rf 63 = some .junk := rfl
theorem z9a {k q} : onK Cx 63 k q = q .junk := onK_rf rfl rfl
theorem za5 : Cx.rf 64 = some .junk := rfl
theorem za4 {k q} : onK Cx 64 k q = q .junk := onK_rf rfl rfl
theorem z9q : Cx.rf 65 = some .nils := rfl
theorem z9p {k q} : onK Cx 65 k q = q .nils := onK_rf rfl rfl
theorem za1 : Cx.rf 66 = some .junk := rfl
theorem za0 {k q} : onK Cx 66 k q = q .junk := onK_rf rfl rfl
theorem z9v : Cx.rf 67 = some .junk := rfl
theorem z9u {k q} : onK Cx 67 k q = q .junk := onK_rf rfl rfl
theorem za9 : Cx.rf 68 = some .junk := rfl
theorem za8 {k q} : onK Cx 68 k q = q .junk := onK_rf rfl rfl
theorem zad : Cx.rf 72 = some .junk := rfl
theorem zaa {k q} : onK Cx 72 k q = q .junk := onK_rf rfl rfl
theorem zan : Cx.rf 74 = some .junk := rfl
theorem zam {k q} : onK Cx 74 k q = q .junk := onK_rf rfl rfl
theorem zal : Cx.rf 75 = some .junk := rfl
theorem zak {k q} : onK Cx 75 k q = q .junk := onK_rf rfl rfl
theorem zah : Cx.rf 77 = some .junk := rfl
theorem zag {k q} : onK Cx 77 k q = q .junk := onK_rf rfl rfl
theorem zbz : Cx.rf 78 = some .junk := rfl
theorem zbw {k q} : onK Cx 78 k q = q .junk := onK_rf rfl rfl
theorem zc0 : Cx.rf 80 = some .junk := rfl
theorem zbx {k q} : onK Cx 80 k q = q .junk := onK_rf rfl rfl
theorem zc1 : Cx.rf 81 = some .junk := rfl
theorem zby {k q} : onK Cx 81 k q = q .junk := onK_rf rfl rfl
theorem zdt : Cx.rf 82 = some .junk := rfl
theorem zdr {k q} : onK Cx 82 k q = q .junk := onK_rf rfl rfl
theorem zc3 : Cx.rf 83 = some .junk := rfl
theorem zc2 {k q} : onK Cx 83 k q = q .junk := onK_rf rfl rfl
theorem z7l : Cx.rf 84 = some .nilp := rfl
theorem z7k {k q} : onK Cx 84 k q = q .nilp := onK_rf rfl rfl
theorem ze0 : Cx.rf 85 = some .nilp := rfl
theorem zdx {k q} : onK Cx 85 k q = q .nilp := onK_rf rfl rfl
theorem zcj : Cx.rf 86 = some .junk := rfl
theorem zci {k q} : onK Cx 86 k q = q .junk := onK_rf rfl rfl
theorem ze7 : Cx.rf 87 = some .junk := rfl
theorem ze4 {k q} : onK Cx 87 k q = q .junk := onK_rf rfl rfl
theorem ze8 : Cx.rf 88 = some .junk := rfl
theorem ze5 {k q} : onK Cx 88 k q = q .junk := onK_rf rfl rfl
theorem ze9 : Cx.rf 89 = some .junk := rfl
theorem ze6 {k q} : onK Cx 89 k q = q .junk := onK_rf rfl rfl
theorem zeb : Cx.rf 90 = some .junk := rfl
theorem zea {k q} : onK Cx 90 k q = q .junk := onK_rf rfl rfl
theorem zfv : Cx.rf 91 = some .junk := rfl
theorem zft {k q} : onK Cx 91 k q = q .junk := onK_rf rfl rfl
theorem zfh : Cx.rf 92 = some .junk := rfl
theorem zf6 {k q} : onK Cx 92 k q = q .junk := onK_rf rfl rfl
theorem zdn : Cx.rf 93 = some .junk := rfl
theorem zdj {k q} : onK Cx 93 k q = q .junk := onK_rf rfl rfl
theorem zdg : Cx.rf 94 = some .junk := rfl
theorem zdd {k q} : onK Cx 94 k q = q .junk := onK_rf rfl rfl
theorem zdh : Cx.rf 95 = some .junk := rfl
theorem zde {k q} : onK Cx 95 k q = q .junk := onK_rf rfl rfl
theorem zdo : Cx.rf 96 = some .junk := rfl
theorem zdk {k q} : onK Cx 96 k q = q .junk := onK_rf rfl rfl
theorem zdp : Cx.rf 97 = some .junk := rfl
theorem zdl {k q} : onK Cx 97 k q = q .junk := onK_rf rfl rfl
theorem zca : Cx.rf 98 = some .junk := rfl
theorem zc8 {k q} : onK Cx 98 k q = q .junk := onK_rf rfl rfl
theorem zdb : Cx.rf 99 = some .junk := rfl
theorem zd8 {k q} : onK Cx 99 k q = q .junk := onK_rf rfl rfl
theorem zgf : Cx.rf 100 = some .junk := rfl
theorem zga {k q} : onK Cx 100 k q = q .junk := onK_rf rfl rfl
theorem zds : Cx.rf 101 = some .junk := rfl
theorem zdq {k q} : onK Cx 101 k q = q .junk := onK_rf rfl rfl
theorem zaq : Cx.rf 102 = some .nils := rfl
theorem zao {k q} : onK Cx 102 k q = q .nils := onK_rf rfl rfl
theorem zdm : Cx.rf 104 = some .junk := rfl
theorem zdi {k q} : onK Cx 104 k q = q .junk := onK_rf rfl rfl
theorem zgg : Cx.rf 105 = some .junk := rfl
theorem zgb {k q} : onK Cx 105 k q = q .junk := onK_rf rfl rfl
theorem zex : Cx.rf 106 = some .junk := rfl
theorem zew {k q} : onK Cx 106 k q = q .junk := onK_rf rfl rfl
theorem zct : Cx.rf 107 = some .junk := rfl
theorem zcq {k q} : onK Cx 107 k q = q .junk := onK_rf rfl rfl
theorem zcu : Cx.rf 108 = some .junk := rfl
theorem zcr {k q} : onK Cx 108 k q = q .junk := onK_rf rfl rfl
theorem zcv : Cx.rf 109 = some .junk := rfl
theorem zcs {k q} : onK Cx 109 k q = q .junk := onK_rf rfl rfl
theorem zfu : Cx.rf 110 = some .junk := rfl
theorem zfs {k q} : onK Cx 110 k q = q .junk := onK_rf rfl rfl
theorem zch : Cx.rf 111 = some .junk := rfl
theorem zcg {k q} : onK Cx 111 k q = q .junk := onK_rf rfl rfl
theorem zd0 : Cx.rf 112 = some .junk := rfl
theorem zcw {k q} : onK Cx 112 k q = q .junk := onK_rf rfl rfl
theorem zd1 : Cx.rf 113 = some .junk := rfl
theorem zcx {k q} : onK Cx 113 k q = q .junk := onK_rf rfl rfl
theorem zd5 : Cx.rf 114 = some .junk := rfl
theorem zd4 {k q} : onK Cx 114 k q = q .junk := onK_rf rfl rfl
theorem zd2 : Cx.rf 115 = some .junk := rfl
theorem zcy {k q} : onK Cx 115 k q = q .junk := onK_rf rfl rfl
theorem zcp : Cx.rf 116 = some .junk := rfl
theorem zco {k q} : onK Cx 116 k q = q .junk := onK_rf rfl rfl
theorem zf9 : Cx.rf 117 = some .nilp := rfl
theorem zey {k q} : onK Cx 117 k q = q .nilp := onK_rf rfl rfl
theorem zbv : Cx.rf 118 = some .junk := rfl
theorem zbu {k q} : onK Cx 118 k q = q .junk := onK_rf rfl rfl
theorem zc9 : Cx.rf 119 = some .junk := rfl
theorem zc7 {k q} : onK Cx 119 k q = q .junk := onK_rf rfl rfl
theorem zg3 : Cx.rf 121 = some .junk := rfl
theorem zfz {k q} : onK Cx 121 k q = q .junk := onK_rf rfl rfl
theorem zej : Cx.rf 122 = some .junk := rfl
theorem zef {k q} : onK Cx 122 k q = q .junk := onK_rf rfl rfl
theorem zek : Cx.rf 123 = some .junk := rfl
theorem zeg {k q} : onK Cx 123 k q = q .junk := onK_rf rfl rfl
theorem zg4 : Cx.rf 124 = some .junk := rfl
theorem zg0 {k q} : onK Cx 124 k q = q .junk := onK_rf rfl rfl
theorem zcf : Cx.rf 125 = some .junk := rfl
theorem zce {k q} : onK Cx 125 k q = q .junk := onK_rf rfl rfl
theorem zaj : Cx.rf 126 = some .junk := rfl
theorem zai {k q} : onK Cx 126 k q = q .junk := onK_rf rfl rfl
theorem zdy : Cx.rf 127 = some .junk := rfl
theorem zdv {k q} : onK Cx 127 k q = q .junk := onK_rf rfl rfl
theorem zdz : Cx.rf 128 = some .junk := rfl
theorem zdw {k q} : onK Cx 128 k q = q .junk := onK_rf rfl rfl
theorem zd9 : Cx.rf 129 = some .nilp := rfl
theorem zd6 {k q} : onK Cx 129 k q = q .nilp := onK_rf rfl rfl
theorem zfo : Cx.rf 130 = some .junk := rfl
theorem zfl {k q} : onK Cx 130 k q = q .junk := onK_rf rfl rfl
theorem zdf : Cx.rf 131 = some .junk := rfl
theorem zdc {k q} : onK Cx 131 k q = q .junk := onK_rf rfl rfl
theorem zee : Cx.rf 132 = some .junk := rfl
theorem zed {k q} : onK Cx 132 k q = q .junk := onK_rf rfl rfl
theorem zht : Cx.rf 133 = some .junk := rfl
theorem zgz {k q} : onK Cx 133 k q = q .junk := onK_rf rfl rfl
theorem zfp : Cx.rf 134 = some .junk := rfl
theorem zfm {k q} : onK Cx 134 k q = q .junk := onK_rf rfl rfl
theorem zfq : Cx.rf 135 = some .junk := rfl
theorem zfn {k q} : onK Cx 135 k q = q .junk := onK_rf rfl rfl
theorem zhu : Cx.rf 136 = some .junk := rfl
theorem zh0 {k q} : onK Cx 136 k q = q .junk := onK_rf rfl rfl
theorem zfa : Cx.rf 137 = some .junk := rfl
theorem zez {k q} : onK Cx 137 k q = q .junk := onK_rf rfl rfl
theorem zfb : Cx.rf 138 = some .junk := rfl
theorem zf0 {k q} : onK Cx 138 k q = q .junk := onK_rf rfl rfl
theorem zfc : Cx.rf 139 = some .junk := rfl
theorem zf1 {k q} : onK Cx 139 k q = q .junk := onK_rf rfl rfl
theorem zfd : Cx.rf 140 = some .junk := rfl
theorem zf2 {k q} : onK Cx 140 k q = q .junk := onK_rf rfl rfl
theorem zfe : Cx.rf 141 = some .junk := rfl
theorem zf3 {k q} : onK Cx 141 k q = q .junk := onK_rf rfl rfl
theorem zda : Cx.rf 143 = some .junk := rfl
theorem zd7 {k q} : onK Cx 143 k q = q .junk := onK_rf rfl rfl
theorem zeq : Cx.rf 145 = some .junk := rfl
theorem zel {k q} : onK Cx 145 k q = q .junk := onK_rf rfl rfl
theorem zer : Cx.rf 146 = some .junk := rfl
theorem zem {k q} : onK Cx 146 k q = q .junk := onK_rf rfl rfl
theorem zes : Cx.rf 147 = some .junk := rfl
theorem zen {k q} : onK Cx 147 k q = q .junk := onK_rf rfl rfl
theorem zhv : Cx.rf 148 = some .junk := rfl
theorem zh1 {k q} : onK Cx 148 k q = q .junk := onK_rf rfl rfl
theorem zet : Cx.rf 150 = some .junk := rfl
theorem zeo {k q} : onK Cx 150 k q = q .junk := onK_rf rfl rfl
theorem zff : Cx.rf 151 = some .junk := rfl
theorem zf4 {k q} : onK Cx 151 k q = q .junk := onK_rf rfl rfl
theorem zhw : Cx.rf 152 = some .junk := rfl
theorem zh2 {k q} : onK Cx 152 k q = q .junk := onK_rf rfl rfl
theorem zg5 : Cx.rf 153 = some .junk := rfl
theorem zg1 {k q} : onK Cx 153 k q = q .junk := onK_rf rfl rfl
theorem zg6 : Cx.rf 154 = some .junk := rfl
theorem zg2 {k q} : onK Cx 154 k q = q .junk := onK_rf rfl rfl
theorem zhx : Cx.rf 156 = some .junk := rfl
theorem zh3 {k q} : onK Cx 156 k q = q .junk := onK_rf rfl rfl
theorem zhy : Cx.rf 157 = some .junk := rfl
theorem zh4 {k q} : onK Cx 157 k q = q .junk := onK_rf rfl rfl
theorem zd3 : Cx.rf 158 = some .junk := rfl
theorem zcz {k q} : onK Cx 158 k q = q .junk := onK_rf rfl rfl
theorem zhz : Cx.rf 159 = some .junk := rfl
theorem zh5 {k q} : onK Cx 159 k q = q .junk := onK_rf rfl rfl
theorem zi0 : Cx.rf 160 = some .junk := rfl
theorem zh6 {k q} : onK Cx 160 k q = q .junk := onK_rf rfl rfl
theorem zgh : Cx.rf 161 = some .junk := rfl
theorem zgc {k q} : onK Cx 161 k q = q .junk := onK_rf rfl rfl
theorem zfg : Cx.rf 162 = some .junk := rfl
theorem zf5 {k q} : onK Cx 162 k q = q .junk := onK_rf rfl rfl
theorem zi1 : Cx.rf 163 = some .junk := rfl
theorem zh7 {k q} : onK Cx 163 k q = q .junk := onK_rf rfl rfl
theorem zi2 : Cx.rf 164 = some .junk := rfl
theorem zh8 {k q} : onK Cx 164 k q = q .junk := onK_rf rfl rfl
theorem zi3 : Cx.rf 165 = some .junk := rfl
theorem zh9 {k q} : onK Cx 165 k q = q .junk := onK_rf rfl rfl
theorem zi4 : Cx.rf 166 = some .junk := rfl
theorem zha {k q} : onK Cx 166 k q = q .junk := onK_rf rfl rfl
theorem zi5 : Cx.rf 167 = some .junk := rfl
theorem zhb {k q} : onK Cx 167 k q = q .junk := onK_rf rfl rfl
theorem zi6 : Cx.rf 168 = some .junk := rfl
theorem zhc {k q} : onK Cx 168 k q = q .junk := onK_rf rfl rfl
theorem zgi : Cx.rf 169 = some .junk := rfl
theorem zgd {k q} : onK Cx 169 k q = q .junk := onK_rf rfl rfl
theorem zcm : Cx.rf 170 = some .nilp := rfl
theorem zck {k q} : onK Cx 170 k q = q .nilp := onK_rf rfl rfl
theorem zcn : Cx.rf 171 = some .junk := rfl
theorem zcl {k q} : onK Cx 171 k q = q .junk := onK_rf rfl rfl
theorem zi7 : Cx.rf 172 = some .junk := rfl
theorem zhd {k q} : onK Cx 172 k q = q .junk := onK_rf rfl rfl
theorem zi8 : Cx.rf 173 = some .junk := rfl
theorem zhe {k q} : onK Cx 173 k q = q .junk := onK_rf rfl rfl
theorem zi9 : Cx.rf 175 = some .junk := rfl
theorem zhf {k q} : onK Cx 175 k q = q .junk := onK_rf rfl rfl
theorem zia : Cx.rf 176 = some .junk := rfl
theorem zhg {k q} : onK Cx 176 k q = q .junk := onK_rf rfl rfl
theorem zib : Cx.rf 177 = some .junk := rfl
theorem zhh {k q} : onK Cx 177 k q = q .junk := onK_rf rfl rfl
theorem zic : Cx.rf 178 = some .junk := rfl
theorem zhi {k q} : onK Cx 178 k q = q .junk := onK_rf rfl rfl
theorem zid : Cx.rf 179 = some .junk := rfl
theorem zhj {k q} : onK Cx 179 k q = q .junk := onK_rf rfl rfl
theorem zie : Cx.rf 180 = some .junk := rfl
theorem zhk {k q} : onK Cx 180 k q = q .junk := onK_rf rfl rfl
theorem zif : Cx.rf 181 = some .junk := rfl
theorem zhl {k q} : onK Cx 181 k q = q .junk := onK_rf rfl rfl
theorem zig : Cx.rf 182 = some .junk := rfl
theorem zhm {k q} : onK Cx 182 k q = q .junk := onK_rf rfl rfl
theorem zih : Cx.rf 183 = some .nilp := rfl
theorem zhn {k q} : onK Cx 183 k q = q .nilp := onK_rf rfl rfl
theorem zii : Cx.rf 184 = some .nils := rfl
theorem zho {k q} : onK Cx 184 k q = q .nils := onK_rf rfl rfl
theorem zij : Cx.rf 187 = some .nils := rfl
theorem zhp {k q} : onK Cx 187 k q = q .nils := onK_rf rfl rfl
theorem zik : Cx.rf 191 = some .junk := rfl
theorem zhq {k q} : onK Cx 191 k q = q .junk := onK_rf rfl rfl
theorem zil : Cx.rf 192 = some .junk := rfl
theorem zhr {k q} : onK Cx 192 k q = q .junk := onK_rf rfl rfl
theorem zgj : Cx.rf 194 = some .junk := rfl
theorem zge {k q} : onK Cx 194 k q = q .junk := onK_rf rfl rfl
theorem zlp : Cx.rf 195 = some .junk := rfl
theorem zlc {k q} : onK Cx 195 k q = q .junk := onK_rf rfl rfl
theorem zlq : Cx.rf 196 = some .junk := rfl
theorem zld {k q} : onK Cx 196 k q = q .junk := onK_rf rfl rfl
theorem zlr : Cx.rf 197 = some .junk := rfl
theorem zle {k q} : onK Cx 197 k q = q .junk := onK_rf rfl rfl
theorem zls : Cx.rf 198 = some .junk := rfl
theorem zlf {k q} : onK Cx 198 k q = q .junk := onK_rf rfl rfl
theorem zev : Cx.rf 200 = some .junk := rfl
theorem zeu {k q} : onK Cx 200 k q = q .junk := onK_rf rfl rfl
theorem zlt : Cx.rf 201 = some .junk := rfl
theorem zlg {k q} : onK Cx 201 k q = q .junk := onK_rf rfl rfl
theorem zlu : Cx.rf 202 = some .junk := rfl
theorem zlh {k q} : onK Cx 202 k q = q .junk := onK_rf rfl rfl
theorem ziz : Cx.rf 205 = some .nils := rfl
theorem ziy {k q} : onK Cx 205 k q = q .nils := onK_rf rfl rfl
theorem zk0 : Cx.rf 206 = some .junk := rfl
theorem zjj {k q} : onK Cx 206 k q = q .junk := onK_rf rfl rfl
theorem zk1 : Cx.rf 207 = some .junk := rfl
theorem zjk {k q} : onK Cx 207 k q = q .junk := onK_rf rfl rfl
theorem zk2 : Cx.rf 209 = some .junk := rfl
theorem zjl {k q} : onK Cx 209 k q = q .junk := onK_rf rfl rfl
theorem zk3 : Cx.rf 210 = some .junk := rfl
theorem zjm {k q} : onK Cx 210 k q = q .junk := onK_rf rfl rfl
theorem zk4 : Cx.rf 211 = some .junk := rfl
theorem zjn {k q} : onK Cx 211 k q = q .junk := onK_rf rfl rfl
theorem zk5 : Cx.rf 217 = some .junk := rfl
theorem zjo {k q} : onK Cx 217 k q = q .junk := onK_rf rfl rfl
theorem zk6 : Cx.rf 221 = some .junk := rfl
theorem zjp {k q} : onK Cx 221 k q = q .junk := onK_rf rfl rfl
theorem zk7 : Cx.rf 226 = some .junk := rfl
theorem zjq {k q} : onK Cx 226 k q = q .junk := onK_rf rfl rfl
theorem z0o {k q} : onK Cx 2 k q = k (.int .i64) := onK_ty rfl
theorem z0p {k q} : onK Cx 3 k q = k (.int .i64) := onK_ty rfl
theorem z0q {k q} : onK Cx 4 k q = k .bool := onK_ty rfl
theorem z5u {k q} : onK Cx 5 k q = k (.int .u8) := onK_ty rfl
theorem z5v {k q} : onK Cx 6 k q = k (.int .u8) := onK_ty rfl
theorem z5y {k q} : onK Cx 9 k q = k .str := onK_ty rfl
theorem z60 {k q} : onK Cx 10 k q = k .str := onK_ty rfl
theorem z62 {k q} : onK Cx 11 k q = k .str := onK_ty rfl
theorem z63 {k q} : onK Cx 12 k q = k (.int .u64) := onK_ty rfl
theorem z6n {k q} : onK Cx 21 k q = k (.int .i32) := onK_ty rfl
theorem z6b {k q} : onK Cx 22 k q = k (.int .i8) := onK_ty rfl
theorem z6j {k q} : onK Cx 23 k q = k (.int .i16) := onK_ty rfl
theorem z6k {k q} : onK Cx 24 k q = k (.arr 8 (.int .i16)) := onK_ty rfl
theorem z6e {k q} : onK Cx 25 k q = k (.arr 8 (.arr 8 (.int .i16))) := onK_ty rfl
theorem z6q {k q} : onK Cx 26 k q = k (.arr 3 (.int .i16)) := onK_ty rfl
theorem z6g {k q} : onK Cx 27 k q = k (.arr 8 (.arr 3 (.int .i16))) := onK_ty rfl
theorem z6s {k q} : onK Cx 28 k q = k (.arr 8 (.arr 8 (.arr 3 (.int .i16)))) := onK_ty rfl
theorem z6x {k q} : onK Cx 29 k q = k (.arr 8 (.int .u8)) := onK_ty rfl
theorem z7m {k q} : onK Cx 31 k q = k shSheet := onK_ty rfl
theorem z8a {k q} : onK Cx 33 k q = k shBrush := onK_ty rfl
theorem z8o {k q} : onK Cx 35 k q = k shSpot := onK_ty rfl
theorem z6u {k q} : onK Cx 36 k q = k shSheet := onK_ty rfl
theorem z8l {k q} : onK Cx 37 k q = k shBrush := onK_ty rfl
theorem z7s {k q} : onK Cx 42 k q = k shSpot := onK_ty rfl
theorem z91 {k q} : onK Cx 48 k q = k shFold := onK_ty rfl
theorem z7i {k q} : onK Cx 51 k q = k shFold := onK_ty rfl
theorem z9y {k q} : onK Cx 57 k q = k (.arr 3 (.int .i64)) := onK_ty rfl
theorem za6 {k q} : onK Cx 69 k q = k (.arr 8 (.arr 8 (.int .u8))) := onK_ty rfl
theorem zab {k q} : onK Cx 71 k q = k shPic := onK_ty rfl
theorem zac {k q} : onK Cx 73 k q = k shPic := onK_ty rfl
theorem zap {k q} : onK Cx 103 k q = k (.arr 2 shSpot) := onK_ty rfl
theorem zgk {k q} : onK Cx 193 k q = k (.int .u64) := onK_ty rfl
theorem zjr {k q} : onK Cx 219 k q = k (.int .u8) := onK_ty rfl
theorem zjs {k q} : onK Cx 220 k q = k (.int .u8) := onK_ty rfl
theorem zjt {k q} : onK Cx 223 k q = k (.int .i32) := onK_ty rfl
theorem z6i : Cx.eq 24 = true := rfl
theorem z6p : Cx.eq 26 = true := rfl
theorem z6w : Cx.eq 29 = true := rfl
theorem z8n : Cx.eq 35 = true := rfl
theorem z7r : Cx.eq 42 = true := rfl
theorem z9x : Cx.eq 57 = true := rfl
theorem cP : Cx.P = Try.prog := rfl
end Go.Proofs.Ytkabilbdppmajaa
