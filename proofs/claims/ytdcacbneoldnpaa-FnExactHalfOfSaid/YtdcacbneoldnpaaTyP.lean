/- The types of this translation, as the evaluator reads them: each entry is proved from the program's own table. No conditions. -/
import Derived.Test.YtdcacbneoldnpaaChecked
import Derived.Test.YtdcacbneoldnpaaInk14
import Derived.KernelRfl
set_option linter.unusedVariables false
set_option linter.unusedSimpArgs false
namespace Go.Proofs.Ytdcacbneoldnpaa
open Ink Go
set_option maxRecDepth 100000
theorem info_of {P : Program} {t : TypeId} {τ : Sh} (h1 : (P.info? t).map (fun i => (i.zero, i.size)) = some (some (enc τ τ.zero), τ.size)) (h2 : (P.info? t).map (fun i => decide (i.bytes ≤ 65536)) = some true) : InfoOk P t τ := by
  cases hi : P.info? t with
  | none => rw [hi] at h1; cases h1
  | some i =>
    rw [hi] at h1 h2
    simp only [Option.map_some, Option.some.injEq, Prod.mk.injEq, decide_eq_true_eq] at h1 h2
    exact ⟨i, hi, h1.2, h1.1, h2⟩
theorem ref_of {P : Program} {t : TypeId} {z : AV} {d : TypeDesc} {x : Value} (hdd : (match d with | .struct _ | .array _ _ => false | _ => true) = true) (hd : P.underlying t = some d) (h1 : (P.info? t).map (fun i => (i.zero, i.size)) = some (some x, 1)) (hx : x.oneCell' = true) (hr : ∀ ρ S w, Rv ρ S w z x) : RefOk P t z := by
  cases hi : P.info? t with
  | none => rw [hi] at h1; cases h1
  | some i =>
    rw [hi] at h1
    simp only [Option.map_some, Option.some.injEq, Prod.mk.injEq] at h1
    exact ⟨d, i, hd, hi, h1.2, ⟨x, h1.1, hx, hr⟩, hdd⟩
theorem ty2 : TyOk Try.prog (.int .i64 : Sh) 2 := by
  have h : InfoOk Try.prog 2 (.int .i64 : Sh) := info_of (by kernel_rfl) (by kernel_rfl)
  unfold TyOk; exact ⟨Try.underlying2, h⟩
theorem ty3 : TyOk Try.prog (.int .i64 : Sh) 3 := by
  have h : InfoOk Try.prog 3 (.int .i64 : Sh) := info_of (by kernel_rfl) (by kernel_rfl)
  unfold TyOk; exact ⟨Try.underlying3, h⟩
theorem ty4 : TyOk Try.prog (.bool : Sh) 4 := by
  have h : InfoOk Try.prog 4 (.bool : Sh) := info_of (by kernel_rfl) (by kernel_rfl)
  unfold TyOk; exact ⟨Try.underlying4, h⟩
theorem ty5 : TyOk Try.prog (.int .u8 : Sh) 5 := by
  have h : InfoOk Try.prog 5 (.int .u8 : Sh) := info_of (by kernel_rfl) (by kernel_rfl)
  unfold TyOk; exact ⟨Try.underlying5, h⟩
theorem ty6 : TyOk Try.prog (.int .u8 : Sh) 6 := by
  have h : InfoOk Try.prog 6 (.int .u8 : Sh) := info_of (by kernel_rfl) (by kernel_rfl)
  unfold TyOk; exact ⟨Try.underlying6, h⟩
theorem ty9 : TyOk Try.prog (.str : Sh) 9 := by
  have h : InfoOk Try.prog 9 (.str : Sh) := info_of (by kernel_rfl) (by kernel_rfl)
  unfold TyOk; exact ⟨Try.underlying9, h⟩
theorem ty10 : TyOk Try.prog (.str : Sh) 10 := by
  have h : InfoOk Try.prog 10 (.str : Sh) := info_of (by kernel_rfl) (by kernel_rfl)
  unfold TyOk; exact ⟨Try.underlying10, h⟩
theorem ty11 : TyOk Try.prog (.str : Sh) 11 := by
  have h : InfoOk Try.prog 11 (.str : Sh) := info_of (by kernel_rfl) (by kernel_rfl)
  unfold TyOk; exact ⟨Try.underlying11, h⟩
theorem ty12 : TyOk Try.prog (.int .u64 : Sh) 12 := by
  have h : InfoOk Try.prog 12 (.int .u64 : Sh) := info_of (by kernel_rfl) (by kernel_rfl)
  unfold TyOk; exact ⟨Try.underlying12, h⟩
theorem ty21 : TyOk Try.prog (.int .i32 : Sh) 21 := by
  have h : InfoOk Try.prog 21 (.int .i32 : Sh) := info_of (by kernel_rfl) (by kernel_rfl)
  unfold TyOk; exact ⟨Try.underlying21, h⟩
theorem ty22 : TyOk Try.prog (.int .i8 : Sh) 22 := by
  have h : InfoOk Try.prog 22 (.int .i8 : Sh) := info_of (by kernel_rfl) (by kernel_rfl)
  unfold TyOk; exact ⟨Try.underlying22, h⟩
theorem ty23 : TyOk Try.prog (.int .i16 : Sh) 23 := by
  have h : InfoOk Try.prog 23 (.int .i16 : Sh) := info_of (by kernel_rfl) (by kernel_rfl)
  unfold TyOk; exact ⟨Try.underlying23, h⟩
theorem ty24 : TyOk Try.prog (.arr 8 (.int .i16) : Sh) 24 := by
  have h : InfoOk Try.prog 24 (.arr 8 (.int .i16) : Sh) := info_of (by kernel_rfl) (by kernel_rfl)
  unfold TyOk; exact ⟨⟨23, Try.underlying24, ty23⟩, h⟩
theorem ty25 : TyOk Try.prog (.arr 8 (.arr 8 (.int .i16)) : Sh) 25 := by
  have h : InfoOk Try.prog 25 (.arr 8 (.arr 8 (.int .i16)) : Sh) := info_of (by kernel_rfl) (by kernel_rfl)
  unfold TyOk; exact ⟨⟨24, Try.underlying25, ty24⟩, h⟩
theorem ty26 : TyOk Try.prog (.arr 3 (.int .i16) : Sh) 26 := by
  have h : InfoOk Try.prog 26 (.arr 3 (.int .i16) : Sh) := info_of (by kernel_rfl) (by kernel_rfl)
  unfold TyOk; exact ⟨⟨23, Try.underlying26, ty23⟩, h⟩
theorem ty27 : TyOk Try.prog (.arr 8 (.arr 3 (.int .i16)) : Sh) 27 := by
  have h : InfoOk Try.prog 27 (.arr 8 (.arr 3 (.int .i16)) : Sh) := info_of (by kernel_rfl) (by kernel_rfl)
  unfold TyOk; exact ⟨⟨26, Try.underlying27, ty26⟩, h⟩
theorem ty28 : TyOk Try.prog (.arr 8 (.arr 8 (.arr 3 (.int .i16))) : Sh) 28 := by
  have h : InfoOk Try.prog 28 (.arr 8 (.arr 8 (.arr 3 (.int .i16))) : Sh) := info_of (by kernel_rfl) (by kernel_rfl)
  unfold TyOk; exact ⟨⟨27, Try.underlying28, ty27⟩, h⟩
theorem ty29 : TyOk Try.prog (.arr 8 (.int .u8) : Sh) 29 := by
  have h : InfoOk Try.prog 29 (.arr 8 (.int .u8) : Sh) := info_of (by kernel_rfl) (by kernel_rfl)
  unfold TyOk; exact ⟨⟨5, Try.underlying29, ty5⟩, h⟩
theorem ty31 : TyOk Try.prog shSheet 31 := by
  have h : InfoOk Try.prog 31 shSheet := info_of (by kernel_rfl) (by kernel_rfl)
  unfold shSheet at h ⊢; unfold TyOk; exact ⟨⟨_, _, _, Try.underlying31, rfl, rfl, by decide, ty22, ⟨rfl, by decide, ty22, ⟨rfl, by decide, ty25, ⟨rfl, by decide, ty28, ⟨rfl, by decide, ty29, trivial⟩⟩⟩⟩⟩, h⟩
theorem ty33 : TyOk Try.prog shSpot 33 := by
  have h : InfoOk Try.prog 33 shSpot := info_of (by kernel_rfl) (by kernel_rfl)
  unfold shSpot at h ⊢; unfold TyOk; exact ⟨⟨_, _, _, Try.underlying33, rfl, rfl, by decide, ty22, ⟨rfl, by decide, ty22, trivial⟩⟩, h⟩
theorem ty36 : TyOk Try.prog shSheet 36 := by
  have h : InfoOk Try.prog 36 shSheet := info_of (by kernel_rfl) (by kernel_rfl)
  unfold shSheet at h ⊢; unfold TyOk; exact ⟨⟨_, _, _, Try.underlying36, rfl, rfl, by decide, ty22, ⟨rfl, by decide, ty22, ⟨rfl, by decide, ty25, ⟨rfl, by decide, ty28, ⟨rfl, by decide, ty29, trivial⟩⟩⟩⟩⟩, h⟩
theorem ty38 : TyOk Try.prog shSpot 38 := by
  have h : InfoOk Try.prog 38 shSpot := info_of (by kernel_rfl) (by kernel_rfl)
  unfold shSpot at h ⊢; unfold TyOk; exact ⟨⟨_, _, _, Try.underlying38, rfl, rfl, by decide, ty22, ⟨rfl, by decide, ty22, trivial⟩⟩, h⟩
theorem ty59 : TyOk Try.prog shFold 59 := by
  have h : InfoOk Try.prog 59 shFold := info_of (by kernel_rfl) (by kernel_rfl)
  unfold shFold at h ⊢; unfold TyOk; exact ⟨⟨_, _, _, Try.underlying59, rfl, rfl, by decide, ty22, ⟨rfl, by decide, ty4, ⟨rfl, by decide, ty22, trivial⟩⟩⟩, h⟩
theorem ty61 : TyOk Try.prog shFold 61 := by
  have h : InfoOk Try.prog 61 shFold := info_of (by kernel_rfl) (by kernel_rfl)
  unfold shFold at h ⊢; unfold TyOk; exact ⟨⟨_, _, _, Try.underlying61, rfl, rfl, by decide, ty22, ⟨rfl, by decide, ty4, ⟨rfl, by decide, ty22, trivial⟩⟩⟩, h⟩
theorem ty86 : TyOk Try.prog (.int .u64 : Sh) 86 := by
  have h : InfoOk Try.prog 86 (.int .u64 : Sh) := info_of (by kernel_rfl) (by kernel_rfl)
  unfold TyOk; exact ⟨Try.underlying86, h⟩
theorem ty119 : TyOk Try.prog (.int .u32 : Sh) 119 := by
  have h : InfoOk Try.prog 119 (.int .u32 : Sh) := info_of (by kernel_rfl) (by kernel_rfl)
  unfold TyOk; exact ⟨Try.underlying119, h⟩
theorem ty120 : TyOk Try.prog (.int .u8 : Sh) 120 := by
  have h : InfoOk Try.prog 120 (.int .u8 : Sh) := info_of (by kernel_rfl) (by kernel_rfl)
  unfold TyOk; exact ⟨Try.underlying120, h⟩
theorem ty121 : TyOk Try.prog (.int .u8 : Sh) 121 := by
  have h : InfoOk Try.prog 121 (.int .u8 : Sh) := info_of (by kernel_rfl) (by kernel_rfl)
  unfold TyOk; exact ⟨Try.underlying121, h⟩
theorem ty124 : TyOk Try.prog (.int .i32 : Sh) 124 := by
  have h : InfoOk Try.prog 124 (.int .i32 : Sh) := info_of (by kernel_rfl) (by kernel_rfl)
  unfold TyOk; exact ⟨Try.underlying124, h⟩
theorem ty125 : TyOk Try.prog (.int .i32 : Sh) 125 := by
  have h : InfoOk Try.prog 125 (.int .i32 : Sh) := info_of (by kernel_rfl) (by kernel_rfl)
  unfold TyOk; exact ⟨Try.underlying125, h⟩
theorem ty131 : TyOk Try.prog (.arr 8 (.arr 8 (.int .i16)) : Sh) 131 := by
  have h : InfoOk Try.prog 131 (.arr 8 (.arr 8 (.int .i16)) : Sh) := info_of (by kernel_rfl) (by kernel_rfl)
  unfold TyOk; exact ⟨⟨24, Try.underlying131, ty24⟩, h⟩
theorem rf1 : RefOk Try.prog 1 (.junk : AV) := ref_of (x := .nilFunc) rfl Try.underlying1 (by kernel_rfl) rfl (fun _ _ _ => trivial)
theorem rf15 : RefOk Try.prog 15 (.nilp : AV) := ref_of (x := .pointer none) rfl Try.underlying15 (by kernel_rfl) rfl (fun _ _ _ => rfl)
theorem rf16 : RefOk Try.prog 16 (.nilp : AV) := ref_of (x := .pointer none) rfl Try.underlying16 (by kernel_rfl) rfl (fun _ _ _ => rfl)
theorem rf17 : RefOk Try.prog 17 (.nilp : AV) := ref_of (x := .pointer none) rfl Try.underlying17 (by kernel_rfl) rfl (fun _ _ _ => rfl)
theorem rf35 : RefOk Try.prog 35 (.junk : AV) := ref_of (x := .nilFunc) rfl Try.underlying35 (by kernel_rfl) rfl (fun _ _ _ => trivial)
theorem rf37 : RefOk Try.prog 37 (.junk : AV) := ref_of (x := .nilFunc) rfl Try.underlying37 (by kernel_rfl) rfl (fun _ _ _ => trivial)
theorem rf39 : RefOk Try.prog 39 (.junk : AV) := ref_of (x := .nilFunc) rfl Try.underlying39 (by kernel_rfl) rfl (fun _ _ _ => trivial)
theorem rf40 : RefOk Try.prog 40 (.junk : AV) := ref_of (x := .nilFunc) rfl Try.underlying40 (by kernel_rfl) rfl (fun _ _ _ => trivial)
theorem rf42 : RefOk Try.prog 42 (.junk : AV) := ref_of (x := .nilFunc) rfl Try.underlying42 (by kernel_rfl) rfl (fun _ _ _ => trivial)
theorem rf43 : RefOk Try.prog 43 (.junk : AV) := ref_of (x := .nilFunc) rfl Try.underlying43 (by kernel_rfl) rfl (fun _ _ _ => trivial)
theorem rf44 : RefOk Try.prog 44 (.junk : AV) := ref_of (x := .nilFunc) rfl Try.underlying44 (by kernel_rfl) rfl (fun _ _ _ => trivial)
theorem rf46 : RefOk Try.prog 46 (.junk : AV) := ref_of (x := .nilFunc) rfl Try.underlying46 (by kernel_rfl) rfl (fun _ _ _ => trivial)
theorem rf47 : RefOk Try.prog 47 (.junk : AV) := ref_of (x := .nilFunc) rfl Try.underlying47 (by kernel_rfl) rfl (fun _ _ _ => trivial)
theorem rf49 : RefOk Try.prog 49 (.junk : AV) := ref_of (x := .nilFunc) rfl Try.underlying49 (by kernel_rfl) rfl (fun _ _ _ => trivial)
theorem rf50 : RefOk Try.prog 50 (.junk : AV) := ref_of (x := .nilFunc) rfl Try.underlying50 (by kernel_rfl) rfl (fun _ _ _ => trivial)
theorem rf51 : RefOk Try.prog 51 (.junk : AV) := ref_of (x := .nilFunc) rfl Try.underlying51 (by kernel_rfl) rfl (fun _ _ _ => trivial)
theorem rf52 : RefOk Try.prog 52 (.junk : AV) := ref_of (x := .nilFunc) rfl Try.underlying52 (by kernel_rfl) rfl (fun _ _ _ => trivial)
theorem rf53 : RefOk Try.prog 53 (.junk : AV) := ref_of (x := .nilFunc) rfl Try.underlying53 (by kernel_rfl) rfl (fun _ _ _ => trivial)
theorem rf54 : RefOk Try.prog 54 (.junk : AV) := ref_of (x := .nilFunc) rfl Try.underlying54 (by kernel_rfl) rfl (fun _ _ _ => trivial)
theorem rf55 : RefOk Try.prog 55 (.junk : AV) := ref_of (x := .nilFunc) rfl Try.underlying55 (by kernel_rfl) rfl (fun _ _ _ => trivial)
theorem rf56 : RefOk Try.prog 56 (.junk : AV) := ref_of (x := .nilFunc) rfl Try.underlying56 (by kernel_rfl) rfl (fun _ _ _ => trivial)
theorem rf57 : RefOk Try.prog 57 (.junk : AV) := ref_of (x := .nilFunc) rfl Try.underlying57 (by kernel_rfl) rfl (fun _ _ _ => trivial)
theorem rf60 : RefOk Try.prog 60 (.junk : AV) := ref_of (x := .nilFunc) rfl Try.underlying60 (by kernel_rfl) rfl (fun _ _ _ => trivial)
theorem rf62 : RefOk Try.prog 62 (.junk : AV) := ref_of (x := .nilFunc) rfl Try.underlying62 (by kernel_rfl) rfl (fun _ _ _ => trivial)
theorem rf63 : RefOk Try.prog 63 (.junk : AV) := ref_of (x := .nilFunc) rfl Try.underlying63 (by kernel_rfl) rfl (fun _ _ _ => trivial)
theorem rf64 : RefOk Try.prog 64 (.junk : AV) := ref_of (x := .nilFunc) rfl Try.underlying64 (by kernel_rfl) rfl (fun _ _ _ => trivial)
theorem rf65 : RefOk Try.prog 65 (.junk : AV) := ref_of (x := .nilFunc) rfl Try.underlying65 (by kernel_rfl) rfl (fun _ _ _ => trivial)
theorem rf66 : RefOk Try.prog 66 (.junk : AV) := ref_of (x := .nilFunc) rfl Try.underlying66 (by kernel_rfl) rfl (fun _ _ _ => trivial)
theorem rf67 : RefOk Try.prog 67 (.nilp : AV) := ref_of (x := .pointer none) rfl Try.underlying67 (by kernel_rfl) rfl (fun _ _ _ => rfl)
theorem rf68 : RefOk Try.prog 68 (.junk : AV) := ref_of (x := .nilFunc) rfl Try.underlying68 (by kernel_rfl) rfl (fun _ _ _ => trivial)
theorem rf69 : RefOk Try.prog 69 (.junk : AV) := ref_of (x := .nilFunc) rfl Try.underlying69 (by kernel_rfl) rfl (fun _ _ _ => trivial)
theorem rf70 : RefOk Try.prog 70 (.junk : AV) := ref_of (x := .nilFunc) rfl Try.underlying70 (by kernel_rfl) rfl (fun _ _ _ => trivial)
theorem rf71 : RefOk Try.prog 71 (.junk : AV) := ref_of (x := .nilFunc) rfl Try.underlying71 (by kernel_rfl) rfl (fun _ _ _ => trivial)
theorem rf72 : RefOk Try.prog 72 (.junk : AV) := ref_of (x := .nilFunc) rfl Try.underlying72 (by kernel_rfl) rfl (fun _ _ _ => trivial)
theorem rf73 : RefOk Try.prog 73 (.junk : AV) := ref_of (x := .nilFunc) rfl Try.underlying73 (by kernel_rfl) rfl (fun _ _ _ => trivial)
theorem rf74 : RefOk Try.prog 74 (.junk : AV) := ref_of (x := .nilFunc) rfl Try.underlying74 (by kernel_rfl) rfl (fun _ _ _ => trivial)
theorem rf75 : RefOk Try.prog 75 (.junk : AV) := ref_of (x := .nilFunc) rfl Try.underlying75 (by kernel_rfl) rfl (fun _ _ _ => trivial)
theorem rf76 : RefOk Try.prog 76 (.nils : AV) := ref_of (x := .slice none 0 0) rfl Try.underlying76 (by kernel_rfl) rfl (fun _ _ _ => rfl)
theorem rf77 : RefOk Try.prog 77 (.junk : AV) := ref_of (x := .nilFunc) rfl Try.underlying77 (by kernel_rfl) rfl (fun _ _ _ => trivial)
theorem rf78 : RefOk Try.prog 78 (.junk : AV) := ref_of (x := .nilFunc) rfl Try.underlying78 (by kernel_rfl) rfl (fun _ _ _ => trivial)
theorem rf80 : RefOk Try.prog 80 (.junk : AV) := ref_of (x := .nilFunc) rfl Try.underlying80 (by kernel_rfl) rfl (fun _ _ _ => trivial)
theorem rf81 : RefOk Try.prog 81 (.junk : AV) := ref_of (x := .nilFunc) rfl Try.underlying81 (by kernel_rfl) rfl (fun _ _ _ => trivial)
theorem rf82 : RefOk Try.prog 82 (.junk : AV) := ref_of (x := .nilFunc) rfl Try.underlying82 (by kernel_rfl) rfl (fun _ _ _ => trivial)
theorem rf83 : RefOk Try.prog 83 (.junk : AV) := ref_of (x := .nilFunc) rfl Try.underlying83 (by kernel_rfl) rfl (fun _ _ _ => trivial)
theorem rf84 : RefOk Try.prog 84 (.junk : AV) := ref_of (x := .nilFunc) rfl Try.underlying84 (by kernel_rfl) rfl (fun _ _ _ => trivial)
theorem rf85 : RefOk Try.prog 85 (.junk : AV) := ref_of (x := .nilFunc) rfl Try.underlying85 (by kernel_rfl) rfl (fun _ _ _ => trivial)
theorem rf87 : RefOk Try.prog 87 (.junk : AV) := ref_of (x := .nilFunc) rfl Try.underlying87 (by kernel_rfl) rfl (fun _ _ _ => trivial)
theorem rf88 : RefOk Try.prog 88 (.junk : AV) := ref_of (x := .nilFunc) rfl Try.underlying88 (by kernel_rfl) rfl (fun _ _ _ => trivial)
theorem rf89 : RefOk Try.prog 89 (.junk : AV) := ref_of (x := .nilFunc) rfl Try.underlying89 (by kernel_rfl) rfl (fun _ _ _ => trivial)
theorem rf90 : RefOk Try.prog 90 (.junk : AV) := ref_of (x := .nilFunc) rfl Try.underlying90 (by kernel_rfl) rfl (fun _ _ _ => trivial)
theorem rf91 : RefOk Try.prog 91 (.junk : AV) := ref_of (x := .nilFunc) rfl Try.underlying91 (by kernel_rfl) rfl (fun _ _ _ => trivial)
theorem rf92 : RefOk Try.prog 92 (.junk : AV) := ref_of (x := .nilFunc) rfl Try.underlying92 (by kernel_rfl) rfl (fun _ _ _ => trivial)
theorem rf93 : RefOk Try.prog 93 (.junk : AV) := ref_of (x := .nilFunc) rfl Try.underlying93 (by kernel_rfl) rfl (fun _ _ _ => trivial)
theorem rf94 : RefOk Try.prog 94 (.junk : AV) := ref_of (x := .nilFunc) rfl Try.underlying94 (by kernel_rfl) rfl (fun _ _ _ => trivial)
theorem rf95 : RefOk Try.prog 95 (.junk : AV) := ref_of (x := .nilFunc) rfl Try.underlying95 (by kernel_rfl) rfl (fun _ _ _ => trivial)
theorem rf96 : RefOk Try.prog 96 (.junk : AV) := ref_of (x := .nilFunc) rfl Try.underlying96 (by kernel_rfl) rfl (fun _ _ _ => trivial)
theorem rf97 : RefOk Try.prog 97 (.junk : AV) := ref_of (x := .nilFunc) rfl Try.underlying97 (by kernel_rfl) rfl (fun _ _ _ => trivial)
theorem rf98 : RefOk Try.prog 98 (.junk : AV) := ref_of (x := .nilFunc) rfl Try.underlying98 (by kernel_rfl) rfl (fun _ _ _ => trivial)
theorem rf99 : RefOk Try.prog 99 (.junk : AV) := ref_of (x := .nilFunc) rfl Try.underlying99 (by kernel_rfl) rfl (fun _ _ _ => trivial)
theorem rf100 : RefOk Try.prog 100 (.junk : AV) := ref_of (x := .nilFunc) rfl Try.underlying100 (by kernel_rfl) rfl (fun _ _ _ => trivial)
theorem rf101 : RefOk Try.prog 101 (.junk : AV) := ref_of (x := .nilFunc) rfl Try.underlying101 (by kernel_rfl) rfl (fun _ _ _ => trivial)
theorem rf102 : RefOk Try.prog 102 (.junk : AV) := ref_of (x := .nilFunc) rfl Try.underlying102 (by kernel_rfl) rfl (fun _ _ _ => trivial)
theorem rf103 : RefOk Try.prog 103 (.junk : AV) := ref_of (x := .nilFunc) rfl Try.underlying103 (by kernel_rfl) rfl (fun _ _ _ => trivial)
theorem rf104 : RefOk Try.prog 104 (.junk : AV) := ref_of (x := .nilFunc) rfl Try.underlying104 (by kernel_rfl) rfl (fun _ _ _ => trivial)
theorem rf105 : RefOk Try.prog 105 (.junk : AV) := ref_of (x := .nilFunc) rfl Try.underlying105 (by kernel_rfl) rfl (fun _ _ _ => trivial)
theorem rf106 : RefOk Try.prog 106 (.junk : AV) := ref_of (x := .nilFunc) rfl Try.underlying106 (by kernel_rfl) rfl (fun _ _ _ => trivial)
theorem rf107 : RefOk Try.prog 107 (.nilp : AV) := ref_of (x := .pointer none) rfl Try.underlying107 (by kernel_rfl) rfl (fun _ _ _ => rfl)
theorem rf108 : RefOk Try.prog 108 (.junk : AV) := ref_of (x := .nilFunc) rfl Try.underlying108 (by kernel_rfl) rfl (fun _ _ _ => trivial)
theorem rf109 : RefOk Try.prog 109 (.junk : AV) := ref_of (x := .nilFunc) rfl Try.underlying109 (by kernel_rfl) rfl (fun _ _ _ => trivial)
theorem rf110 : RefOk Try.prog 110 (.junk : AV) := ref_of (x := .nilFunc) rfl Try.underlying110 (by kernel_rfl) rfl (fun _ _ _ => trivial)
theorem rf111 : RefOk Try.prog 111 (.junk : AV) := ref_of (x := .nilFunc) rfl Try.underlying111 (by kernel_rfl) rfl (fun _ _ _ => trivial)
theorem rf112 : RefOk Try.prog 112 (.junk : AV) := ref_of (x := .nilFunc) rfl Try.underlying112 (by kernel_rfl) rfl (fun _ _ _ => trivial)
theorem rf118 : RefOk Try.prog 118 (.junk : AV) := ref_of (x := .nilFunc) rfl Try.underlying118 (by kernel_rfl) rfl (fun _ _ _ => trivial)
theorem rf122 : RefOk Try.prog 122 (.junk : AV) := ref_of (x := .nilFunc) rfl Try.underlying122 (by kernel_rfl) rfl (fun _ _ _ => trivial)
theorem rf123 : RefOk Try.prog 123 (.nilp : AV) := ref_of (x := .pointer none) rfl Try.underlying123 (by kernel_rfl) rfl (fun _ _ _ => rfl)
theorem rf128 : RefOk Try.prog 128 (.junk : AV) := ref_of (x := .nilFunc) rfl Try.underlying128 (by kernel_rfl) rfl (fun _ _ _ => trivial)
theorem rf129 : RefOk Try.prog 129 (.junk : AV) := ref_of (x := .nilFunc) rfl Try.underlying129 (by kernel_rfl) rfl (fun _ _ _ => trivial)
def tyL : List (Nat × Sh) := [(2, .int .i64), (3, .int .i64), (4, .bool), (5, .int .u8), (6, .int .u8), (9, .str), (10, .str), (11, .str), (12, .int .u64), (21, .int .i32), (22, .int .i8), (23, .int .i16), (24, .arr 8 (.int .i16)), (25, .arr 8 (.arr 8 (.int .i16))), (26, .arr 3 (.int .i16)), (27, .arr 8 (.arr 3 (.int .i16))), (28, .arr 8 (.arr 8 (.arr 3 (.int .i16)))), (29, .arr 8 (.int .u8)), (31, shSheet), (33, shSpot), (36, shSheet), (38, shSpot), (59, shFold), (61, shFold), (86, .int .u64), (119, .int .u32), (120, .int .u8), (121, .int .u8), (124, .int .i32), (125, .int .i32), (131, .arr 8 (.arr 8 (.int .i16)))]
def slL : List (Nat × Sh) := [(76, shSpot)]
def rfL : List (Nat × AV) := [(1, .junk), (15, .nilp), (16, .nilp), (17, .nilp), (35, .junk), (37, .junk), (39, .junk), (40, .junk), (42, .junk), (43, .junk), (44, .junk), (46, .junk), (47, .junk), (49, .junk), (50, .junk), (51, .junk), (52, .junk), (53, .junk), (54, .junk), (55, .junk), (56, .junk), (57, .junk), (60, .junk), (62, .junk), (63, .junk), (64, .junk), (65, .junk), (66, .junk), (67, .nilp), (68, .junk), (69, .junk), (70, .junk), (71, .junk), (72, .junk), (73, .junk), (74, .junk), (75, .junk), (76, .nils), (77, .junk), (78, .junk), (80, .junk), (81, .junk), (82, .junk), (83, .junk), (84, .junk), (85, .junk), (87, .junk), (88, .junk), (89, .junk), (90, .junk), (91, .junk), (92, .junk), (93, .junk), (94, .junk), (95, .junk), (96, .junk), (97, .junk), (98, .junk), (99, .junk), (100, .junk), (101, .junk), (102, .junk), (103, .junk), (104, .junk), (105, .junk), (106, .junk), (107, .nilp), (108, .junk), (109, .junk), (110, .junk), (111, .junk), (112, .junk), (118, .junk), (122, .junk), (123, .nilp), (128, .junk), (129, .junk)]
def eqL : List Nat := [24, 26, 29, 33, 38]
def quL : List Nat := [15, 16, 17, 18, 19, 20, 21, 22, 23, 24, 25, 26, 27, 28, 29, 30, 31, 32, 33, 34, 35, 36, 37, 38, 39, 40, 41, 42, 43, 44, 46, 47, 48, 49, 50, 52, 54, 56, 57, 58, 61, 62, 63, 64, 65, 66, 67, 68, 76, 78, 79, 80, 82, 83, 84, 85, 86, 87, 88, 90, 91, 92, 93, 94, 95, 96, 97, 98]
def apL : List ((Nat × Nat) × List (Nat × Nat)) := [((6, 25), [(29, 48), (31, 48)])]
noncomputable def Cx : Ctx := { P := Try.prog, ty := fun t => tyL.lookup t, sl := fun t => slL.lookup t, rf := fun t => rfL.lookup t, eq := fun t => eqL.elem t, quiet := fun t => quL.elem t, ap := fun i d => (apL.lookup (i, d.getD 0)).getD [] }
theorem lookup_mem {α : Type} {t : Nat} {x : α} : ∀ {l : List (Nat × α)}, l.lookup t = some x → (t, x) ∈ l
  | [], h => by simp at h
  | (s, y) :: l, h => by
    rw [List.lookup_cons] at h
    split at h
    · rename_i e
      have := eq_of_beq e
      cases h
      subst this
      simp
    · exact List.mem_cons_of_mem _ (lookup_mem h)
theorem cqu0 : Cx.quiet 0 = false := rfl
theorem cqu1 : Cx.quiet 1 = false := rfl
theorem cqu2 : Cx.quiet 2 = false := rfl
theorem cqu3 : Cx.quiet 3 = false := rfl
theorem cqu4 : Cx.quiet 4 = false := rfl
theorem cqu5 : Cx.quiet 5 = false := rfl
theorem cqu6 : Cx.quiet 6 = false := rfl
theorem cqu7 : Cx.quiet 7 = false := rfl
theorem cqu8 : Cx.quiet 8 = false := rfl
theorem cqu9 : Cx.quiet 9 = false := rfl
theorem cqu10 : Cx.quiet 10 = false := rfl
theorem cqu11 : Cx.quiet 11 = false := rfl
theorem cqu12 : Cx.quiet 12 = false := rfl
theorem cqu13 : Cx.quiet 13 = false := rfl
theorem cqu14 : Cx.quiet 14 = false := rfl
theorem cqu15 : Cx.quiet 15 = true := rfl
theorem cqu16 : Cx.quiet 16 = true := rfl
theorem cqu17 : Cx.quiet 17 = true := rfl
theorem cqu18 : Cx.quiet 18 = true := rfl
theorem cqu19 : Cx.quiet 19 = true := rfl
theorem cqu20 : Cx.quiet 20 = true := rfl
theorem cqu21 : Cx.quiet 21 = true := rfl
theorem cqu22 : Cx.quiet 22 = true := rfl
theorem cqu23 : Cx.quiet 23 = true := rfl
theorem cqu24 : Cx.quiet 24 = true := rfl
theorem cqu25 : Cx.quiet 25 = true := rfl
theorem cqu26 : Cx.quiet 26 = true := rfl
theorem cqu27 : Cx.quiet 27 = true := rfl
theorem cqu28 : Cx.quiet 28 = true := rfl
theorem cqu29 : Cx.quiet 29 = true := rfl
theorem cqu30 : Cx.quiet 30 = true := rfl
theorem cqu31 : Cx.quiet 31 = true := rfl
theorem cqu32 : Cx.quiet 32 = true := rfl
theorem cqu33 : Cx.quiet 33 = true := rfl
theorem cqu34 : Cx.quiet 34 = true := rfl
theorem cqu35 : Cx.quiet 35 = true := rfl
theorem cqu36 : Cx.quiet 36 = true := rfl
theorem cqu37 : Cx.quiet 37 = true := rfl
theorem cqu38 : Cx.quiet 38 = true := rfl
theorem cqu39 : Cx.quiet 39 = true := rfl
theorem cqu40 : Cx.quiet 40 = true := rfl
theorem cqu41 : Cx.quiet 41 = true := rfl
theorem cqu42 : Cx.quiet 42 = true := rfl
theorem cqu43 : Cx.quiet 43 = true := rfl
theorem cqu44 : Cx.quiet 44 = true := rfl
theorem cqu45 : Cx.quiet 45 = false := rfl
theorem cqu46 : Cx.quiet 46 = true := rfl
theorem cqu47 : Cx.quiet 47 = true := rfl
theorem cqu48 : Cx.quiet 48 = true := rfl
theorem cqu49 : Cx.quiet 49 = true := rfl
theorem cqu50 : Cx.quiet 50 = true := rfl
theorem cqu51 : Cx.quiet 51 = false := rfl
theorem cqu52 : Cx.quiet 52 = true := rfl
theorem cqu53 : Cx.quiet 53 = false := rfl
theorem cqu54 : Cx.quiet 54 = true := rfl
theorem cqu55 : Cx.quiet 55 = false := rfl
theorem cqu56 : Cx.quiet 56 = true := rfl
theorem cqu57 : Cx.quiet 57 = true := rfl
theorem cqu58 : Cx.quiet 58 = true := rfl
theorem cqu59 : Cx.quiet 59 = false := rfl
theorem cqu60 : Cx.quiet 60 = false := rfl
theorem cqu61 : Cx.quiet 61 = true := rfl
theorem cqu62 : Cx.quiet 62 = true := rfl
theorem cqu63 : Cx.quiet 63 = true := rfl
theorem cqu64 : Cx.quiet 64 = true := rfl
theorem cqu65 : Cx.quiet 65 = true := rfl
theorem cqu66 : Cx.quiet 66 = true := rfl
theorem cqu67 : Cx.quiet 67 = true := rfl
theorem cqu68 : Cx.quiet 68 = true := rfl
theorem cqu69 : Cx.quiet 69 = false := rfl
theorem cqu70 : Cx.quiet 70 = false := rfl
theorem cqu71 : Cx.quiet 71 = false := rfl
theorem cqu72 : Cx.quiet 72 = false := rfl
theorem cqu73 : Cx.quiet 73 = false := rfl
theorem cqu74 : Cx.quiet 74 = false := rfl
theorem cqu75 : Cx.quiet 75 = false := rfl
theorem cqu76 : Cx.quiet 76 = true := rfl
theorem cqu77 : Cx.quiet 77 = false := rfl
theorem cqu78 : Cx.quiet 78 = true := rfl
theorem cqu79 : Cx.quiet 79 = true := rfl
theorem cqu80 : Cx.quiet 80 = true := rfl
theorem cqu81 : Cx.quiet 81 = false := rfl
theorem cqu82 : Cx.quiet 82 = true := rfl
theorem cqu83 : Cx.quiet 83 = true := rfl
theorem cqu84 : Cx.quiet 84 = true := rfl
theorem cqu85 : Cx.quiet 85 = true := rfl
theorem cqu86 : Cx.quiet 86 = true := rfl
theorem cqu87 : Cx.quiet 87 = true := rfl
theorem cqu88 : Cx.quiet 88 = true := rfl
theorem cqu89 : Cx.quiet 89 = false := rfl
theorem cqu90 : Cx.quiet 90 = true := rfl
theorem cqu91 : Cx.quiet 91 = true := rfl
theorem cqu92 : Cx.quiet 92 = true := rfl
theorem cqu93 : Cx.quiet 93 = true := rfl
theorem cqu94 : Cx.quiet 94 = true := rfl
theorem cqu95 : Cx.quiet 95 = true := rfl
theorem cqu96 : Cx.quiet 96 = true := rfl
theorem cqu97 : Cx.quiet 97 = true := rfl
theorem cqu98 : Cx.quiet 98 = true := rfl
theorem cqu99 : Cx.quiet 99 = false := rfl
theorem cqu100 : Cx.quiet 100 = false := rfl
theorem cqu101 : Cx.quiet 101 = false := rfl
theorem cqu102 : Cx.quiet 102 = false := rfl
theorem cqu103 : Cx.quiet 103 = false := rfl
theorem cqu104 : Cx.quiet 104 = false := rfl
theorem cqu105 : Cx.quiet 105 = false := rfl
theorem cqu106 : Cx.quiet 106 = false := rfl
theorem cqu107 : Cx.quiet 107 = false := rfl
theorem cqu108 : Cx.quiet 108 = false := rfl
theorem cqu109 : Cx.quiet 109 = false := rfl
theorem cqu110 : Cx.quiet 110 = false := rfl
theorem cqu111 : Cx.quiet 111 = false := rfl
theorem cqu112 : Cx.quiet 112 = false := rfl
theorem cqu113 : Cx.quiet 113 = false := rfl
theorem cqu114 : Cx.quiet 114 = false := rfl
theorem cqu115 : Cx.quiet 115 = false := rfl
theorem cqu116 : Cx.quiet 116 = false := rfl
theorem cqu117 : Cx.quiet 117 = false := rfl
theorem cap1_5 : Cx.ap 1 (some 5) = [] := rfl
theorem cap1_6 : Cx.ap 1 (some 6) = [] := rfl
theorem cap1_8 : Cx.ap 1 (some 8) = [] := rfl
theorem cap1_9 : Cx.ap 1 (some 9) = [] := rfl
theorem cap1_10 : Cx.ap 1 (some 10) = [] := rfl
theorem cap1_12 : Cx.ap 1 (some 12) = [] := rfl
theorem cap1_13 : Cx.ap 1 (some 13) = [] := rfl
theorem cap1_14 : Cx.ap 1 (some 14) = [] := rfl
theorem cap1_16 : Cx.ap 1 (some 16) = [] := rfl
theorem cap2_18 : Cx.ap 2 (some 18) = [] := rfl
theorem cap2_21 : Cx.ap 2 (some 21) = [] := rfl
theorem cap2_24 : Cx.ap 2 (some 24) = [] := rfl
theorem cap2_27 : Cx.ap 2 (some 27) = [] := rfl
theorem cap4_10 : Cx.ap 4 (some 10) = [] := rfl
theorem cap4_12 : Cx.ap 4 (some 12) = [] := rfl
theorem cap4_14 : Cx.ap 4 (some 14) = [] := rfl
theorem cap4_15 : Cx.ap 4 (some 15) = [] := rfl
theorem cap4_16 : Cx.ap 4 (some 16) = [] := rfl
theorem cap4_49 : Cx.ap 4 (some 49) = [] := rfl
theorem cap6_22 : Cx.ap 6 (some 22) = [] := rfl
theorem cap6_23 : Cx.ap 6 (some 23) = [] := rfl
theorem cap6_25 : Cx.ap 6 (some 25) = [(29, 48), (31, 48)] := rfl
theorem cap6_30 : Cx.ap 6 (some 30) = [] := rfl
theorem cap7_36 : Cx.ap 7 (some 36) = [] := rfl
theorem cap8_21 : Cx.ap 8 (some 21) = [] := rfl
theorem cap8_28 : Cx.ap 8 (some 28) = [] := rfl
theorem cap8_35 : Cx.ap 8 (some 35) = [] := rfl
theorem cap8_43 : Cx.ap 8 (some 43) = [] := rfl
theorem cap8_49 : Cx.ap 8 (some 49) = [] := rfl
theorem cap8_55 : Cx.ap 8 (some 55) = [] := rfl
theorem cap10_54 : Cx.ap 10 (some 54) = [] := rfl
theorem cap11_35 : Cx.ap 11 (some 35) = [] := rfl
theorem cap11_67 : Cx.ap 11 (some 67) = [] := rfl
theorem cap12_37 : Cx.ap 12 (some 37) = [] := rfl
theorem cap12_78 : Cx.ap 12 (some 78) = [] := rfl
theorem cap14_49 : Cx.ap 14 (some 49) = [] := rfl
theorem cap15_58 : Cx.ap 15 (some 58) = [] := rfl
theorem ty_all : ∀ x ∈ tyL, TyOk Try.prog x.2 x.1 := by
  unfold tyL
  simp only [List.forall_mem_cons]
  exact ⟨ty2, ty3, ty4, ty5, ty6, ty9, ty10, ty11, ty12, ty21, ty22, ty23, ty24, ty25, ty26, ty27, ty28, ty29, ty31, ty33, ty36, ty38, ty59, ty61, ty86, ty119, ty120, ty121, ty124, ty125, ty131, fun _ h => by simp at h⟩
theorem sl_all : ∀ x ∈ slL, ∃ et, Try.prog.underlying x.1 = some (.slice et) ∧ TyOk Try.prog x.2 et ∧ x.2.size ≠ 0 := by
  unfold slL
  simp only [List.forall_mem_cons]
  exact ⟨⟨38, Try.underlying76, ty38, by decide⟩, fun _ h => by simp at h⟩
theorem rf_all : ∀ x ∈ rfL, RefOk Try.prog x.1 x.2 := by
  unfold rfL
  simp only [List.forall_mem_cons]
  exact ⟨rf1, rf15, rf16, rf17, rf35, rf37, rf39, rf40, rf42, rf43, rf44, rf46, rf47, rf49, rf50, rf51, rf52, rf53, rf54, rf55, rf56, rf57, rf60, rf62, rf63, rf64, rf65, rf66, rf67, rf68, rf69, rf70, rf71, rf72, rf73, rf74, rf75, rf76, rf77, rf78, rf80, rf81, rf82, rf83, rf84, rf85, rf87, rf88, rf89, rf90, rf91, rf92, rf93, rf94, rf95, rf96, rf97, rf98, rf99, rf100, rf101, rf102, rf103, rf104, rf105, rf106, rf107, rf108, rf109, rf110, rf111, rf112, rf118, rf122, rf123, rf128, rf129, fun _ h => by simp at h⟩
theorem eq_all : ∀ t ∈ eqL, Try.prog.eqGuardType Try.prog.depth t = false ∧ Try.prog.stoodInHeld t = false ∧ (∀ fs, Try.prog.underlying t = some (.struct fs) → ∀ f ∈ fs.toList, f.name ≠ "_") := by
  unfold eqL
  simp only [List.forall_mem_cons]
  exact ⟨⟨by kernel_rfl, by kernel_rfl, fun fs h => by rw [Try.underlying24] at h; cases h⟩, ⟨by kernel_rfl, by kernel_rfl, fun fs h => by rw [Try.underlying26] at h; cases h⟩, ⟨by kernel_rfl, by kernel_rfl, fun fs h => by rw [Try.underlying29] at h; cases h⟩, ⟨by kernel_rfl, by kernel_rfl, fun fs h => by rw [Try.underlying33] at h; cases h; decide⟩, ⟨by kernel_rfl, by kernel_rfl, fun fs h => by rw [Try.underlying38] at h; cases h; decide⟩, fun _ h => by simp at h⟩
theorem mixed : Try.prog.follows .mixedOrders = true := by kernel_rfl
theorem Cx_ok : Cx.Ok where
  mixed := mixed
  ty := fun t τ h => ty_all _ (lookup_mem h)
  sl := fun t e h => sl_all _ (lookup_mem h)
  rf := fun t z h => rf_all _ (lookup_mem h)
  eq := fun t h => eq_all t (by simpa [Cx] using h)
theorem cty2 : Cx.ty 2 = some (.int .i64) := rfl
theorem cty3 : Cx.ty 3 = some (.int .i64) := rfl
theorem cty4 : Cx.ty 4 = some .bool := rfl
theorem cty5 : Cx.ty 5 = some (.int .u8) := rfl
theorem cty6 : Cx.ty 6 = some (.int .u8) := rfl
theorem cty9 : Cx.ty 9 = some .str := rfl
theorem cty10 : Cx.ty 10 = some .str := rfl
theorem cty11 : Cx.ty 11 = some .str := rfl
theorem cty12 : Cx.ty 12 = some (.int .u64) := rfl
theorem cty21 : Cx.ty 21 = some (.int .i32) := rfl
theorem cty22 : Cx.ty 22 = some (.int .i8) := rfl
theorem cty23 : Cx.ty 23 = some (.int .i16) := rfl
theorem cty24 : Cx.ty 24 = some (.arr 8 (.int .i16)) := rfl
theorem cty25 : Cx.ty 25 = some (.arr 8 (.arr 8 (.int .i16))) := rfl
theorem cty26 : Cx.ty 26 = some (.arr 3 (.int .i16)) := rfl
theorem cty27 : Cx.ty 27 = some (.arr 8 (.arr 3 (.int .i16))) := rfl
theorem cty28 : Cx.ty 28 = some (.arr 8 (.arr 8 (.arr 3 (.int .i16)))) := rfl
theorem cty29 : Cx.ty 29 = some (.arr 8 (.int .u8)) := rfl
theorem cty31 : Cx.ty 31 = some shSheet := rfl
theorem cty33 : Cx.ty 33 = some shSpot := rfl
theorem cty36 : Cx.ty 36 = some shSheet := rfl
theorem cty38 : Cx.ty 38 = some shSpot := rfl
theorem cty59 : Cx.ty 59 = some shFold := rfl
theorem cty61 : Cx.ty 61 = some shFold := rfl
theorem cty86 : Cx.ty 86 = some (.int .u64) := rfl
theorem cty119 : Cx.ty 119 = some (.int .u32) := rfl
theorem cty120 : Cx.ty 120 = some (.int .u8) := rfl
theorem cty121 : Cx.ty 121 = some (.int .u8) := rfl
theorem cty124 : Cx.ty 124 = some (.int .i32) := rfl
theorem cty125 : Cx.ty 125 = some (.int .i32) := rfl
theorem cty131 : Cx.ty 131 = some (.arr 8 (.arr 8 (.int .i16))) := rfl
theorem csl76 : Cx.sl 76 = some shSpot := rfl
theorem crf1 : Cx.rf 1 = some .junk := rfl
theorem ckr1 {k q} : onK Cx 1 k q = q .junk := onK_rf rfl rfl
theorem crf15 : Cx.rf 15 = some .nilp := rfl
theorem ckr15 {k q} : onK Cx 15 k q = q .nilp := onK_rf rfl rfl
theorem crf16 : Cx.rf 16 = some .nilp := rfl
theorem ckr16 {k q} : onK Cx 16 k q = q .nilp := onK_rf rfl rfl
theorem crf17 : Cx.rf 17 = some .nilp := rfl
theorem ckr17 {k q} : onK Cx 17 k q = q .nilp := onK_rf rfl rfl
theorem crf35 : Cx.rf 35 = some .junk := rfl
theorem ckr35 {k q} : onK Cx 35 k q = q .junk := onK_rf rfl rfl
theorem crf37 : Cx.rf 37 = some .junk := rfl
theorem ckr37 {k q} : onK Cx 37 k q = q .junk := onK_rf rfl rfl
theorem crf39 : Cx.rf 39 = some .junk := rfl
theorem ckr39 {k q} : onK Cx 39 k q = q .junk := onK_rf rfl rfl
theorem crf40 : Cx.rf 40 = some .junk := rfl
theorem ckr40 {k q} : onK Cx 40 k q = q .junk := onK_rf rfl rfl
theorem crf42 : Cx.rf 42 = some .junk := rfl
theorem ckr42 {k q} : onK Cx 42 k q = q .junk := onK_rf rfl rfl
theorem crf43 : Cx.rf 43 = some .junk := rfl
theorem ckr43 {k q} : onK Cx 43 k q = q .junk := onK_rf rfl rfl
theorem crf44 : Cx.rf 44 = some .junk := rfl
theorem ckr44 {k q} : onK Cx 44 k q = q .junk := onK_rf rfl rfl
theorem crf46 : Cx.rf 46 = some .junk := rfl
theorem ckr46 {k q} : onK Cx 46 k q = q .junk := onK_rf rfl rfl
theorem crf47 : Cx.rf 47 = some .junk := rfl
theorem ckr47 {k q} : onK Cx 47 k q = q .junk := onK_rf rfl rfl
theorem crf49 : Cx.rf 49 = some .junk := rfl
theorem ckr49 {k q} : onK Cx 49 k q = q .junk := onK_rf rfl rfl
theorem crf50 : Cx.rf 50 = some .junk := rfl
theorem ckr50 {k q} : onK Cx 50 k q = q .junk := onK_rf rfl rfl
theorem crf51 : Cx.rf 51 = some .junk := rfl
theorem ckr51 {k q} : onK Cx 51 k q = q .junk := onK_rf rfl rfl
theorem crf52 : Cx.rf 52 = some .junk := rfl
theorem ckr52 {k q} : onK Cx 52 k q = q .junk := onK_rf rfl rfl
theorem crf53 : Cx.rf 53 = some .junk := rfl
theorem ckr53 {k q} : onK Cx 53 k q = q .junk := onK_rf rfl rfl
theorem crf54 : Cx.rf 54 = some .junk := rfl
theorem ckr54 {k q} : onK Cx 54 k q = q .junk := onK_rf rfl rfl
theorem crf55 : Cx.rf 55 = some .junk := rfl
theorem ckr55 {k q} : onK Cx 55 k q = q .junk := onK_rf rfl rfl
theorem crf56 : Cx.rf 56 = some .junk := rfl
theorem ckr56 {k q} : onK Cx 56 k q = q .junk := onK_rf rfl rfl
theorem crf57 : Cx.rf 57 = some .junk := rfl
theorem ckr57 {k q} : onK Cx 57 k q = q .junk := onK_rf rfl rfl
theorem crf60 : Cx.rf 60 = some .junk := rfl
theorem ckr60 {k q} : onK Cx 60 k q = q .junk := onK_rf rfl rfl
theorem crf62 : Cx.rf 62 = some .junk := rfl
theorem ckr62 {k q} : onK Cx 62 k q = q .junk := onK_rf rfl rfl
theorem crf63 : Cx.rf 63 = some .junk := rfl
theorem ckr63 {k q} : onK Cx 63 k q = q .junk := onK_rf rfl rfl
theorem crf64 : Cx.rf 64 = some .junk := rfl
theorem ckr64 {k q} : onK Cx 64 k q = q .junk := onK_rf rfl rfl
theorem crf65 : Cx.rf 65 = some .junk := rfl
theorem ckr65 {k q} : onK Cx 65 k q = q .junk := onK_rf rfl rfl
theorem crf66 : Cx.rf 66 = some .junk := rfl
theorem ckr66 {k q} : onK Cx 66 k q = q .junk := onK_rf rfl rfl
theorem crf67 : Cx.rf 67 = some .nilp := rfl
theorem ckr67 {k q} : onK Cx 67 k q = q .nilp := onK_rf rfl rfl
theorem crf68 : Cx.rf 68 = some .junk := rfl
theorem ckr68 {k q} : onK Cx 68 k q = q .junk := onK_rf rfl rfl
theorem crf69 : Cx.rf 69 = some .junk := rfl
theorem ckr69 {k q} : onK Cx 69 k q = q .junk := onK_rf rfl rfl
theorem crf70 : Cx.rf 70 = some .junk := rfl
theorem ckr70 {k q} : onK Cx 70 k q = q .junk := onK_rf rfl rfl
theorem crf71 : Cx.rf 71 = some .junk := rfl
theorem ckr71 {k q} : onK Cx 71 k q = q .junk := onK_rf rfl rfl
theorem crf72 : Cx.rf 72 = some .junk := rfl
theorem ckr72 {k q} : onK Cx 72 k q = q .junk := onK_rf rfl rfl
theorem crf73 : Cx.rf 73 = some .junk := rfl
theorem ckr73 {k q} : onK Cx 73 k q = q .junk := onK_rf rfl rfl
theorem crf74 : Cx.rf 74 = some .junk := rfl
theorem ckr74 {k q} : onK Cx 74 k q = q .junk := onK_rf rfl rfl
theorem crf75 : Cx.rf 75 = some .junk := rfl
theorem ckr75 {k q} : onK Cx 75 k q = q .junk := onK_rf rfl rfl
theorem crf76 : Cx.rf 76 = some .nils := rfl
theorem ckr76 {k q} : onK Cx 76 k q = q .nils := onK_rf rfl rfl
theorem crf77 : Cx.rf 77 = some .junk := rfl
theorem ckr77 {k q} : onK Cx 77 k q = q .junk := onK_rf rfl rfl
theorem crf78 : Cx.rf 78 = some .junk := rfl
theorem ckr78 {k q} : onK Cx 78 k q = q .junk := onK_rf rfl rfl
theorem crf80 : Cx.rf 80 = some .junk := rfl
theorem ckr80 {k q} : onK Cx 80 k q = q .junk := onK_rf rfl rfl
theorem crf81 : Cx.rf 81 = some .junk := rfl
theorem ckr81 {k q} : onK Cx 81 k q = q .junk := onK_rf rfl rfl
theorem crf82 : Cx.rf 82 = some .junk := rfl
theorem ckr82 {k q} : onK Cx 82 k q = q .junk := onK_rf rfl rfl
theorem crf83 : Cx.rf 83 = some .junk := rfl
theorem ckr83 {k q} : onK Cx 83 k q = q .junk := onK_rf rfl rfl
theorem crf84 : Cx.rf 84 = some .junk := rfl
theorem ckr84 {k q} : onK Cx 84 k q = q .junk := onK_rf rfl rfl
theorem crf85 : Cx.rf 85 = some .junk := rfl
theorem ckr85 {k q} : onK Cx 85 k q = q .junk := onK_rf rfl rfl
theorem crf87 : Cx.rf 87 = some .junk := rfl
theorem ckr87 {k q} : onK Cx 87 k q = q .junk := onK_rf rfl rfl
theorem crf88 : Cx.rf 88 = some .junk := rfl
theorem ckr88 {k q} : onK Cx 88 k q = q .junk := onK_rf rfl rfl
theorem crf89 : Cx.rf 89 = some .junk := rfl
theorem ckr89 {k q} : onK Cx 89 k q = q .junk := onK_rf rfl rfl
theorem crf90 : Cx.rf 90 = some .junk := rfl
theorem ckr90 {k q} : onK Cx 90 k q = q .junk := onK_rf rfl rfl
theorem crf91 : Cx.rf 91 = some .junk := rfl
theorem ckr91 {k q} : onK Cx 91 k q = q .junk := onK_rf rfl rfl
theorem crf92 : Cx.rf 92 = some .junk := rfl
theorem ckr92 {k q} : onK Cx 92 k q = q .junk := onK_rf rfl rfl
theorem crf93 : Cx.rf 93 = some .junk := rfl
theorem ckr93 {k q} : onK Cx 93 k q = q .junk := onK_rf rfl rfl
theorem crf94 : Cx.rf 94 = some .junk := rfl
theorem ckr94 {k q} : onK Cx 94 k q = q .junk := onK_rf rfl rfl
theorem crf95 : Cx.rf 95 = some .junk := rfl
theorem ckr95 {k q} : onK Cx 95 k q = q .junk := onK_rf rfl rfl
theorem crf96 : Cx.rf 96 = some .junk := rfl
theorem ckr96 {k q} : onK Cx 96 k q = q .junk := onK_rf rfl rfl
theorem crf97 : Cx.rf 97 = some .junk := rfl
theorem ckr97 {k q} : onK Cx 97 k q = q .junk := onK_rf rfl rfl
theorem crf98 : Cx.rf 98 = some .junk := rfl
theorem ckr98 {k q} : onK Cx 98 k q = q .junk := onK_rf rfl rfl
theorem crf99 : Cx.rf 99 = some .junk := rfl
theorem ckr99 {k q} : onK Cx 99 k q = q .junk := onK_rf rfl rfl
theorem crf100 : Cx.rf 100 = some .junk := rfl
theorem ckr100 {k q} : onK Cx 100 k q = q .junk := onK_rf rfl rfl
theorem crf101 : Cx.rf 101 = some .junk := rfl
theorem ckr101 {k q} : onK Cx 101 k q = q .junk := onK_rf rfl rfl
theorem crf102 : Cx.rf 102 = some .junk := rfl
theorem ckr102 {k q} : onK Cx 102 k q = q .junk := onK_rf rfl rfl
theorem crf103 : Cx.rf 103 = some .junk := rfl
theorem ckr103 {k q} : onK Cx 103 k q = q .junk := onK_rf rfl rfl
theorem crf104 : Cx.rf 104 = some .junk := rfl
theorem ckr104 {k q} : onK Cx 104 k q = q .junk := onK_rf rfl rfl
theorem crf105 : Cx.rf 105 = some .junk := rfl
theorem ckr105 {k q} : onK Cx 105 k q = q .junk := onK_rf rfl rfl
theorem crf106 : Cx.rf 106 = some .junk := rfl
theorem ckr106 {k q} : onK Cx 106 k q = q .junk := onK_rf rfl rfl
theorem crf107 : Cx.rf 107 = some .nilp := rfl
theorem ckr107 {k q} : onK Cx 107 k q = q .nilp := onK_rf rfl rfl
theorem crf108 : Cx.rf 108 = some .junk := rfl
theorem ckr108 {k q} : onK Cx 108 k q = q .junk := onK_rf rfl rfl
theorem crf109 : Cx.rf 109 = some .junk := rfl
theorem ckr109 {k q} : onK Cx 109 k q = q .junk := onK_rf rfl rfl
theorem crf110 : Cx.rf 110 = some .junk := rfl
theorem ckr110 {k q} : onK Cx 110 k q = q .junk := onK_rf rfl rfl
theorem crf111 : Cx.rf 111 = some .junk := rfl
theorem ckr111 {k q} : onK Cx 111 k q = q .junk := onK_rf rfl rfl
theorem crf112 : Cx.rf 112 = some .junk := rfl
theorem ckr112 {k q} : onK Cx 112 k q = q .junk := onK_rf rfl rfl
theorem crf118 : Cx.rf 118 = some .junk := rfl
theorem ckr118 {k q} : onK Cx 118 k q = q .junk := onK_rf rfl rfl
theorem crf122 : Cx.rf 122 = some .junk := rfl
theorem ckr122 {k q} : onK Cx 122 k q = q .junk := onK_rf rfl rfl
theorem crf123 : Cx.rf 123 = some .nilp := rfl
theorem ckr123 {k q} : onK Cx 123 k q = q .nilp := onK_rf rfl rfl
theorem crf128 : Cx.rf 128 = some .junk := rfl
theorem ckr128 {k q} : onK Cx 128 k q = q .junk := onK_rf rfl rfl
theorem crf129 : Cx.rf 129 = some .junk := rfl
theorem ckr129 {k q} : onK Cx 129 k q = q .junk := onK_rf rfl rfl
theorem ckt2 {k q} : onK Cx 2 k q = k (.int .i64) := onK_ty rfl
theorem ckt3 {k q} : onK Cx 3 k q = k (.int .i64) := onK_ty rfl
theorem ckt4 {k q} : onK Cx 4 k q = k .bool := onK_ty rfl
theorem ckt5 {k q} : onK Cx 5 k q = k (.int .u8) := onK_ty rfl
theorem ckt6 {k q} : onK Cx 6 k q = k (.int .u8) := onK_ty rfl
theorem ckt9 {k q} : onK Cx 9 k q = k .str := onK_ty rfl
theorem ckt10 {k q} : onK Cx 10 k q = k .str := onK_ty rfl
theorem ckt11 {k q} : onK Cx 11 k q = k .str := onK_ty rfl
theorem ckt12 {k q} : onK Cx 12 k q = k (.int .u64) := onK_ty rfl
theorem ckt21 {k q} : onK Cx 21 k q = k (.int .i32) := onK_ty rfl
theorem ckt22 {k q} : onK Cx 22 k q = k (.int .i8) := onK_ty rfl
theorem ckt23 {k q} : onK Cx 23 k q = k (.int .i16) := onK_ty rfl
theorem ckt24 {k q} : onK Cx 24 k q = k (.arr 8 (.int .i16)) := onK_ty rfl
theorem ckt25 {k q} : onK Cx 25 k q = k (.arr 8 (.arr 8 (.int .i16))) := onK_ty rfl
theorem ckt26 {k q} : onK Cx 26 k q = k (.arr 3 (.int .i16)) := onK_ty rfl
theorem ckt27 {k q} : onK Cx 27 k q = k (.arr 8 (.arr 3 (.int .i16))) := onK_ty rfl
theorem ckt28 {k q} : onK Cx 28 k q = k (.arr 8 (.arr 8 (.arr 3 (.int .i16)))) := onK_ty rfl
theorem ckt29 {k q} : onK Cx 29 k q = k (.arr 8 (.int .u8)) := onK_ty rfl
theorem ckt31 {k q} : onK Cx 31 k q = k shSheet := onK_ty rfl
theorem ckt33 {k q} : onK Cx 33 k q = k shSpot := onK_ty rfl
theorem ckt36 {k q} : onK Cx 36 k q = k shSheet := onK_ty rfl
theorem ckt38 {k q} : onK Cx 38 k q = k shSpot := onK_ty rfl
theorem ckt59 {k q} : onK Cx 59 k q = k shFold := onK_ty rfl
theorem ckt61 {k q} : onK Cx 61 k q = k shFold := onK_ty rfl
theorem ckt86 {k q} : onK Cx 86 k q = k (.int .u64) := onK_ty rfl
theorem ckt119 {k q} : onK Cx 119 k q = k (.int .u32) := onK_ty rfl
theorem ckt120 {k q} : onK Cx 120 k q = k (.int .u8) := onK_ty rfl
theorem ckt121 {k q} : onK Cx 121 k q = k (.int .u8) := onK_ty rfl
theorem ckt124 {k q} : onK Cx 124 k q = k (.int .i32) := onK_ty rfl
theorem ckt125 {k q} : onK Cx 125 k q = k (.int .i32) := onK_ty rfl
theorem ckt131 {k q} : onK Cx 131 k q = k (.arr 8 (.arr 8 (.int .i16))) := onK_ty rfl
theorem ceq24 : Cx.eq 24 = true := rfl
theorem ceq26 : Cx.eq 26 = true := rfl
theorem ceq29 : Cx.eq 29 = true := rfl
theorem ceq33 : Cx.eq 33 = true := rfl
theorem ceq38 : Cx.eq 38 = true := rfl
theorem cP : Cx.P = Try.prog := rfl
end Go.Proofs.Ytdcacbneoldnpaa
