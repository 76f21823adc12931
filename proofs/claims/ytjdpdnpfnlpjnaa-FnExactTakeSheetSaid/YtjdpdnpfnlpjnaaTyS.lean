/- The types of this translation, as the evaluator reads them: each entry is proved from the program's own table. No conditions. -/
import Derived.Test.YtjdpdnpfnlpjnaaChecked
import Derived.Test.YtjdpdnpfnlpjnaaInkGe
import Derived.KernelRfl
set_option linter.unusedVariables false
set_option linter.unusedSimpArgs false
namespace Go.Proofs.Ytjdpdnpfnlpjnaa
open Ink Go
set_option maxRecDepth 100000
theorem info_of {P : Program} {t : TypeId} {τ : Sh} (h1 : (P.info? t).map (fun i => (i.zero, i.size)) = some (some (enc τ τ.zero), τ.size)) (h2 : (P.info? t).map (fun i => decide (i.bytes ≤ 65536)) = some true) : InfoOk P t τ := by
  cases hi : P.info? t with
  | none => rw [hi] at h1; cases h1
  | some i =>
    rw [hi] at h1 h2
    simp only [Option.map_some, Option.some.injEq, Prod.mk.injEq, decide_eq_true_eq] at h1 h2
    exact ⟨i, hi, h1.2, h1.1, h2⟩
theorem ref_of {P : Program} {t : TypeId} {z : AV} {d : TypeDesc} {x : Value} (hdd : (match d with | .struct _ | .array _ _ => false | _ => true) = true) (hd : P.underlying t = some d) (h1 : (P.info? t).map (fun i => (i.zero, i.size)) = some (some x, 1)) (hx : x.oneCell' = true) (hr : ∀ ρ S w, Rv ρ S w z x) : RefOk P t z := by
  cases hi : P.info? t with
  | none => rw [hi] at h1; cases h1
  | some i =>
    rw [hi] at h1
    simp only [Option.map_some, Option.some.injEq, Prod.mk.injEq] at h1
    exact ⟨d, i, hd, hi, h1.2, ⟨x, h1.1, hx, hr⟩, hdd⟩
theorem ty2 : TyOk Try.prog (.int .i64 : Sh) 2 := by
  have h : InfoOk Try.prog 2 (.int .i64 : Sh) := info_of (by kernel_rfl) (by kernel_rfl)
  unfold TyOk; exact ⟨Try.underlying2, h⟩
theorem ty3 : TyOk Try.prog (.int .i64 : Sh) 3 := by
  have h : InfoOk Try.prog 3 (.int .i64 : Sh) := info_of (by kernel_rfl) (by kernel_rfl)
  unfold TyOk; exact ⟨Try.underlying3, h⟩
theorem ty4 : TyOk Try.prog (.bool : Sh) 4 := by
  have h : InfoOk Try.prog 4 (.bool : Sh) := info_of (by kernel_rfl) (by kernel_rfl)
  unfold TyOk; exact ⟨Try.underlying4, h⟩
theorem ty5 : TyOk Try.prog (.int .u8 : Sh) 5 := by
  have h : InfoOk Try.prog 5 (.int .u8 : Sh) := info_of (by kernel_rfl) (by kernel_rfl)
  unfold TyOk; exact ⟨Try.underlying5, h⟩
theorem ty6 : TyOk Try.prog (.int .u8 : Sh) 6 := by
  have h : InfoOk Try.prog 6 (.int .u8 : Sh) := info_of (by kernel_rfl) (by kernel_rfl)
  unfold TyOk; exact ⟨Try.underlying6, h⟩
theorem ty9 : TyOk Try.prog (.str : Sh) 9 := by
  have h : InfoOk Try.prog 9 (.str : Sh) := info_of (by kernel_rfl) (by kernel_rfl)
  unfold TyOk; exact ⟨Try.underlying9, h⟩
theorem ty10 : TyOk Try.prog (.str : Sh) 10 := by
  have h : InfoOk Try.prog 10 (.str : Sh) := info_of (by kernel_rfl) (by kernel_rfl)
  unfold TyOk; exact ⟨Try.underlying10, h⟩
theorem ty11 : TyOk Try.prog (.str : Sh) 11 := by
  have h : InfoOk Try.prog 11 (.str : Sh) := info_of (by kernel_rfl) (by kernel_rfl)
  unfold TyOk; exact ⟨Try.underlying11, h⟩
theorem ty12 : TyOk Try.prog (.int .u64 : Sh) 12 := by
  have h : InfoOk Try.prog 12 (.int .u64 : Sh) := info_of (by kernel_rfl) (by kernel_rfl)
  unfold TyOk; exact ⟨Try.underlying12, h⟩
theorem ty21 : TyOk Try.prog (.int .i32 : Sh) 21 := by
  have h : InfoOk Try.prog 21 (.int .i32 : Sh) := info_of (by kernel_rfl) (by kernel_rfl)
  unfold TyOk; exact ⟨Try.underlying21, h⟩
theorem ty22 : TyOk Try.prog (.int .i8 : Sh) 22 := by
  have h : InfoOk Try.prog 22 (.int .i8 : Sh) := info_of (by kernel_rfl) (by kernel_rfl)
  unfold TyOk; exact ⟨Try.underlying22, h⟩
theorem ty23 : TyOk Try.prog (.int .i16 : Sh) 23 := by
  have h : InfoOk Try.prog 23 (.int .i16 : Sh) := info_of (by kernel_rfl) (by kernel_rfl)
  unfold TyOk; exact ⟨Try.underlying23, h⟩
theorem ty24 : TyOk Try.prog (.arr 8 (.int .i16) : Sh) 24 := by
  have h : InfoOk Try.prog 24 (.arr 8 (.int .i16) : Sh) := info_of (by kernel_rfl) (by kernel_rfl)
  unfold TyOk; exact ⟨⟨23, Try.underlying24, ty23⟩, h⟩
theorem ty25 : TyOk Try.prog (.arr 8 (.arr 8 (.int .i16)) : Sh) 25 := by
  have h : InfoOk Try.prog 25 (.arr 8 (.arr 8 (.int .i16)) : Sh) := info_of (by kernel_rfl) (by kernel_rfl)
  unfold TyOk; exact ⟨⟨24, Try.underlying25, ty24⟩, h⟩
theorem ty26 : TyOk Try.prog (.arr 3 (.int .i16) : Sh) 26 := by
  have h : InfoOk Try.prog 26 (.arr 3 (.int .i16) : Sh) := info_of (by kernel_rfl) (by kernel_rfl)
  unfold TyOk; exact ⟨⟨23, Try.underlying26, ty23⟩, h⟩
theorem ty27 : TyOk Try.prog (.arr 8 (.arr 3 (.int .i16)) : Sh) 27 := by
  have h : InfoOk Try.prog 27 (.arr 8 (.arr 3 (.int .i16)) : Sh) := info_of (by kernel_rfl) (by kernel_rfl)
  unfold TyOk; exact ⟨⟨26, Try.underlying27, ty26⟩, h⟩
theorem ty28 : TyOk Try.prog (.arr 8 (.arr 8 (.arr 3 (.int .i16))) : Sh) 28 := by
  have h : InfoOk Try.prog 28 (.arr 8 (.arr 8 (.arr 3 (.int .i16))) : Sh) := info_of (by kernel_rfl) (by kernel_rfl)
  unfold TyOk; exact ⟨⟨27, Try.underlying28, ty27⟩, h⟩
theorem ty29 : TyOk Try.prog (.arr 8 (.int .u8) : Sh) 29 := by
  have h : InfoOk Try.prog 29 (.arr 8 (.int .u8) : Sh) := info_of (by kernel_rfl) (by kernel_rfl)
  unfold TyOk; exact ⟨⟨5, Try.underlying29, ty5⟩, h⟩
theorem ty31 : TyOk Try.prog shSheet 31 := by
  have h : InfoOk Try.prog 31 shSheet := info_of (by kernel_rfl) (by kernel_rfl)
  unfold shSheet at h ⊢; unfold TyOk; exact ⟨⟨_, _, _, Try.underlying31, rfl, rfl, by decide, ty22, ⟨rfl, by decide, ty22, ⟨rfl, by decide, ty25, ⟨rfl, by decide, ty28, ⟨rfl, by decide, ty29, trivial⟩⟩⟩⟩⟩, h⟩
theorem ty33 : TyOk Try.prog shSpot 33 := by
  have h : InfoOk Try.prog 33 shSpot := info_of (by kernel_rfl) (by kernel_rfl)
  unfold shSpot at h ⊢; unfold TyOk; exact ⟨⟨_, _, _, Try.underlying33, rfl, rfl, by decide, ty22, ⟨rfl, by decide, ty22, trivial⟩⟩, h⟩
theorem ty36 : TyOk Try.prog shSheet 36 := by
  have h : InfoOk Try.prog 36 shSheet := info_of (by kernel_rfl) (by kernel_rfl)
  unfold shSheet at h ⊢; unfold TyOk; exact ⟨⟨_, _, _, Try.underlying36, rfl, rfl, by decide, ty22, ⟨rfl, by decide, ty22, ⟨rfl, by decide, ty25, ⟨rfl, by decide, ty28, ⟨rfl, by decide, ty29, trivial⟩⟩⟩⟩⟩, h⟩
theorem ty52 : TyOk Try.prog (.arr 3 (.int .i64) : Sh) 52 := by
  have h : InfoOk Try.prog 52 (.arr 3 (.int .i64) : Sh) := info_of (by kernel_rfl) (by kernel_rfl)
  unfold TyOk; exact ⟨⟨2, Try.underlying52, ty2⟩, h⟩
theorem ty83 : TyOk Try.prog shBrush 83 := by
  have h : InfoOk Try.prog 83 shBrush := info_of (by kernel_rfl) (by kernel_rfl)
  unfold shBrush at h ⊢; unfold TyOk; exact ⟨⟨_, _, _, Try.underlying83, rfl, rfl, by decide, ty26, ⟨rfl, by decide, ty23, ⟨rfl, by decide, ty22, trivial⟩⟩⟩, h⟩
theorem ty85 : TyOk Try.prog shBrush 85 := by
  have h : InfoOk Try.prog 85 shBrush := info_of (by kernel_rfl) (by kernel_rfl)
  unfold shBrush at h ⊢; unfold TyOk; exact ⟨⟨_, _, _, Try.underlying85, rfl, rfl, by decide, ty26, ⟨rfl, by decide, ty23, ⟨rfl, by decide, ty22, trivial⟩⟩⟩, h⟩
theorem ty90 : TyOk Try.prog (.arr 8 (.arr 8 (.int .i16)) : Sh) 90 := by
  have h : InfoOk Try.prog 90 (.arr 8 (.arr 8 (.int .i16)) : Sh) := info_of (by kernel_rfl) (by kernel_rfl)
  unfold TyOk; exact ⟨⟨24, Try.underlying90, ty24⟩, h⟩
theorem ty107 : TyOk Try.prog (.arr 8 .bool : Sh) 107 := by
  have h : InfoOk Try.prog 107 (.arr 8 .bool : Sh) := info_of (by kernel_rfl) (by kernel_rfl)
  unfold TyOk; exact ⟨⟨4, Try.underlying107, ty4⟩, h⟩
theorem ty108 : TyOk Try.prog (.arr 8 (.arr 8 .bool) : Sh) 108 := by
  have h : InfoOk Try.prog 108 (.arr 8 (.arr 8 .bool) : Sh) := info_of (by kernel_rfl) (by kernel_rfl)
  unfold TyOk; exact ⟨⟨107, Try.underlying108, ty107⟩, h⟩
theorem ty140 : TyOk Try.prog (.int .u64 : Sh) 140 := by
  have h : InfoOk Try.prog 140 (.int .u64 : Sh) := info_of (by kernel_rfl) (by kernel_rfl)
  unfold TyOk; exact ⟨Try.underlying140, h⟩
theorem ty142 : TyOk Try.prog shSpot 142 := by
  have h : InfoOk Try.prog 142 shSpot := info_of (by kernel_rfl) (by kernel_rfl)
  unfold shSpot at h ⊢; unfold TyOk; exact ⟨⟨_, _, _, Try.underlying142, rfl, rfl, by decide, ty22, ⟨rfl, by decide, ty22, trivial⟩⟩, h⟩
theorem ty190 : TyOk Try.prog (.int .u32 : Sh) 190 := by
  have h : InfoOk Try.prog 190 (.int .u32 : Sh) := info_of (by kernel_rfl) (by kernel_rfl)
  unfold TyOk; exact ⟨Try.underlying190, h⟩
theorem ty191 : TyOk Try.prog (.int .u8 : Sh) 191 := by
  have h : InfoOk Try.prog 191 (.int .u8 : Sh) := info_of (by kernel_rfl) (by kernel_rfl)
  unfold TyOk; exact ⟨Try.underlying191, h⟩
theorem ty192 : TyOk Try.prog (.int .u8 : Sh) 192 := by
  have h : InfoOk Try.prog 192 (.int .u8 : Sh) := info_of (by kernel_rfl) (by kernel_rfl)
  unfold TyOk; exact ⟨Try.underlying192, h⟩
theorem ty195 : TyOk Try.prog (.int .i32 : Sh) 195 := by
  have h : InfoOk Try.prog 195 (.int .i32 : Sh) := info_of (by kernel_rfl) (by kernel_rfl)
  unfold TyOk; exact ⟨Try.underlying195, h⟩
theorem ty196 : TyOk Try.prog (.int .i32 : Sh) 196 := by
  have h : InfoOk Try.prog 196 (.int .i32 : Sh) := info_of (by kernel_rfl) (by kernel_rfl)
  unfold TyOk; exact ⟨Try.underlying196, h⟩
theorem rf1 : RefOk Try.prog 1 (.junk : AV) := ref_of (x := .nilFunc) rfl Try.underlying1 (by kernel_rfl) rfl (fun _ _ _ => trivial)
theorem rf15 : RefOk Try.prog 15 (.nilp : AV) := ref_of (x := .pointer none) rfl Try.underlying15 (by kernel_rfl) rfl (fun _ _ _ => rfl)
theorem rf16 : RefOk Try.prog 16 (.nilp : AV) := ref_of (x := .pointer none) rfl Try.underlying16 (by kernel_rfl) rfl (fun _ _ _ => rfl)
theorem rf17 : RefOk Try.prog 17 (.nilp : AV) := ref_of (x := .pointer none) rfl Try.underlying17 (by kernel_rfl) rfl (fun _ _ _ => rfl)
theorem rf35 : RefOk Try.prog 35 (.junk : AV) := ref_of (x := .nilFunc) rfl Try.underlying35 (by kernel_rfl) rfl (fun _ _ _ => trivial)
theorem rf37 : RefOk Try.prog 37 (.junk : AV) := ref_of (x := .nilFunc) rfl Try.underlying37 (by kernel_rfl) rfl (fun _ _ _ => trivial)
theorem rf38 : RefOk Try.prog 38 (.junk : AV) := ref_of (x := .nilFunc) rfl Try.underlying38 (by kernel_rfl) rfl (fun _ _ _ => trivial)
theorem rf39 : RefOk Try.prog 39 (.junk : AV) := ref_of (x := .nilFunc) rfl Try.underlying39 (by kernel_rfl) rfl (fun _ _ _ => trivial)
theorem rf41 : RefOk Try.prog 41 (.junk : AV) := ref_of (x := .nilFunc) rfl Try.underlying41 (by kernel_rfl) rfl (fun _ _ _ => trivial)
theorem rf42 : RefOk Try.prog 42 (.junk : AV) := ref_of (x := .nilFunc) rfl Try.underlying42 (by kernel_rfl) rfl (fun _ _ _ => trivial)
theorem rf43 : RefOk Try.prog 43 (.nils : AV) := ref_of (x := .slice none 0 0) rfl Try.underlying43 (by kernel_rfl) rfl (fun _ _ _ => rfl)
theorem rf45 : RefOk Try.prog 45 (.junk : AV) := ref_of (x := .nilFunc) rfl Try.underlying45 (by kernel_rfl) rfl (fun _ _ _ => trivial)
theorem rf46 : RefOk Try.prog 46 (.junk : AV) := ref_of (x := .nilFunc) rfl Try.underlying46 (by kernel_rfl) rfl (fun _ _ _ => trivial)
theorem rf47 : RefOk Try.prog 47 (.junk : AV) := ref_of (x := .nilFunc) rfl Try.underlying47 (by kernel_rfl) rfl (fun _ _ _ => trivial)
theorem rf48 : RefOk Try.prog 48 (.junk : AV) := ref_of (x := .nilFunc) rfl Try.underlying48 (by kernel_rfl) rfl (fun _ _ _ => trivial)
theorem rf49 : RefOk Try.prog 49 (.junk : AV) := ref_of (x := .nilFunc) rfl Try.underlying49 (by kernel_rfl) rfl (fun _ _ _ => trivial)
theorem rf50 : RefOk Try.prog 50 (.nils : AV) := ref_of (x := .slice none 0 0) rfl Try.underlying50 (by kernel_rfl) rfl (fun _ _ _ => rfl)
theorem rf51 : RefOk Try.prog 51 (.junk : AV) := ref_of (x := .nilFunc) rfl Try.underlying51 (by kernel_rfl) rfl (fun _ _ _ => trivial)
theorem rf54 : RefOk Try.prog 54 (.junk : AV) := ref_of (x := .nilFunc) rfl Try.underlying54 (by kernel_rfl) rfl (fun _ _ _ => trivial)
theorem rf55 : RefOk Try.prog 55 (.nils : AV) := ref_of (x := .slice none 0 0) rfl Try.underlying55 (by kernel_rfl) rfl (fun _ _ _ => rfl)
theorem rf56 : RefOk Try.prog 56 (.nils : AV) := ref_of (x := .slice none 0 0) rfl Try.underlying56 (by kernel_rfl) rfl (fun _ _ _ => rfl)
theorem rf57 : RefOk Try.prog 57 (.junk : AV) := ref_of (x := .nilFunc) rfl Try.underlying57 (by kernel_rfl) rfl (fun _ _ _ => trivial)
theorem rf58 : RefOk Try.prog 58 (.junk : AV) := ref_of (x := .nilFunc) rfl Try.underlying58 (by kernel_rfl) rfl (fun _ _ _ => trivial)
theorem rf59 : RefOk Try.prog 59 (.junk : AV) := ref_of (x := .nilFunc) rfl Try.underlying59 (by kernel_rfl) rfl (fun _ _ _ => trivial)
theorem rf60 : RefOk Try.prog 60 (.junk : AV) := ref_of (x := .nilFunc) rfl Try.underlying60 (by kernel_rfl) rfl (fun _ _ _ => trivial)
theorem rf61 : RefOk Try.prog 61 (.nils : AV) := ref_of (x := .slice none 0 0) rfl Try.underlying61 (by kernel_rfl) rfl (fun _ _ _ => rfl)
theorem rf63 : RefOk Try.prog 63 (.junk : AV) := ref_of (x := .nilFunc) rfl Try.underlying63 (by kernel_rfl) rfl (fun _ _ _ => trivial)
theorem rf64 : RefOk Try.prog 64 (.junk : AV) := ref_of (x := .nilFunc) rfl Try.underlying64 (by kernel_rfl) rfl (fun _ _ _ => trivial)
theorem rf65 : RefOk Try.prog 65 (.junk : AV) := ref_of (x := .nilFunc) rfl Try.underlying65 (by kernel_rfl) rfl (fun _ _ _ => trivial)
theorem rf66 : RefOk Try.prog 66 (.junk : AV) := ref_of (x := .nilFunc) rfl Try.underlying66 (by kernel_rfl) rfl (fun _ _ _ => trivial)
theorem rf67 : RefOk Try.prog 67 (.junk : AV) := ref_of (x := .nilFunc) rfl Try.underlying67 (by kernel_rfl) rfl (fun _ _ _ => trivial)
theorem rf69 : RefOk Try.prog 69 (.junk : AV) := ref_of (x := .nilFunc) rfl Try.underlying69 (by kernel_rfl) rfl (fun _ _ _ => trivial)
theorem rf71 : RefOk Try.prog 71 (.junk : AV) := ref_of (x := .nilFunc) rfl Try.underlying71 (by kernel_rfl) rfl (fun _ _ _ => trivial)
theorem rf73 : RefOk Try.prog 73 (.junk : AV) := ref_of (x := .nilFunc) rfl Try.underlying73 (by kernel_rfl) rfl (fun _ _ _ => trivial)
theorem rf75 : RefOk Try.prog 75 (.junk : AV) := ref_of (x := .nilFunc) rfl Try.underlying75 (by kernel_rfl) rfl (fun _ _ _ => trivial)
theorem rf76 : RefOk Try.prog 76 (.nils : AV) := ref_of (x := .slice none 0 0) rfl Try.underlying76 (by kernel_rfl) rfl (fun _ _ _ => rfl)
theorem rf77 : RefOk Try.prog 77 (.junk : AV) := ref_of (x := .nilFunc) rfl Try.underlying77 (by kernel_rfl) rfl (fun _ _ _ => trivial)
theorem rf79 : RefOk Try.prog 79 (.junk : AV) := ref_of (x := .nilFunc) rfl Try.underlying79 (by kernel_rfl) rfl (fun _ _ _ => trivial)
theorem rf80 : RefOk Try.prog 80 (.junk : AV) := ref_of (x := .nilFunc) rfl Try.underlying80 (by kernel_rfl) rfl (fun _ _ _ => trivial)
theorem rf81 : RefOk Try.prog 81 (.junk : AV) := ref_of (x := .nilFunc) rfl Try.underlying81 (by kernel_rfl) rfl (fun _ _ _ => trivial)
theorem rf84 : RefOk Try.prog 84 (.junk : AV) := ref_of (x := .nilFunc) rfl Try.underlying84 (by kernel_rfl) rfl (fun _ _ _ => trivial)
theorem rf86 : RefOk Try.prog 86 (.junk : AV) := ref_of (x := .nilFunc) rfl Try.underlying86 (by kernel_rfl) rfl (fun _ _ _ => trivial)
theorem rf87 : RefOk Try.prog 87 (.junk : AV) := ref_of (x := .nilFunc) rfl Try.underlying87 (by kernel_rfl) rfl (fun _ _ _ => trivial)
theorem rf88 : RefOk Try.prog 88 (.junk : AV) := ref_of (x := .nilFunc) rfl Try.underlying88 (by kernel_rfl) rfl (fun _ _ _ => trivial)
theorem rf89 : RefOk Try.prog 89 (.nilp : AV) := ref_of (x := .pointer none) rfl Try.underlying89 (by kernel_rfl) rfl (fun _ _ _ => rfl)
theorem rf92 : RefOk Try.prog 92 (.junk : AV) := ref_of (x := .nilFunc) rfl Try.underlying92 (by kernel_rfl) rfl (fun _ _ _ => trivial)
theorem rf93 : RefOk Try.prog 93 (.junk : AV) := ref_of (x := .nilFunc) rfl Try.underlying93 (by kernel_rfl) rfl (fun _ _ _ => trivial)
theorem rf94 : RefOk Try.prog 94 (.junk : AV) := ref_of (x := .nilFunc) rfl Try.underlying94 (by kernel_rfl) rfl (fun _ _ _ => trivial)
theorem rf95 : RefOk Try.prog 95 (.junk : AV) := ref_of (x := .nilFunc) rfl Try.underlying95 (by kernel_rfl) rfl (fun _ _ _ => trivial)
theorem rf96 : RefOk Try.prog 96 (.junk : AV) := ref_of (x := .nilFunc) rfl Try.underlying96 (by kernel_rfl) rfl (fun _ _ _ => trivial)
theorem rf97 : RefOk Try.prog 97 (.junk : AV) := ref_of (x := .nilFunc) rfl Try.underlying97 (by kernel_rfl) rfl (fun _ _ _ => trivial)
theorem rf98 : RefOk Try.prog 98 (.junk : AV) := ref_of (x := .nilFunc) rfl Try.underlying98 (by kernel_rfl) rfl (fun _ _ _ => trivial)
theorem rf100 : RefOk Try.prog 100 (.junk : AV) := ref_of (x := .nilFunc) rfl Try.underlying100 (by kernel_rfl) rfl (fun _ _ _ => trivial)
theorem rf101 : RefOk Try.prog 101 (.junk : AV) := ref_of (x := .nilFunc) rfl Try.underlying101 (by kernel_rfl) rfl (fun _ _ _ => trivial)
theorem rf102 : RefOk Try.prog 102 (.junk : AV) := ref_of (x := .nilFunc) rfl Try.underlying102 (by kernel_rfl) rfl (fun _ _ _ => trivial)
theorem rf103 : RefOk Try.prog 103 (.junk : AV) := ref_of (x := .nilFunc) rfl Try.underlying103 (by kernel_rfl) rfl (fun _ _ _ => trivial)
theorem rf104 : RefOk Try.prog 104 (.junk : AV) := ref_of (x := .nilFunc) rfl Try.underlying104 (by kernel_rfl) rfl (fun _ _ _ => trivial)
theorem rf105 : RefOk Try.prog 105 (.junk : AV) := ref_of (x := .nilFunc) rfl Try.underlying105 (by kernel_rfl) rfl (fun _ _ _ => trivial)
theorem rf106 : RefOk Try.prog 106 (.junk : AV) := ref_of (x := .nilFunc) rfl Try.underlying106 (by kernel_rfl) rfl (fun _ _ _ => trivial)
theorem rf109 : RefOk Try.prog 109 (.junk : AV) := ref_of (x := .nilFunc) rfl Try.underlying109 (by kernel_rfl) rfl (fun _ _ _ => trivial)
theorem rf110 : RefOk Try.prog 110 (.nilp : AV) := ref_of (x := .pointer none) rfl Try.underlying110 (by kernel_rfl) rfl (fun _ _ _ => rfl)
theorem rf111 : RefOk Try.prog 111 (.junk : AV) := ref_of (x := .nilFunc) rfl Try.underlying111 (by kernel_rfl) rfl (fun _ _ _ => trivial)
theorem rf112 : RefOk Try.prog 112 (.junk : AV) := ref_of (x := .nilFunc) rfl Try.underlying112 (by kernel_rfl) rfl (fun _ _ _ => trivial)
theorem rf113 : RefOk Try.prog 113 (.junk : AV) := ref_of (x := .nilFunc) rfl Try.underlying113 (by kernel_rfl) rfl (fun _ _ _ => trivial)
theorem rf114 : RefOk Try.prog 114 (.junk : AV) := ref_of (x := .nilFunc) rfl Try.underlying114 (by kernel_rfl) rfl (fun _ _ _ => trivial)
theorem rf115 : RefOk Try.prog 115 (.junk : AV) := ref_of (x := .nilFunc) rfl Try.underlying115 (by kernel_rfl) rfl (fun _ _ _ => trivial)
theorem rf116 : RefOk Try.prog 116 (.junk : AV) := ref_of (x := .nilFunc) rfl Try.underlying116 (by kernel_rfl) rfl (fun _ _ _ => trivial)
theorem rf117 : RefOk Try.prog 117 (.junk : AV) := ref_of (x := .nilFunc) rfl Try.underlying117 (by kernel_rfl) rfl (fun _ _ _ => trivial)
theorem rf118 : RefOk Try.prog 118 (.junk : AV) := ref_of (x := .nilFunc) rfl Try.underlying118 (by kernel_rfl) rfl (fun _ _ _ => trivial)
theorem rf119 : RefOk Try.prog 119 (.junk : AV) := ref_of (x := .nilFunc) rfl Try.underlying119 (by kernel_rfl) rfl (fun _ _ _ => trivial)
theorem rf120 : RefOk Try.prog 120 (.junk : AV) := ref_of (x := .nilFunc) rfl Try.underlying120 (by kernel_rfl) rfl (fun _ _ _ => trivial)
theorem rf121 : RefOk Try.prog 121 (.junk : AV) := ref_of (x := .nilFunc) rfl Try.underlying121 (by kernel_rfl) rfl (fun _ _ _ => trivial)
theorem rf122 : RefOk Try.prog 122 (.nilp : AV) := ref_of (x := .pointer none) rfl Try.underlying122 (by kernel_rfl) rfl (fun _ _ _ => rfl)
theorem rf123 : RefOk Try.prog 123 (.junk : AV) := ref_of (x := .nilFunc) rfl Try.underlying123 (by kernel_rfl) rfl (fun _ _ _ => trivial)
theorem rf124 : RefOk Try.prog 124 (.junk : AV) := ref_of (x := .nilFunc) rfl Try.underlying124 (by kernel_rfl) rfl (fun _ _ _ => trivial)
theorem rf125 : RefOk Try.prog 125 (.junk : AV) := ref_of (x := .nilFunc) rfl Try.underlying125 (by kernel_rfl) rfl (fun _ _ _ => trivial)
theorem rf126 : RefOk Try.prog 126 (.junk : AV) := ref_of (x := .nilFunc) rfl Try.underlying126 (by kernel_rfl) rfl (fun _ _ _ => trivial)
theorem rf127 : RefOk Try.prog 127 (.junk : AV) := ref_of (x := .nilFunc) rfl Try.underlying127 (by kernel_rfl) rfl (fun _ _ _ => trivial)
theorem rf128 : RefOk Try.prog 128 (.junk : AV) := ref_of (x := .nilFunc) rfl Try.underlying128 (by kernel_rfl) rfl (fun _ _ _ => trivial)
theorem rf129 : RefOk Try.prog 129 (.junk : AV) := ref_of (x := .nilFunc) rfl Try.underlying129 (by kernel_rfl) rfl (fun _ _ _ => trivial)
theorem rf130 : RefOk Try.prog 130 (.junk : AV) := ref_of (x := .nilFunc) rfl Try.underlying130 (by kernel_rfl) rfl (fun _ _ _ => trivial)
theorem rf131 : RefOk Try.prog 131 (.junk : AV) := ref_of (x := .nilFunc) rfl Try.underlying131 (by kernel_rfl) rfl (fun _ _ _ => trivial)
theorem rf132 : RefOk Try.prog 132 (.junk : AV) := ref_of (x := .nilFunc) rfl Try.underlying132 (by kernel_rfl) rfl (fun _ _ _ => trivial)
theorem rf133 : RefOk Try.prog 133 (.junk : AV) := ref_of (x := .nilFunc) rfl Try.underlying133 (by kernel_rfl) rfl (fun _ _ _ => trivial)
theorem rf134 : RefOk Try.prog 134 (.junk : AV) := ref_of (x := .nilFunc) rfl Try.underlying134 (by kernel_rfl) rfl (fun _ _ _ => trivial)
theorem rf135 : RefOk Try.prog 135 (.junk : AV) := ref_of (x := .nilFunc) rfl Try.underlying135 (by kernel_rfl) rfl (fun _ _ _ => trivial)
theorem rf136 : RefOk Try.prog 136 (.junk : AV) := ref_of (x := .nilFunc) rfl Try.underlying136 (by kernel_rfl) rfl (fun _ _ _ => trivial)
theorem rf137 : RefOk Try.prog 137 (.junk : AV) := ref_of (x := .nilFunc) rfl Try.underlying137 (by kernel_rfl) rfl (fun _ _ _ => trivial)
theorem rf138 : RefOk Try.prog 138 (.junk : AV) := ref_of (x := .nilFunc) rfl Try.underlying138 (by kernel_rfl) rfl (fun _ _ _ => trivial)
theorem rf139 : RefOk Try.prog 139 (.junk : AV) := ref_of (x := .nilFunc) rfl Try.underlying139 (by kernel_rfl) rfl (fun _ _ _ => trivial)
theorem rf141 : RefOk Try.prog 141 (.junk : AV) := ref_of (x := .nilFunc) rfl Try.underlying141 (by kernel_rfl) rfl (fun _ _ _ => trivial)
theorem rf143 : RefOk Try.prog 143 (.junk : AV) := ref_of (x := .nilFunc) rfl Try.underlying143 (by kernel_rfl) rfl (fun _ _ _ => trivial)
theorem rf144 : RefOk Try.prog 144 (.junk : AV) := ref_of (x := .nilFunc) rfl Try.underlying144 (by kernel_rfl) rfl (fun _ _ _ => trivial)
theorem rf145 : RefOk Try.prog 145 (.nilp : AV) := ref_of (x := .pointer none) rfl Try.underlying145 (by kernel_rfl) rfl (fun _ _ _ => rfl)
theorem rf146 : RefOk Try.prog 146 (.junk : AV) := ref_of (x := .nilFunc) rfl Try.underlying146 (by kernel_rfl) rfl (fun _ _ _ => trivial)
theorem rf147 : RefOk Try.prog 147 (.junk : AV) := ref_of (x := .nilFunc) rfl Try.underlying147 (by kernel_rfl) rfl (fun _ _ _ => trivial)
theorem rf148 : RefOk Try.prog 148 (.junk : AV) := ref_of (x := .nilFunc) rfl Try.underlying148 (by kernel_rfl) rfl (fun _ _ _ => trivial)
theorem rf149 : RefOk Try.prog 149 (.junk : AV) := ref_of (x := .nilFunc) rfl Try.underlying149 (by kernel_rfl) rfl (fun _ _ _ => trivial)
theorem rf150 : RefOk Try.prog 150 (.junk : AV) := ref_of (x := .nilFunc) rfl Try.underlying150 (by kernel_rfl) rfl (fun _ _ _ => trivial)
theorem rf151 : RefOk Try.prog 151 (.junk : AV) := ref_of (x := .nilFunc) rfl Try.underlying151 (by kernel_rfl) rfl (fun _ _ _ => trivial)
theorem rf152 : RefOk Try.prog 152 (.junk : AV) := ref_of (x := .nilFunc) rfl Try.underlying152 (by kernel_rfl) rfl (fun _ _ _ => trivial)
theorem rf153 : RefOk Try.prog 153 (.junk : AV) := ref_of (x := .nilFunc) rfl Try.underlying153 (by kernel_rfl) rfl (fun _ _ _ => trivial)
theorem rf154 : RefOk Try.prog 154 (.junk : AV) := ref_of (x := .nilFunc) rfl Try.underlying154 (by kernel_rfl) rfl (fun _ _ _ => trivial)
theorem rf155 : RefOk Try.prog 155 (.junk : AV) := ref_of (x := .nilFunc) rfl Try.underlying155 (by kernel_rfl) rfl (fun _ _ _ => trivial)
theorem rf156 : RefOk Try.prog 156 (.junk : AV) := ref_of (x := .nilFunc) rfl Try.underlying156 (by kernel_rfl) rfl (fun _ _ _ => trivial)
theorem rf157 : RefOk Try.prog 157 (.junk : AV) := ref_of (x := .nilFunc) rfl Try.underlying157 (by kernel_rfl) rfl (fun _ _ _ => trivial)
theorem rf158 : RefOk Try.prog 158 (.junk : AV) := ref_of (x := .nilFunc) rfl Try.underlying158 (by kernel_rfl) rfl (fun _ _ _ => trivial)
theorem rf159 : RefOk Try.prog 159 (.junk : AV) := ref_of (x := .nilFunc) rfl Try.underlying159 (by kernel_rfl) rfl (fun _ _ _ => trivial)
theorem rf160 : RefOk Try.prog 160 (.junk : AV) := ref_of (x := .nilFunc) rfl Try.underlying160 (by kernel_rfl) rfl (fun _ _ _ => trivial)
theorem rf161 : RefOk Try.prog 161 (.junk : AV) := ref_of (x := .nilFunc) rfl Try.underlying161 (by kernel_rfl) rfl (fun _ _ _ => trivial)
theorem rf162 : RefOk Try.prog 162 (.junk : AV) := ref_of (x := .nilFunc) rfl Try.underlying162 (by kernel_rfl) rfl (fun _ _ _ => trivial)
theorem rf163 : RefOk Try.prog 163 (.junk : AV) := ref_of (x := .nilFunc) rfl Try.underlying163 (by kernel_rfl) rfl (fun _ _ _ => trivial)
theorem rf164 : RefOk Try.prog 164 (.junk : AV) := ref_of (x := .nilFunc) rfl Try.underlying164 (by kernel_rfl) rfl (fun _ _ _ => trivial)
theorem rf165 : RefOk Try.prog 165 (.junk : AV) := ref_of (x := .nilFunc) rfl Try.underlying165 (by kernel_rfl) rfl (fun _ _ _ => trivial)
theorem rf166 : RefOk Try.prog 166 (.junk : AV) := ref_of (x := .nilFunc) rfl Try.underlying166 (by kernel_rfl) rfl (fun _ _ _ => trivial)
theorem rf167 : RefOk Try.prog 167 (.junk : AV) := ref_of (x := .nilFunc) rfl Try.underlying167 (by kernel_rfl) rfl (fun _ _ _ => trivial)
theorem rf168 : RefOk Try.prog 168 (.junk : AV) := ref_of (x := .nilFunc) rfl Try.underlying168 (by kernel_rfl) rfl (fun _ _ _ => trivial)
theorem rf169 : RefOk Try.prog 169 (.junk : AV) := ref_of (x := .nilFunc) rfl Try.underlying169 (by kernel_rfl) rfl (fun _ _ _ => trivial)
theorem rf170 : RefOk Try.prog 170 (.junk : AV) := ref_of (x := .nilFunc) rfl Try.underlying170 (by kernel_rfl) rfl (fun _ _ _ => trivial)
theorem rf171 : RefOk Try.prog 171 (.junk : AV) := ref_of (x := .nilFunc) rfl Try.underlying171 (by kernel_rfl) rfl (fun _ _ _ => trivial)
theorem rf172 : RefOk Try.prog 172 (.junk : AV) := ref_of (x := .nilFunc) rfl Try.underlying172 (by kernel_rfl) rfl (fun _ _ _ => trivial)
theorem rf173 : RefOk Try.prog 173 (.junk : AV) := ref_of (x := .nilFunc) rfl Try.underlying173 (by kernel_rfl) rfl (fun _ _ _ => trivial)
theorem rf175 : RefOk Try.prog 175 (.junk : AV) := ref_of (x := .nilFunc) rfl Try.underlying175 (by kernel_rfl) rfl (fun _ _ _ => trivial)
theorem rf176 : RefOk Try.prog 176 (.junk : AV) := ref_of (x := .nilFunc) rfl Try.underlying176 (by kernel_rfl) rfl (fun _ _ _ => trivial)
theorem rf177 : RefOk Try.prog 177 (.junk : AV) := ref_of (x := .nilFunc) rfl Try.underlying177 (by kernel_rfl) rfl (fun _ _ _ => trivial)
theorem rf178 : RefOk Try.prog 178 (.junk : AV) := ref_of (x := .nilFunc) rfl Try.underlying178 (by kernel_rfl) rfl (fun _ _ _ => trivial)
theorem rf179 : RefOk Try.prog 179 (.junk : AV) := ref_of (x := .nilFunc) rfl Try.underlying179 (by kernel_rfl) rfl (fun _ _ _ => trivial)
theorem rf180 : RefOk Try.prog 180 (.nilp : AV) := ref_of (x := .pointer none) rfl Try.underlying180 (by kernel_rfl) rfl (fun _ _ _ => rfl)
theorem rf181 : RefOk Try.prog 181 (.junk : AV) := ref_of (x := .nilFunc) rfl Try.underlying181 (by kernel_rfl) rfl (fun _ _ _ => trivial)
theorem rf182 : RefOk Try.prog 182 (.junk : AV) := ref_of (x := .nilFunc) rfl Try.underlying182 (by kernel_rfl) rfl (fun _ _ _ => trivial)
theorem rf183 : RefOk Try.prog 183 (.junk : AV) := ref_of (x := .nilFunc) rfl Try.underlying183 (by kernel_rfl) rfl (fun _ _ _ => trivial)
theorem rf189 : RefOk Try.prog 189 (.junk : AV) := ref_of (x := .nilFunc) rfl Try.underlying189 (by kernel_rfl) rfl (fun _ _ _ => trivial)
theorem rf193 : RefOk Try.prog 193 (.junk : AV) := ref_of (x := .nilFunc) rfl Try.underlying193 (by kernel_rfl) rfl (fun _ _ _ => trivial)
theorem rf194 : RefOk Try.prog 194 (.nilp : AV) := ref_of (x := .pointer none) rfl Try.underlying194 (by kernel_rfl) rfl (fun _ _ _ => rfl)
def tyL : List (Nat × Sh) := [(2, .int .i64), (3, .int .i64), (4, .bool), (5, .int .u8), (6, .int .u8), (9, .str), (10, .str), (11, .str), (12, .int .u64), (21, .int .i32), (22, .int .i8), (23, .int .i16), (24, .arr 8 (.int .i16)), (25, .arr 8 (.arr 8 (.int .i16))), (26, .arr 3 (.int .i16)), (27, .arr 8 (.arr 3 (.int .i16))), (28, .arr 8 (.arr 8 (.arr 3 (.int .i16)))), (29, .arr 8 (.int .u8)), (31, shSheet), (33, shSpot), (36, shSheet), (52, .arr 3 (.int .i64)), (83, shBrush), (85, shBrush), (90, .arr 8 (.arr 8 (.int .i16))), (107, .arr 8 .bool), (108, .arr 8 (.arr 8 .bool)), (140, .int .u64), (142, shSpot), (190, .int .u32), (191, .int .u8), (192, .int .u8), (195, .int .i32), (196, .int .i32)]
def slL : List (Nat × Sh) := [(43, shSpot), (50, shSheet), (55, shSheet), (56, shSheet), (61, .int .i64), (76, shSpot)]
def rfL : List (Nat × AV) := [(1, .junk), (15, .nilp), (16, .nilp), (17, .nilp), (35, .junk), (37, .junk), (38, .junk), (39, .junk), (41, .junk), (42, .junk), (43, .nils), (45, .junk), (46, .junk), (47, .junk), (48, .junk), (49, .junk), (50, .nils), (51, .junk), (54, .junk), (55, .nils), (56, .nils), (57, .junk), (58, .junk), (59, .junk), (60, .junk), (61, .nils), (63, .junk), (64, .junk), (65, .junk), (66, .junk), (67, .junk), (69, .junk), (71, .junk), (73, .junk), (75, .junk), (76, .nils), (77, .junk), (79, .junk), (80, .junk), (81, .junk), (84, .junk), (86, .junk), (87, .junk), (88, .junk), (89, .nilp), (92, .junk), (93, .junk), (94, .junk), (95, .junk), (96, .junk), (97, .junk), (98, .junk), (100, .junk), (101, .junk), (102, .junk), (103, .junk), (104, .junk), (105, .junk), (106, .junk), (109, .junk), (110, .nilp), (111, .junk), (112, .junk), (113, .junk), (114, .junk), (115, .junk), (116, .junk), (117, .junk), (118, .junk), (119, .junk), (120, .junk), (121, .junk), (122, .nilp), (123, .junk), (124, .junk), (125, .junk), (126, .junk), (127, .junk), (128, .junk), (129, .junk), (130, .junk), (131, .junk), (132, .junk), (133, .junk), (134, .junk), (135, .junk), (136, .junk), (137, .junk), (138, .junk), (139, .junk), (141, .junk), (143, .junk), (144, .junk), (145, .nilp), (146, .junk), (147, .junk), (148, .junk), (149, .junk), (150, .junk), (151, .junk), (152, .junk), (153, .junk), (154, .junk), (155, .junk), (156, .junk), (157, .junk), (158, .junk), (159, .junk), (160, .junk), (161, .junk), (162, .junk), (163, .junk), (164, .junk), (165, .junk), (166, .junk), (167, .junk), (168, .junk), (169, .junk), (170, .junk), (171, .junk), (172, .junk), (173, .junk), (175, .junk), (176, .junk), (177, .junk), (178, .junk), (179, .junk), (180, .nilp), (181, .junk), (182, .junk), (183, .junk), (189, .junk), (193, .junk), (194, .nilp)]
def eqL : List Nat := [24, 26, 29, 33, 52, 142]
def quL : List Nat := [15, 16, 17, 18, 19, 20, 21, 33, 55, 57, 60, 61, 62, 63, 69, 70, 71, 72, 74, 78, 80, 90, 91, 94, 104, 105, 108, 109, 110, 111, 113, 114, 115, 117, 118, 119, 122, 123, 124, 125, 127, 128, 129, 131, 133, 136, 137, 140, 144, 146, 151, 153, 154, 156, 157, 158, 159, 160, 163, 166, 167, 168]
def altL : List ((Nat × Nat × Nat) × OT) := [((1, 5, 5), (.split 1 2 .txt (.perm [0, 2, 1, 3, 4]))), ((4, 19, 13), (.split 1 8 (.split 5 8 .txt (.split 5 9 (.perm [0, 1, 2, 3, 4, 6, 7, 8, 5, 9, 10, 11, 12]) (.perm [0, 1, 2, 3, 4, 6, 7, 8, 9, 5, 10, 11, 12]))) (.split 1 9 (.split 5 9 (.perm [0, 2, 3, 4, 6, 7, 8, 1, 5, 9, 10, 11, 12]) (.perm [0, 2, 3, 4, 6, 7, 8, 1, 9, 5, 10, 11, 12])) (.perm [0, 2, 3, 4, 6, 7, 8, 9, 1, 5, 10, 11, 12])))), ((5, 21, 11), (.split 0 3 (.split 0 8 (.split 4 8 .txt (.perm [0, 1, 2, 3, 5, 6, 7, 8, 4, 9, 10])) (.perm [1, 2, 5, 6, 7, 8, 0, 3, 4, 9, 10])) (.split 0 8 (.split 4 8 (.perm [1, 2, 3, 0, 4, 5, 6, 7, 8, 9, 10]) (.perm [1, 2, 3, 0, 5, 6, 7, 8, 4, 9, 10])) (.perm [1, 2, 3, 5, 6, 7, 8, 0, 4, 9, 10])))), ((7, 17, 7), (.split 0 4 .txt (.perm [1, 2, 3, 4, 0, 5, 6])))]
def apL : List ((Nat × Nat) × List (Nat × Nat)) := [((6, 25), [(29, 48), (31, 48)]), ((13, 56), [(8, 2), (57, 2), (59, 2), (62, 2)])]
noncomputable def Cx : Ctx := { P := Try.prog, ty := fun t => tyL.lookup t, sl := fun t => slL.lookup t, rf := fun t => rfL.lookup t, eq := fun t => eqL.elem t, quiet := fun t => quL.elem t, ap := fun i d => (apL.lookup (i, d.getD 0)).getD [], alt := fun i d m => (altL.lookup (i, d.getD 0, m)).getD .txt, sk := fun t => [56].elem t }
theorem lookup_mem {α : Type} {t : Nat} {x : α} : ∀ {l : List (Nat × α)}, l.lookup t = some x → (t, x) ∈ l
  | [], h => by simp at h
  | (s, y) :: l, h => by
    rw [List.lookup_cons] at h
    split at h
    · rename_i e
      have := eq_of_beq e
      cases h
      subst this
      simp
    · exact List.mem_cons_of_mem _ (lookup_mem h)
theorem zg9 : Cx.quiet 16 = true := rfl
theorem zcc : Cx.quiet 21 = true := rfl
theorem zdu : Cx.quiet 29 = false := rfl
theorem zdv : Cx.quiet 31 = false := rfl
theorem zdw : Cx.quiet 34 = false := rfl
theorem zdx : Cx.quiet 38 = false := rfl
theorem zdy : Cx.quiet 43 = false := rfl
theorem zdz : Cx.quiet 48 = false := rfl
theorem ze0 : Cx.quiet 49 = false := rfl
theorem zf9 : Cx.quiet 57 = true := rfl
theorem zgr : Cx.quiet 60 = true := rfl
theorem zgs : Cx.quiet 61 = true := rfl
theorem zgt : Cx.quiet 62 = true := rfl
theorem zgu : Cx.quiet 69 = true := rfl
theorem zgv : Cx.quiet 70 = true := rfl
theorem zgw : Cx.quiet 71 = true := rfl
theorem zfa : Cx.quiet 84 = false := rfl
theorem zev : Cx.quiet 87 = false := rfl
theorem zew : Cx.quiet 98 = false := rfl
theorem zfw : Cx.quiet 101 = false := rfl
theorem zem : Cx.quiet 104 = true := rfl
theorem ze4 : Cx.quiet 105 = true := rfl
theorem zet : Cx.quiet 106 = false := rfl
theorem zeu : Cx.quiet 107 = false := rfl
theorem zho : Cx.quiet 117 = true := rfl
theorem zez : Cx.quiet 122 = true := rfl
theorem zf0 : Cx.quiet 123 = true := rfl
theorem zfr : Cx.quiet 124 = true := rfl
theorem zhp : Cx.quiet 127 = true := rfl
theorem zhq : Cx.quiet 128 = true := rfl
theorem zfs : Cx.quiet 129 = true := rfl
theorem zeh : Cx.quiet 131 = true := rfl
theorem zei : Cx.quiet 133 = true := rfl
theorem zhr : Cx.quiet 136 = true := rfl
theorem zhs : Cx.quiet 137 = true := rfl
theorem zej : Cx.quiet 144 = true := rfl
theorem zfx : Cx.quiet 145 = false := rfl
theorem zek : Cx.quiet 146 = true := rfl
theorem zil : Cx.quiet 152 = false := rfl
theorem zht : Cx.quiet 163 = true := rfl
theorem zfy : Cx.quiet 164 = false := rfl
theorem zft : Cx.quiet 165 = false := rfl
theorem zfq : Cx.ap 1 (some 4) = [] := rfl
theorem zfu : Cx.ap 1 (some 5) = [] := rfl
theorem zg5 : Cx.ap 1 (some 9) = [] := rfl
theorem zen : Cx.ap 4 (some 10) = [] := rfl
theorem zes : Cx.ap 4 (some 19) = [] := rfl
theorem zj9 : Cx.ap 5 (some 20) = [] := rfl
theorem zf7 : Cx.ap 5 (some 21) = [] := rfl
theorem zg6 : Cx.ap 6 (some 17) = [] := rfl
theorem zf8 : Cx.ap 6 (some 31) = [] := rfl
theorem zg7 : Cx.ap 8 (some 28) = [] := rfl
theorem zfo : Cx.alt 1 (some 4) 12 = .txt := rfl
theorem zj3 : Cx.alt 1 (some 5) 11 = .txt := rfl
theorem zj4 : Cx.alt 1 (some 5) 12 = .txt := rfl
theorem zj5 : Cx.alt 1 (some 5) 13 = .txt := rfl
theorem zj6 : Cx.alt 1 (some 5) 14 = .txt := rfl
theorem zh7 : Cx.alt 1 (some 5) 23 = .txt := rfl
theorem zj7 : Cx.alt 1 (some 5) 27 = .txt := rfl
theorem zg1 : Cx.alt 1 (some 9) 12 = .txt := rfl
theorem zg2 : Cx.alt 4 (some 10) 7 = .txt := rfl
theorem zfp : Cx.alt 4 (some 10) 8 = .txt := rfl
theorem zf4 : Cx.alt 4 (some 10) 29 = .txt := rfl
theorem zer : Cx.alt 4 (some 19) 13 = (.split 1 8 (.split 5 8 .txt (.split 5 9 (.perm [0, 1, 2, 3, 4, 6, 7, 8, 5, 9, 10, 11, 12]) (.perm [0, 1, 2, 3, 4, 6, 7, 8, 9, 5, 10, 11, 12]))) (.split 1 9 (.split 5 9 (.perm [0, 2, 3, 4, 6, 7, 8, 1, 5, 9, 10, 11, 12]) (.perm [0, 2, 3, 4, 6, 7, 8, 1, 9, 5, 10, 11, 12])) (.perm [0, 2, 3, 4, 6, 7, 8, 9, 1, 5, 10, 11, 12]))) := rfl
theorem zj8 : Cx.alt 5 (some 20) 8 = .txt := rfl
theorem zf5 : Cx.alt 5 (some 21) 11 = (.split 0 3 (.split 0 8 (.split 4 8 .txt (.perm [0, 1, 2, 3, 5, 6, 7, 8, 4, 9, 10])) (.perm [1, 2, 5, 6, 7, 8, 0, 3, 4, 9, 10])) (.split 0 8 (.split 4 8 (.perm [1, 2, 3, 0, 4, 5, 6, 7, 8, 9, 10]) (.perm [1, 2, 3, 0, 5, 6, 7, 8, 4, 9, 10])) (.perm [1, 2, 3, 5, 6, 7, 8, 0, 4, 9, 10]))) := rfl
theorem zg3 : Cx.alt 6 (some 17) 10 = .txt := rfl
theorem zf6 : Cx.alt 6 (some 31) 8 = .txt := rfl
theorem zg4 : Cx.alt 8 (some 28) 14 = .txt := rfl
theorem ty_all : ∀ x ∈ tyL, TyOk Try.prog x.2 x.1 := by
  unfold tyL
  simp only [List.forall_mem_cons]
  exact ⟨ty2, ty3, ty4, ty5, ty6, ty9, ty10, ty11, ty12, ty21, ty22, ty23, ty24, ty25, ty26, ty27, ty28, ty29, ty31, ty33, ty36, ty52, ty83, ty85, ty90, ty107, ty108, ty140, ty142, ty190, ty191, ty192, ty195, ty196, fun _ h => by simp at h⟩
theorem sl_all : ∀ x ∈ slL, ∃ et, Try.prog.underlying x.1 = some (.slice et) ∧ TyOk Try.prog x.2 et ∧ x.2.size ≠ 0 := by
  unfold slL
  simp only [List.forall_mem_cons]
  exact ⟨⟨33, Try.underlying43, ty33, by decide⟩, ⟨31, Try.underlying50, ty31, by decide⟩, ⟨36, Try.underlying55, ty36, by decide⟩, ⟨36, Try.underlying56, ty36, by decide⟩, ⟨2, Try.underlying61, ty2, by decide⟩, ⟨142, Try.underlying76, ty142, by decide⟩, fun _ h => by simp at h⟩
theorem rf_all : ∀ x ∈ rfL, RefOk Try.prog x.1 x.2 := by
  unfold rfL
  simp only [List.forall_mem_cons]
  exact ⟨rf1, rf15, rf16, rf17, rf35, rf37, rf38, rf39, rf41, rf42, rf43, rf45, rf46, rf47, rf48, rf49, rf50, rf51, rf54, rf55, rf56, rf57, rf58, rf59, rf60, rf61, rf63, rf64, rf65, rf66, rf67, rf69, rf71, rf73, rf75, rf76, rf77, rf79, rf80, rf81, rf84, rf86, rf87, rf88, rf89, rf92, rf93, rf94, rf95, rf96, rf97, rf98, rf100, rf101, rf102, rf103, rf104, rf105, rf106, rf109, rf110, rf111, rf112, rf113, rf114, rf115, rf116, rf117, rf118, rf119, rf120, rf121, rf122, rf123, rf124, rf125, rf126, rf127, rf128, rf129, rf130, rf131, rf132, rf133, rf134, rf135, rf136, rf137, rf138, rf139, rf141, rf143, rf144, rf145, rf146, rf147, rf148, rf149, rf150, rf151, rf152, rf153, rf154, rf155, rf156, rf157, rf158, rf159, rf160, rf161, rf162, rf163, rf164, rf165, rf166, rf167, rf168, rf169, rf170, rf171, rf172, rf173, rf175, rf176, rf177, rf178, rf179, rf180, rf181, rf182, rf183, rf189, rf193, rf194, fun _ h => by simp at h⟩
theorem eq_all : ∀ t ∈ eqL, Try.prog.eqGuardType Try.prog.depth t = false ∧ Try.prog.stoodInHeld t = false ∧ (∀ fs, Try.prog.underlying t = some (.struct fs) → ∀ f ∈ fs.toList, f.name ≠ "_") := by
  unfold eqL
  simp only [List.forall_mem_cons]
  exact ⟨⟨by kernel_rfl, by kernel_rfl, fun fs h => by rw [Try.underlying24] at h; cases h⟩, ⟨by kernel_rfl, by kernel_rfl, fun fs h => by rw [Try.underlying26] at h; cases h⟩, ⟨by kernel_rfl, by kernel_rfl, fun fs h => by rw [Try.underlying29] at h; cases h⟩, ⟨by kernel_rfl, by kernel_rfl, fun fs h => by rw [Try.underlying33] at h; cases h; decide⟩, ⟨by kernel_rfl, by kernel_rfl, fun fs h => by rw [Try.underlying52] at h; cases h⟩, ⟨by kernel_rfl, by kernel_rfl, fun fs h => by rw [Try.underlying142] at h; cases h; decide⟩, fun _ h => by simp at h⟩
theorem mixed : Try.prog.follows .mixedOrders = true := by kernel_rfl
theorem Cx_ok : Cx.Ok where
  mixed := mixed
  ty := fun t τ h => ty_all _ (lookup_mem h)
  sl := fun t e h => sl_all _ (lookup_mem h)
  rf := fun t z h => rf_all _ (lookup_mem h)
  eq := fun t h => eq_all t (by simpa [Cx] using h)
theorem z0s : Cx.ty 2 = some (.int .i64) := rfl
theorem z0t : Cx.ty 3 = some (.int .i64) := rfl
theorem z0u : Cx.ty 4 = some .bool := rfl
theorem z0v : Cx.ty 5 = some (.int .u8) := rfl
theorem z65 : Cx.ty 6 = some (.int .u8) := rfl
theorem z67 : Cx.ty 9 = some .str := rfl
theorem z6b : Cx.ty 10 = some .str := rfl
theorem z6c : Cx.ty 11 = some .str := rfl
theorem z6d : Cx.ty 12 = some (.int .u64) := rfl
theorem z6t : Cx.ty 21 = some (.int .i32) := rfl
theorem z6v : Cx.ty 22 = some (.int .i8) := rfl
theorem z6r : Cx.ty 23 = some (.int .i16) := rfl
theorem z73 : Cx.ty 24 = some (.arr 8 (.int .i16)) := rfl
theorem z74 : Cx.ty 25 = some (.arr 8 (.arr 8 (.int .i16))) := rfl
theorem z75 : Cx.ty 26 = some (.arr 3 (.int .i16)) := rfl
theorem z6x : Cx.ty 27 = some (.arr 8 (.arr 3 (.int .i16))) := rfl
theorem z7d : Cx.ty 28 = some (.arr 8 (.arr 8 (.arr 3 (.int .i16)))) := rfl
theorem z78 : Cx.ty 29 = some (.arr 8 (.int .u8)) := rfl
theorem z7f : Cx.ty 31 = some shSheet := rfl
theorem z7i : Cx.ty 33 = some shSpot := rfl
theorem z6j : Cx.ty 36 = some shSheet := rfl
theorem z9g : Cx.ty 52 = some (.arr 3 (.int .i64)) := rfl
theorem zdk : Cx.ty 83 = some shBrush := rfl
theorem ze2 : Cx.ty 85 = some shBrush := rfl
theorem ze3 : Cx.ty 90 = some (.arr 8 (.arr 8 (.int .i16))) := rfl
theorem z8q : Cx.ty 107 = some (.arr 8 .bool) := rfl
theorem z97 : Cx.ty 108 = some (.arr 8 (.arr 8 .bool)) := rfl
theorem zh2 : Cx.ty 140 = some (.int .u64) := rfl
theorem zh3 : Cx.ty 190 = some (.int .u32) := rfl
theorem zh4 : Cx.ty 192 = some (.int .u8) := rfl
theorem zh5 : Cx.ty 195 = some (.int .i32) := rfl
theorem zh6 : Cx.ty 196 = some (.int .i32) := rfl
theorem z8i : Cx.sl 43 = some shSpot := rfl
theorem z7w : Cx.sl 50 = some shSheet := rfl
theorem z88 : Cx.sl 55 = some shSheet := rfl
theorem z6p : Cx.sl 56 = some shSheet := rfl
theorem z95 : Cx.sl 61 = some (.int .i64) := rfl
theorem za8 : Cx.sl 76 = some shSpot := rfl
theorem z8h : Cx.sk 43 = false := rfl
theorem z7v : Cx.sk 50 = false := rfl
theorem z87 : Cx.sk 55 = false := rfl
theorem z6o : Cx.sk 56 = true := rfl
theorem z94 : Cx.sk 61 = false := rfl
theorem za7 : Cx.sk 76 = false := rfl
theorem z0r : Cx.rf 1 = some .junk := rfl
theorem z0m {k q} : onK Cx 1 k q = q .junk := onK_rf rfl rfl
theorem z6f : Cx.rf 15 = some .nilp := rfl
theorem z6e {k q} : onK Cx 15 k q = q .nilp := onK_rf rfl rfl
theorem z6h : Cx.rf 16 = some .nilp := rfl
theorem z6g {k q} : onK Cx 16 k q = q .nilp := onK_rf rfl rfl
theorem z6l : Cx.rf 17 = some .nilp := rfl
theorem z6k {k q} : onK Cx 17 k q = q .nilp := onK_rf rfl rfl
theorem z7k : Cx.rf 35 = some .junk := rfl
theorem z7j {k q} : onK Cx 35 k q = q .junk := onK_rf rfl rfl
theorem z7s : Cx.rf 37 = some .junk := rfl
theorem z7r {k q} : onK Cx 37 k q = q .junk := onK_rf rfl rfl
theorem z81 : Cx.rf 38 = some .junk := rfl
theorem z7x {k q} : onK Cx 38 k q = q .junk := onK_rf rfl rfl
theorem z82 : Cx.rf 39 = some .junk := rfl
theorem z7y {k q} : onK Cx 39 k q = q .junk := onK_rf rfl rfl
theorem z83 : Cx.rf 41 = some .junk := rfl
theorem z7z {k q} : onK Cx 41 k q = q .junk := onK_rf rfl rfl
theorem z84 : Cx.rf 42 = some .junk := rfl
theorem z80 {k q} : onK Cx 42 k q = q .junk := onK_rf rfl rfl
theorem z8f : Cx.rf 43 = some .nils := rfl
theorem z8d {k q} : onK Cx 43 k q = q .nils := onK_rf rfl rfl
theorem z8u : Cx.rf 45 = some .junk := rfl
theorem z8t {k q} : onK Cx 45 k q = q .junk := onK_rf rfl rfl
theorem z8c : Cx.rf 46 = some .junk := rfl
theorem z8b {k q} : onK Cx 46 k q = q .junk := onK_rf rfl rfl
theorem z8l : Cx.rf 47 = some .junk := rfl
theorem z8j {k q} : onK Cx 47 k q = q .junk := onK_rf rfl rfl
theorem z8m : Cx.rf 48 = some .junk := rfl
theorem z8k {k q} : onK Cx 48 k q = q .junk := onK_rf rfl rfl
theorem z91 : Cx.rf 49 = some .junk := rfl
theorem z90 {k q} : onK Cx 49 k q = q .junk := onK_rf rfl rfl
theorem z7u : Cx.rf 50 = some .nils := rfl
theorem z7t {k q} : onK Cx 50 k q = q .nils := onK_rf rfl rfl
theorem z8g : Cx.rf 51 = some .junk := rfl
theorem z8e {k q} : onK Cx 51 k q = q .junk := onK_rf rfl rfl
theorem z8w : Cx.rf 54 = some .junk := rfl
theorem z8v {k q} : onK Cx 54 k q = q .junk := onK_rf rfl rfl
theorem z86 : Cx.rf 55 = some .nils := rfl
theorem z85 {k q} : onK Cx 55 k q = q .nils := onK_rf rfl rfl
theorem z6n : Cx.rf 56 = some .nils := rfl
theorem z6m {k q} : onK Cx 56 k q = q .nils := onK_rf rfl rfl
theorem z8a : Cx.rf 57 = some .junk := rfl
theorem z89 {k q} : onK Cx 57 k q = q .junk := onK_rf rfl rfl
theorem z9m : Cx.rf 58 = some .junk := rfl
theorem z9i {k q} : onK Cx 58 k q = q .junk := onK_rf rfl rfl
theorem z8s : Cx.rf 59 = some .junk := rfl
theorem z8r {k q} : onK Cx 59 k q = q .junk := onK_rf rfl rfl
theorem z8o : Cx.rf 60 = some .junk := rfl
theorem z8n {k q} : onK Cx 60 k q = q .junk := onK_rf rfl rfl
theorem z93 : Cx.rf 61 = some .nils := rfl
theorem z92 {k q} : onK Cx 61 k q = q .nils := onK_rf rfl rfl
theorem z9n : Cx.rf 63 = some .junk := rfl
theorem z9j {k q} : onK Cx 63 k q = q .junk := onK_rf rfl rfl
theorem zao : Cx.rf 64 = some .junk := rfl
theorem zan {k q} : onK Cx 64 k q = q .junk := onK_rf rfl rfl
theorem z9o : Cx.rf 65 = some .junk := rfl
theorem z9k {k q} : onK Cx 65 k q = q .junk := onK_rf rfl rfl
theorem zal : Cx.rf 66 = some .junk := rfl
theorem zaj {k q} : onK Cx 66 k q = q .junk := onK_rf rfl rfl
theorem z9e : Cx.rf 67 = some .junk := rfl
theorem z9a {k q} : onK Cx 67 k q = q .junk := onK_rf rfl rfl
theorem za0 : Cx.rf 69 = some .junk := rfl
theorem z9w {k q} : onK Cx 69 k q = q .junk := onK_rf rfl rfl
theorem z9f : Cx.rf 71 = some .junk := rfl
theorem z9b {k q} : onK Cx 71 k q = q .junk := onK_rf rfl rfl
theorem za4 : Cx.rf 73 = some .junk := rfl
theorem za1 {k q} : onK Cx 73 k q = q .junk := onK_rf rfl rfl
theorem zai : Cx.rf 75 = some .junk := rfl
theorem zad {k q} : onK Cx 75 k q = q .junk := onK_rf rfl rfl
theorem za5 : Cx.rf 76 = some .nils := rfl
theorem za2 {k q} : onK Cx 76 k q = q .nils := onK_rf rfl rfl
theorem zam : Cx.rf 77 = some .junk := rfl
theorem zak {k q} : onK Cx 77 k q = q .junk := onK_rf rfl rfl
theorem zdf : Cx.rf 79 = some .junk := rfl
theorem zd5 {k q} : onK Cx 79 k q = q .junk := onK_rf rfl rfl
theorem zcj : Cx.rf 80 = some .junk := rfl
theorem zcg {k q} : onK Cx 80 k q = q .junk := onK_rf rfl rfl
theorem zck : Cx.rf 81 = some .junk := rfl
theorem zch {k q} : onK Cx 81 k q = q .junk := onK_rf rfl rfl
theorem zb1 : Cx.rf 84 = some .junk := rfl
theorem zay {k q} : onK Cx 84 k q = q .junk := onK_rf rfl rfl
theorem zdo : Cx.rf 86 = some .junk := rfl
theorem zdl {k q} : onK Cx 86 k q = q .junk := onK_rf rfl rfl
theorem zaw : Cx.rf 87 = some .junk := rfl
theorem zat {k q} : onK Cx 87 k q = q .junk := onK_rf rfl rfl
theorem zdp : Cx.rf 88 = some .junk := rfl
theorem zdm {k q} : onK Cx 88 k q = q .junk := onK_rf rfl rfl
theorem za6 : Cx.rf 89 = some .nilp := rfl
theorem za3 {k q} : onK Cx 89 k q = q .nilp := onK_rf rfl rfl
theorem zdq : Cx.rf 92 = some .junk := rfl
theorem zdn {k q} : onK Cx 92 k q = q .junk := onK_rf rfl rfl
theorem ze1 : Cx.rf 93 = some .junk := rfl
theorem zdr {k q} : onK Cx 93 k q = q .junk := onK_rf rfl rfl
theorem zdg : Cx.rf 94 = some .junk := rfl
theorem zd6 {k q} : onK Cx 94 k q = q .junk := onK_rf rfl rfl
theorem zdh : Cx.rf 95 = some .junk := rfl
theorem zd7 {k q} : onK Cx 95 k q = q .junk := onK_rf rfl rfl
theorem zdi : Cx.rf 96 = some .junk := rfl
theorem zd8 {k q} : onK Cx 96 k q = q .junk := onK_rf rfl rfl
theorem zdj : Cx.rf 97 = some .junk := rfl
theorem zd9 {k q} : onK Cx 97 k q = q .junk := onK_rf rfl rfl
theorem zb2 : Cx.rf 98 = some .junk := rfl
theorem zaz {k q} : onK Cx 98 k q = q .junk := onK_rf rfl rfl
theorem zdb : Cx.rf 100 = some .junk := rfl
theorem zd1 {k q} : onK Cx 100 k q = q .junk := onK_rf rfl rfl
theorem zca : Cx.rf 101 = some .junk := rfl
theorem zc8 {k q} : onK Cx 101 k q = q .junk := onK_rf rfl rfl
theorem zdc : Cx.rf 102 = some .junk := rfl
theorem zd2 {k q} : onK Cx 102 k q = q .junk := onK_rf rfl rfl
theorem zdd : Cx.rf 103 = some .junk := rfl
theorem zd3 {k q} : onK Cx 103 k q = q .junk := onK_rf rfl rfl
theorem zaq : Cx.rf 104 = some .junk := rfl
theorem zap {k q} : onK Cx 104 k q = q .junk := onK_rf rfl rfl
theorem z8y : Cx.rf 105 = some .junk := rfl
theorem z8x {k q} : onK Cx 105 k q = q .junk := onK_rf rfl rfl
theorem zb0 : Cx.rf 106 = some .junk := rfl
theorem zax {k q} : onK Cx 106 k q = q .junk := onK_rf rfl rfl
theorem z9r : Cx.rf 109 = some .junk := rfl
theorem z9p {k q} : onK Cx 109 k q = q .junk := onK_rf rfl rfl
theorem zcb : Cx.rf 110 = some .nilp := rfl
theorem zc9 {k q} : onK Cx 110 k q = q .nilp := onK_rf rfl rfl
theorem zae : Cx.rf 111 = some .junk := rfl
theorem za9 {k q} : onK Cx 111 k q = q .junk := onK_rf rfl rfl
theorem zaf : Cx.rf 112 = some .junk := rfl
theorem zaa {k q} : onK Cx 112 k q = q .junk := onK_rf rfl rfl
theorem z9d : Cx.rf 113 = some .junk := rfl
theorem z99 {k q} : onK Cx 113 k q = q .junk := onK_rf rfl rfl
theorem z9s : Cx.rf 114 = some .junk := rfl
theorem z9q {k q} : onK Cx 114 k q = q .junk := onK_rf rfl rfl
theorem zag : Cx.rf 115 = some .junk := rfl
theorem zab {k q} : onK Cx 115 k q = q .junk := onK_rf rfl rfl
theorem zah : Cx.rf 116 = some .junk := rfl
theorem zac {k q} : onK Cx 116 k q = q .junk := onK_rf rfl rfl
theorem zde : Cx.rf 117 = some .junk := rfl
theorem zd4 {k q} : onK Cx 117 k q = q .junk := onK_rf rfl rfl
theorem z9x : Cx.rf 118 = some .junk := rfl
theorem z9t {k q} : onK Cx 118 k q = q .junk := onK_rf rfl rfl
theorem z9y : Cx.rf 119 = some .junk := rfl
theorem z9u {k q} : onK Cx 119 k q = q .junk := onK_rf rfl rfl
theorem z9z : Cx.rf 120 = some .junk := rfl
theorem z9v {k q} : onK Cx 120 k q = q .junk := onK_rf rfl rfl
theorem zci : Cx.rf 121 = some .junk := rfl
theorem zcf {k q} : onK Cx 121 k q = q .junk := onK_rf rfl rfl
theorem zau : Cx.rf 122 = some .nilp := rfl
theorem zar {k q} : onK Cx 122 k q = q .nilp := onK_rf rfl rfl
theorem zav : Cx.rf 123 = some .junk := rfl
theorem zas {k q} : onK Cx 123 k q = q .junk := onK_rf rfl rfl
theorem zb4 : Cx.rf 124 = some .junk := rfl
theorem zb3 {k q} : onK Cx 124 k q = q .junk := onK_rf rfl rfl
theorem z9l : Cx.rf 125 = some .junk := rfl
theorem z9h {k q} : onK Cx 125 k q = q .junk := onK_rf rfl rfl
theorem ze6 : Cx.rf 126 = some .junk := rfl
theorem ze5 {k q} : onK Cx 126 k q = q .junk := onK_rf rfl rfl
theorem zhu : Cx.rf 127 = some .junk := rfl
theorem zh8 {k q} : onK Cx 127 k q = q .junk := onK_rf rfl rfl
theorem zgd : Cx.rf 128 = some .junk := rfl
theorem zgc {k q} : onK Cx 128 k q = q .junk := onK_rf rfl rfl
theorem zfe : Cx.rf 129 = some .junk := rfl
theorem zfd {k q} : onK Cx 129 k q = q .junk := onK_rf rfl rfl
theorem zim : Cx.rf 130 = some .junk := rfl
theorem zia {k q} : onK Cx 130 k q = q .junk := onK_rf rfl rfl
theorem zeb : Cx.rf 131 = some .junk := rfl
theorem ze9 {k q} : onK Cx 131 k q = q .junk := onK_rf rfl rfl
theorem zel : Cx.rf 133 = some .junk := rfl
theorem zeg {k q} : onK Cx 133 k q = q .junk := onK_rf rfl rfl
theorem zin : Cx.rf 134 = some .junk := rfl
theorem zib {k q} : onK Cx 134 k q = q .junk := onK_rf rfl rfl
theorem zey : Cx.rf 135 = some .junk := rfl
theorem zex {k q} : onK Cx 135 k q = q .junk := onK_rf rfl rfl
theorem zhv : Cx.rf 136 = some .junk := rfl
theorem zh9 {k q} : onK Cx 136 k q = q .junk := onK_rf rfl rfl
theorem zga : Cx.rf 137 = some .junk := rfl
theorem zg8 {k q} : onK Cx 137 k q = q .junk := onK_rf rfl rfl
theorem zhw : Cx.rf 138 = some .junk := rfl
theorem zha {k q} : onK Cx 138 k q = q .junk := onK_rf rfl rfl
theorem zhx : Cx.rf 139 = some .junk := rfl
theorem zhb {k q} : onK Cx 139 k q = q .junk := onK_rf rfl rfl
theorem zhy : Cx.rf 143 = some .junk := rfl
theorem zhc {k q} : onK Cx 143 k q = q .junk := onK_rf rfl rfl
theorem ze8 : Cx.rf 144 = some .junk := rfl
theorem ze7 {k q} : onK Cx 144 k q = q .junk := onK_rf rfl rfl
theorem zfz : Cx.rf 145 = some .nilp := rfl
theorem zfv {k q} : onK Cx 145 k q = q .nilp := onK_rf rfl rfl
theorem zec : Cx.rf 146 = some .junk := rfl
theorem zea {k q} : onK Cx 146 k q = q .junk := onK_rf rfl rfl
theorem zio : Cx.rf 147 = some .junk := rfl
theorem zic {k q} : onK Cx 147 k q = q .junk := onK_rf rfl rfl
theorem zip : Cx.rf 148 = some .junk := rfl
theorem zid {k q} : onK Cx 148 k q = q .junk := onK_rf rfl rfl
theorem ziq : Cx.rf 149 = some .junk := rfl
theorem zie {k q} : onK Cx 149 k q = q .junk := onK_rf rfl rfl
theorem zgx : Cx.rf 152 = some .junk := rfl
theorem zgh {k q} : onK Cx 152 k q = q .junk := onK_rf rfl rfl
theorem zir : Cx.rf 153 = some .junk := rfl
theorem zif {k q} : onK Cx 153 k q = q .junk := onK_rf rfl rfl
theorem zhz : Cx.rf 155 = some .junk := rfl
theorem zhd {k q} : onK Cx 155 k q = q .junk := onK_rf rfl rfl
theorem zi0 : Cx.rf 156 = some .junk := rfl
theorem zhe {k q} : onK Cx 156 k q = q .junk := onK_rf rfl rfl
theorem zi1 : Cx.rf 157 = some .junk := rfl
theorem zhf {k q} : onK Cx 157 k q = q .junk := onK_rf rfl rfl
theorem zi2 : Cx.rf 158 = some .junk := rfl
theorem zhg {k q} : onK Cx 158 k q = q .junk := onK_rf rfl rfl
theorem zi3 : Cx.rf 161 = some .junk := rfl
theorem zhh {k q} : onK Cx 161 k q = q .junk := onK_rf rfl rfl
theorem zi4 : Cx.rf 162 = some .junk := rfl
theorem zhi {k q} : onK Cx 162 k q = q .junk := onK_rf rfl rfl
theorem zi5 : Cx.rf 163 = some .junk := rfl
theorem zhj {k q} : onK Cx 163 k q = q .junk := onK_rf rfl rfl
theorem zfj : Cx.rf 164 = some .junk := rfl
theorem zfi {k q} : onK Cx 164 k q = q .junk := onK_rf rfl rfl
theorem zfc : Cx.rf 165 = some .junk := rfl
theorem zfb {k q} : onK Cx 165 k q = q .junk := onK_rf rfl rfl
theorem zi6 : Cx.rf 166 = some .junk := rfl
theorem zhk {k q} : onK Cx 166 k q = q .junk := onK_rf rfl rfl
theorem zi7 : Cx.rf 167 = some .junk := rfl
theorem zhl {k q} : onK Cx 167 k q = q .junk := onK_rf rfl rfl
theorem zi8 : Cx.rf 170 = some .junk := rfl
theorem zhm {k q} : onK Cx 170 k q = q .junk := onK_rf rfl rfl
theorem zi9 : Cx.rf 171 = some .junk := rfl
theorem zhn {k q} : onK Cx 171 k q = q .junk := onK_rf rfl rfl
theorem zis : Cx.rf 173 = some .junk := rfl
theorem zig {k q} : onK Cx 173 k q = q .junk := onK_rf rfl rfl
theorem zit : Cx.rf 175 = some .junk := rfl
theorem zih {k q} : onK Cx 175 k q = q .junk := onK_rf rfl rfl
theorem ziu : Cx.rf 176 = some .junk := rfl
theorem zii {k q} : onK Cx 176 k q = q .junk := onK_rf rfl rfl
theorem ziv : Cx.rf 179 = some .junk := rfl
theorem zij {k q} : onK Cx 179 k q = q .junk := onK_rf rfl rfl
theorem ziw : Cx.rf 180 = some .nilp := rfl
theorem zik {k q} : onK Cx 180 k q = q .nilp := onK_rf rfl rfl
theorem zgy : Cx.rf 182 = some .junk := rfl
theorem zgi {k q} : onK Cx 182 k q = q .junk := onK_rf rfl rfl
theorem zgz : Cx.rf 183 = some .junk := rfl
theorem zgj {k q} : onK Cx 183 k q = q .junk := onK_rf rfl rfl
theorem zh0 : Cx.rf 189 = some .junk := rfl
theorem zgk {k q} : onK Cx 189 k q = q .junk := onK_rf rfl rfl
theorem zh1 : Cx.rf 193 = some .junk := rfl
theorem zgl {k q} : onK Cx 193 k q = q .junk := onK_rf rfl rfl
theorem z0n {k q} : onK Cx 2 k q = k (.int .i64) := onK_ty rfl
theorem z0o {k q} : onK Cx 3 k q = k (.int .i64) := onK_ty rfl
theorem z0p {k q} : onK Cx 4 k q = k .bool := onK_ty rfl
theorem z0q {k q} : onK Cx 5 k q = k (.int .u8) := onK_ty rfl
theorem z64 {k q} : onK Cx 6 k q = k (.int .u8) := onK_ty rfl
theorem z66 {k q} : onK Cx 9 k q = k .str := onK_ty rfl
theorem z68 {k q} : onK Cx 10 k q = k .str := onK_ty rfl
theorem z69 {k q} : onK Cx 11 k q = k .str := onK_ty rfl
theorem z6a {k q} : onK Cx 12 k q = k (.int .u64) := onK_ty rfl
theorem z6s {k q} : onK Cx 21 k q = k (.int .i32) := onK_ty rfl
theorem z6u {k q} : onK Cx 22 k q = k (.int .i8) := onK_ty rfl
theorem z6q {k q} : onK Cx 23 k q = k (.int .i16) := onK_ty rfl
theorem z70 {k q} : onK Cx 24 k q = k (.arr 8 (.int .i16)) := onK_ty rfl
theorem z71 {k q} : onK Cx 25 k q = k (.arr 8 (.arr 8 (.int .i16))) := onK_ty rfl
theorem z72 {k q} : onK Cx 26 k q = k (.arr 3 (.int .i16)) := onK_ty rfl
theorem z6w {k q} : onK Cx 27 k q = k (.arr 8 (.arr 3 (.int .i16))) := onK_ty rfl
theorem z7c {k q} : onK Cx 28 k q = k (.arr 8 (.arr 8 (.arr 3 (.int .i16)))) := onK_ty rfl
theorem z77 {k q} : onK Cx 29 k q = k (.arr 8 (.int .u8)) := onK_ty rfl
theorem z7e {k q} : onK Cx 31 k q = k shSheet := onK_ty rfl
theorem z7h {k q} : onK Cx 33 k q = k shSpot := onK_ty rfl
theorem z6i {k q} : onK Cx 36 k q = k shSheet := onK_ty rfl
theorem z9c {k q} : onK Cx 52 k q = k (.arr 3 (.int .i64)) := onK_ty rfl
theorem zda {k q} : onK Cx 83 k q = k shBrush := onK_ty rfl
theorem zds {k q} : onK Cx 85 k q = k shBrush := onK_ty rfl
theorem zdt {k q} : onK Cx 90 k q = k (.arr 8 (.arr 8 (.int .i16))) := onK_ty rfl
theorem z8p {k q} : onK Cx 107 k q = k (.arr 8 .bool) := onK_ty rfl
theorem z96 {k q} : onK Cx 108 k q = k (.arr 8 (.arr 8 .bool)) := onK_ty rfl
theorem zgm {k q} : onK Cx 140 k q = k (.int .u64) := onK_ty rfl
theorem zgn {k q} : onK Cx 190 k q = k (.int .u32) := onK_ty rfl
theorem zgo {k q} : onK Cx 192 k q = k (.int .u8) := onK_ty rfl
theorem zgp {k q} : onK Cx 195 k q = k (.int .i32) := onK_ty rfl
theorem zgq {k q} : onK Cx 196 k q = k (.int .i32) := onK_ty rfl
theorem z6y : Cx.eq 24 = true := rfl
theorem z6z : Cx.eq 26 = true := rfl
theorem z76 : Cx.eq 29 = true := rfl
theorem z7g : Cx.eq 33 = true := rfl
theorem z98 : Cx.eq 52 = true := rfl
theorem cP : Cx.P = Try.prog := rfl
end Go.Proofs.Ytjdpdnpfnlpjnaa
