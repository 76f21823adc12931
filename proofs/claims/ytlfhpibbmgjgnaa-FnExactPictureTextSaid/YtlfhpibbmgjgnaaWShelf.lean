/- Contracts of functions of the program, by the texts that it imports. No conditions. -/
import Derived.Test.YtlfhpibbmgjgnaaTyV
import Derived.Test.YtlfhpibbmgjgnaaInkGj
import Derived.Shelf.Strings.Builder1
import Derived.Shelf.Strings.Builder2
import Derived.Shelf.Strings.OnBuilder
set_option linter.unusedVariables false
set_option linter.unusedSimpArgs false
namespace Go.Proofs.Ytlfhpibbmgjgnaa
open Ink Go Go.Shelf
set_option maxRecDepth 100000
set_option linter.all false
def sh169_ren : Go.Shelf.Ren := ⟨fun | 169 => 82 | n => n, fun | 70 => 116 | 9 => 9 | 0 => 0 | 72 => 119 | 37 => 117 | 127 => 140 | 3 => 3 | 5 => 5 | n => n, fun | n => n⟩
theorem sh169 : Go.Proofs.Lays.n169 Try.prog sh169_ren := {
  mixed := by kernel_rfl
  f169 := Try.func82.trans (congrArg some (by kernel_rfl))
  t0 := Try.underlying0
  a0 := Try.isAgg0
  z0 := Try.sizeOf0
  v0 := Try.zeroValue0
  t3 := Try.underlying3
  a3 := Try.isAgg3
  z3 := Try.sizeOf3
  v3 := Try.zeroValue3
  t9 := Try.underlying9
  a9 := Try.isAgg9
  z9 := Try.sizeOf9
  v9 := Try.zeroValue9
  t37 := Try.underlying117
  a37 := Try.isAgg117
  z37 := Try.sizeOf117
  v37 := Try.zeroValue117
  t70 := Try.underlying116
  a70 := Try.isAgg116
  z70 := Try.sizeOf116
  v70 := Try.zeroValue116
  t72 := Try.underlying119
  a72 := Try.isAgg119
  z72 := Try.sizeOf119
  v72 := Try.zeroValue119
  t127 := Try.underlying140
  a127 := Try.isAgg140
  z127 := Try.sizeOf140
  v127 := Try.zeroValue140 }
theorem shX169 : Builder.Extra Try.prog sh169_ren := {
  sizeBuilder := by kernel_rfl
  liesBuilder := by kernel_rfl
  t5 := Try.underlying5
  a5 := Try.isAgg5
  z5 := Try.sizeOf5
  v5 := Try.zeroValue5
  infoByte := by kernel_rfl
  cellsByte := by kernel_rfl
  sizeByte := by kernel_rfl
  neB5 := by decide }
def sh156_ren : Go.Shelf.Ren := ⟨fun | 156 => 81 | 165 => 102 | 166 => 80 | 169 => 82 | 240 => 101 | 241 => 107 | 276 => 106 | 277 => 108 | n => n, fun | 31 => 120 | 9 => 9 | 3 => 3 | 4 => 4 | 0 => 0 | 20 => 20 | 72 => 119 | 76 => 123 | 70 => 116 | 37 => 117 | 75 => 122 | 127 => 140 | 164 => 145 | 5 => 5 | 80 => 79 | n => n, fun | n => n⟩
theorem sh156 : Go.Proofs.Lays.n156 Try.prog sh156_ren := {
  mixed := by kernel_rfl
  f156 := Try.func81.trans (congrArg some (by kernel_rfl))
  f165 := Try.func102.trans (congrArg some (by kernel_rfl))
  f166 := Try.func80.trans (congrArg some (by kernel_rfl))
  f169 := Try.func82.trans (congrArg some (by kernel_rfl))
  f240 := Try.func101.trans (congrArg some (by kernel_rfl))
  f241 := Try.func107.trans (congrArg some (by kernel_rfl))
  f276 := Try.func106.trans (congrArg some (by kernel_rfl))
  f277 := Try.func108.trans (congrArg some (by kernel_rfl))
  t0 := Try.underlying0
  a0 := Try.isAgg0
  z0 := Try.sizeOf0
  v0 := Try.zeroValue0
  t3 := Try.underlying3
  a3 := Try.isAgg3
  z3 := Try.sizeOf3
  v3 := Try.zeroValue3
  t4 := Try.underlying4
  a4 := Try.isAgg4
  z4 := Try.sizeOf4
  v4 := Try.zeroValue4
  t9 := Try.underlying9
  a9 := Try.isAgg9
  z9 := Try.sizeOf9
  v9 := Try.zeroValue9
  t20 := Try.underlying20
  a20 := Try.isAgg20
  z20 := Try.sizeOf20
  v20 := Try.zeroValue20
  t31 := Try.underlying120
  a31 := Try.isAgg120
  z31 := Try.sizeOf120
  v31 := Try.zeroValue120
  t37 := Try.underlying117
  a37 := Try.isAgg117
  z37 := Try.sizeOf117
  v37 := Try.zeroValue117
  t70 := Try.underlying116
  a70 := Try.isAgg116
  z70 := Try.sizeOf116
  v70 := Try.zeroValue116
  t72 := Try.underlying119
  a72 := Try.isAgg119
  z72 := Try.sizeOf119
  v72 := Try.zeroValue119
  t75 := Try.underlying122
  a75 := Try.isAgg122
  z75 := Try.sizeOf122
  v75 := Try.zeroValue122
  t76 := Try.underlying123
  a76 := Try.isAgg123
  z76 := Try.sizeOf123
  v76 := Try.zeroValue123
  t127 := Try.underlying140
  a127 := Try.isAgg140
  z127 := Try.sizeOf140
  v127 := Try.zeroValue140
  t164 := Try.underlying145
  a164 := Try.isAgg145
  z164 := Try.sizeOf145
  v164 := Try.zeroValue145 }
theorem shX156 : Builder.Extra Try.prog sh156_ren := {
  sizeBuilder := by kernel_rfl
  liesBuilder := by kernel_rfl
  t5 := Try.underlying5
  a5 := Try.isAgg5
  z5 := Try.sizeOf5
  v5 := Try.zeroValue5
  infoByte := by kernel_rfl
  cellsByte := by kernel_rfl
  sizeByte := by kernel_rfl
  neB5 := by decide }
theorem sh166 : Go.Proofs.Lays.n166 Try.prog sh156_ren := {
  mixed := sh156.mixed
  f166 := sh156.f166
  f240 := sh156.f240
  f276 := sh156.f276
  t0 := sh156.t0
  a0 := sh156.a0
  z0 := sh156.z0
  v0 := sh156.v0
  t3 := sh156.t3
  a3 := sh156.a3
  z3 := sh156.z3
  v3 := sh156.v3
  t4 := sh156.t4
  a4 := sh156.a4
  z4 := sh156.z4
  v4 := sh156.v4
  t9 := sh156.t9
  a9 := sh156.a9
  z9 := sh156.z9
  v9 := sh156.v9
  t20 := sh156.t20
  a20 := sh156.a20
  z20 := sh156.z20
  v20 := sh156.v20
  t37 := sh156.t37
  a37 := sh156.a37
  z37 := sh156.z37
  v37 := sh156.v37
  t70 := sh156.t70
  a70 := sh156.a70
  z70 := sh156.z70
  v70 := sh156.v70
  t72 := sh156.t72
  a72 := sh156.a72
  z72 := sh156.z72
  v72 := sh156.v72
  t75 := sh156.t75
  a75 := sh156.a75
  z75 := sh156.z75
  v75 := sh156.v75
  t164 := sh156.t164
  a164 := sh156.a164
  z164 := sh156.z164
  v164 := sh156.v164 }
theorem allC {H : Heap} (h : H.all Blk.isC = true) : ∀ B ∈ H, B.isC = true := fun B hB => List.all_eq_true.1 h B hB
theorem entersF {f : FuncId} {fn : Func} (h : Try.prog.funcs[f]? = some fn) (h1 : (fn.name == "runtime.NumGoroutine") = false) (h2 : fn.body.isNone = false) : Ink.Enters Try.prog f := ⟨fn, h, h1, h2⟩
theorem join_at {H : Heap} {b n : Nat} {wr : Bool} {g : Nat → ByteArray} (hc : ∀ B ∈ H, B.isC = true) (hb : H[b]? = some (.seq wr .str (strsTo g n))) (hn : n ≤ 1000) (hl : (rowT g n).size ≤ 1000000) : ACall Cx.P [] 81 [.slc b 0 n, .str ⟨#[]⟩] H (.str (rowT g n)) H :=
  acall_join (P := Try.prog) (entersF Try.func81 (by kernel_rfl) rfl) (fun a c sep w => Any.strings_Join_none sh156 shX156 a c sep w) (fun bk o c xs sep w h1 h2 h3 h4 h5 => Any.strings_Join sh156 shX156 bk o c xs sep w h1 h2 h3 h4 h5) hc hb hn hl
theorem write_calls (b : Nat) (bs : List Value) (s : ByteArray) (w : World) (h : Lib.IsBuilder 119 5 b b bs w) (hl : bs.length + s.size ≤ 140737488355328) (hb : b ≤ w.heap.size) :
    Calls Cx.P 80 #[.pointer (some ⟨b, 0, none⟩), .string s] w fun e w' => (∃ v, e = .returned v) ∧ Lib.IsBuilder 119 5 b b (bs ++ Lib.strCells s) w' ∧ Go.RowKit.Below b w w' :=
  (Any.Builder_WriteString sh166 shX156 b b bs s w h hl hb).mono fun e w' h => ⟨⟨_, h.1⟩, .inr h.2.1, h.2.2⟩
theorem string_calls (b : Nat) (l : List UInt8) (w : World) (h : Lib.IsBuilder 119 5 b b (Lib.byteCells l) w) (hb : b ≤ w.heap.size) :
    Calls Cx.P 82 #[.pointer (some ⟨b, 0, none⟩)] w fun e w' => e = .returned (.string ⟨l.toArray⟩) ∧ Go.RowKit.Below b w w' :=
  Any.Builder_String_any sh169 shX169 b b l w h hb
end Go.Proofs.Ytlfhpibbmgjgnaa
