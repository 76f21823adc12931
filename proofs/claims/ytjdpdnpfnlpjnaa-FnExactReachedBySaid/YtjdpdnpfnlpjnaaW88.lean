/- Contracts of functions of the program, by the texts that it imports. No conditions. -/
import Derived.Test.YtjdpdnpfnlpjnaaW86
import Derived.Test.YtjdpdnpfnlpjnaaW87
set_option linter.unusedVariables false
set_option linter.unusedSimpArgs false
namespace Go.Proofs.Ytjdpdnpfnlpjnaa
open Ink Go
open Bool renaming false_eq_true → zj8, not_true → zjj, not_false → zjy, true_eq_false → zjz, not_eq_true → zk0, not_eq_false → zk1, not_eq_eq_eq_not → zk2
open Int renaming toNat_natCast → zji, add_zero → zk3, zero_add → zk4
open List renaming length_append → zj5, cons_append → zj6, length_cons → zj7, set_cons_zero → zj9, set_cons_succ → zja, take_succ_cons → zje, drop_succ_cons → zjf, drop_zero → zjg, map_cons → zjh, length_nil → zjl, replicate_zero → zjo, replicate_succ → zjp, mem_cons → zjq, not_mem_nil → zjr, nil_append → zjs, getElem?_cons_zero → zjt, getElem?_cons_succ → zju, map_nil → zjv, prefix_rfl → zk6, prefix_refl → zk7, nil_prefix → zk8, take_zero → zk9, getD_cons_zero → zkb, getD_cons_succ → zkc
open Nat renaming add_zero → zjb, sub_zero → zjc, zero_le → zjk, zero_add → zjm, sub_self → zjn, le_refl → zjw, mul_zero → zk5, not_lt_zero → zka
open Option renaming map_some → zjd, isSome_some → zjx
set_option maxRecDepth 100000
set_option maxHeartbeats 1000000
set_option linter.all false
theorem markStX_at (X : List SheetM) (n : Nat) (hn : X.length = n) (hN : n ≤ 1048576) (k : Int) (hk : 0 ≤ k ∧ k ≤ 1000) {H : Heap} {b : Nat} (hb : H[b]? = some (.seq true shSheet (X.map sheetD))) : ACall Cx.P [b] 38 [.slc b 0 n, .int .i64 k] H (.int .i64 (k + 10 * (n : Int))) (H.set b (.seq true shSheet ((markTo X k n).map sheetD))) := by
  subst hn; exact markStack_at X k hk hN hb
theorem toStackL_at (N L : List SheetM) (hL : N.map nS = L) (o : Nat) (hN : N.length ≤ 1048576) {H : Heap} {b : Nat} (hb : H[b]? = some (.win o shSheet (N.map sheetD))) : ACall Cx.P [] 31 [.wsl b N.length] H (.slc H.length 0 L.length) (H ++ [.seq true shSheet (L.map sheetD)]) := by
  subst hL; exact toStack_at N o hN hb
theorem toStackLz_at (L : List SheetM) (hL : L = []) (H : Heap) : ACall Cx.P [] 31 [.wz] H (.slc H.length 0 L.length) (H ++ [.seq true shSheet (L.map sheetD)]) := by
  subst hL; exact toStack_z_at H
end Go.Proofs.Ytjdpdnpfnlpjnaa
