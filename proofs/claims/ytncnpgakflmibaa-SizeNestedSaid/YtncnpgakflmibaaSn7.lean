/- SizeNested: quoinlaw10.Runs. -/
import Derived.Test.YtncnpgakflmibaaSn6
set_option linter.unusedSimpArgs false
set_option linter.unusedVariables false
set_option maxRecDepth 20000
set_option maxHeartbeats 1000000
namespace Go.Proofs.Ytncnpgakflmibaa.Ai
open C
attribute [local simp] Exec_seq Exec_ops Exec_ret Exec_cond Exec_block Exec_exit Exec_skip runOps runItem afterOp scPut scEnd asBool' asFn toEnd stepOp stepP argsFr ev fget clean put cellsOf binOp isShift binI shiftI foldMax foldMin unOp pure3 leave retL resV optAll AV.bare AV.bareL AV.names AV.namesL under bind_ite thenDo atRet atBlock trunc closedB frNames fill inInt callClosed onClosed lenOf isStr ite_some_nrm ite_some_ret ite_some_bool ite_some_AV ite_some_An ite_nrm ite_St ite_Fr ite_int ite_bool ite_An AItem.dsts dstsL
attribute [local congr] bind_left
attribute [local simp] rd_full splice_full rd_sty rd_sty0 rd_sty2 rd_boxc rd_cons
attribute [local simp] splice_nums rd_nums bareL_nums namesL_nums rd_box0 rd_box3 rd_box4 rd_box45 rd_box46

attribute [local simp] make_box make_box2 write_kids wb3 wb4 wb34 wb40 wb28 wb11 wb15 wb19 sp20 sp21 sp41 bareL_boxc namesL_boxc splice_length bitop_and srcOf write_runs bits64 names_ints Box.names kids_names

theorem lit6 (a0 a1 a2 a3 a4 a5 z : AV) : splice 5 [a5] (splice 4 [a4] (splice 3 [a3] (splice 2 [a2] (splice 1 [a1] (splice 0 [a0] (List.replicate 6 z)))))) = [a0, a1, a2, a3, a4, a5] := rfl
def strs12 : List AV := [.str [97], .str [98], .str [32], .str [32, 32], .str [10], .str [99], .str [97, 98], .str [], .str [], .str [97], .str [9], .str [97, 97, 32]]
theorem lit12 : splice 11 [AV.str [97, 97, 32]] (splice 10 [AV.str [9]] (splice 9 [AV.str [97]] (splice 8 [AV.str []] (splice 7 [AV.str []] (splice 6 [AV.str [97, 98]] (splice 5 [AV.str [99]] (splice 4 [AV.str [10]] (splice 3 [AV.str [32, 32]] (splice 2 [AV.str [32]] (splice 1 [AV.str [98]] (splice 0 [AV.str [97]] (List.replicate 12 (AV.str []))))))))))))) = strs12 := by kernel_rfl
theorem strs12_get : ∀ (j : Nat), j < 12 → ∃ s, s.length ≤ 3 ∧ rd 1 false (List.drop j strs12) = some (.str s)
  | 0, _ => ⟨_, by decide, rfl⟩ | 1, _ => ⟨_, by decide, rfl⟩ | 2, _ => ⟨_, by decide, rfl⟩ | 3, _ => ⟨_, by decide, rfl⟩ | 4, _ => ⟨_, by decide, rfl⟩ | 5, _ => ⟨_, by decide, rfl⟩
  | 6, _ => ⟨_, by decide, rfl⟩ | 7, _ => ⟨_, by decide, rfl⟩ | 8, _ => ⟨_, by decide, rfl⟩ | 9, _ => ⟨_, by decide, rfl⟩ | 10, _ => ⟨_, by decide, rfl⟩ | 11, _ => ⟨_, by decide, rfl⟩
  | n + 12, h => by omega
def ints6 : List AV := [i64 1280, i64 1280, i64 640, i64 1281, i64 0, i64 2000]
theorem ints6_fold : [i64 1280, i64 1280, i64 640, i64 1281, i64 0, i64 2000] = ints6 := rfl
theorem ints6_get : ∀ (j : Nat), j < 6 → ∃ s, rd 1 false (List.drop j ints6) = some (i64 s)
  | 0, _ => ⟨_, rfl⟩ | 1, _ => ⟨_, rfl⟩ | 2, _ => ⟨_, rfl⟩ | 3, _ => ⟨_, rfl⟩ | 4, _ => ⟨_, rfl⟩ | 5, _ => ⟨_, rfl⟩
  | n + 6, h => by omega
abbrev rl2St (n : Nat) (xs : List Int) (out : List Run4) (i : Int) (x : Int) (nd : Int) (tx : List UInt8) (wh ln : Int) (k : Int) : St :=
  ⟨[(0, .sl n (xs.map i64) none), (3, .sl out.length (runs4 out) (some 0)), (4, i64 i), (5, i64 x), (6, .ptr 1 0), (7, i64 k)], [.tok out.length 4, .cells (run4 nd tx wh ln)], 0, false, false⟩
theorem sr1 (nd : Int) (tx s : List UInt8) (wh ln : Int) : splice 1 [.str s] (run4 nd tx wh ln) = run4 nd s wh ln := rfl
theorem rl2_step {n : Nat} {xs : List Int} {out : List Run4} {i x nd wh ln : Int} {tx : List UInt8} {k : Nat} (hk : k < 12) (htx : tx.length ≤ 1000000) :
    ∃ tx', tx'.length ≤ tx.length + 3 ∧ Exec env quoinlaw10_Runs.l2 (rl2St n xs out i x nd tx wh ln k) = some (.nrm, rl2St n xs out i x nd tx' wh ln (k + 1)) := by
  have h1 : (k : Int) < 12 := by omega
  have h2 : IntKind.i64.wrap ((k : Int) + 1) = (k : Int) + 1 := W_small (by omega) (by omega)
  have h3 : IntKind.i64.wrap (4 * (k : Int)) = 4 * (k : Int) := W_small (by omega) (by omega)
  have h4 : IntKind.i64.wrap (16 + 4 * (k : Int)) = 16 + 4 * (k : Int) := W_small (by omega) (by omega)
  have h5 : IntKind.u64.wrap (16 + 4 * (k : Int)) = 16 + 4 * (k : Int) := by simp [IntKind.wrap, IntKind.bits, IntKind.signed]; omega
  have h6 : ¬ (16 + 4 * (k : Int) < 0) := by omega
  have hb := andN_bound (x := x.fdiv (2 ^ (min (16 + 4 * (k : Int)).toNat 64))) (m := 15) (by decide) (by decide)
  generalize hj : andN (x.fdiv (2 ^ (min (16 + 4 * (k : Int)).toNat 64))) 15 = j at hb
  have hj0 : 0 ≤ j.tmod 12 := Int.tmod_nonneg _ hb.1
  have hj1 : j.tmod 12 < 12 := Int.tmod_lt_of_pos _ (by decide)
  have hj2 : (j.tmod 12).toNat < 12 := by omega
  obtain ⟨s, hs, hg⟩ := strs12_get (j.tmod 12).toNat hj2
  have hl : strs12.length = 12 := rfl
  have r2 : rd 1 false (run4 nd tx wh ln).tail = some (.str tx) := rfl
  have hc : tx.length + s.length ≤ 9223372036854775807 := by omega
  have r5 : ∀ t, (run4 nd t wh ln).length = 4 := fun _ => rfl
  have r6 : ∀ t, AV.namesL (run4 nd t wh ln) = [] := fun _ => rfl
  refine ⟨tx ++ s, by simp; omega, ?_⟩
  conv => lhs; simp -implicitDefEqProofs [-List.reduceReplicate, quoinlaw10_Runs.l2, h1, h2, h3, h4, h5, h6, hj, hj0, hj1, hj2, hg, hl, r2, hc, r5, r6, lit12, sr1, binS, runs4_names]
  try simp [runs4_names]
theorem rl2_loop {n : Nat} {xs : List Int} {out : List Run4} {i x nd wh ln : Int} : ∀ (m k : Nat) (tx : List UInt8), k + m = 12 → tx.length ≤ 3 * k →
    ∃ tx', tx'.length ≤ 36 ∧ Exec env (.loop [0, 3, 4, 5, 6, 7] quoinlaw10_Runs.l2) (rl2St n xs out i x nd tx wh ln k) =
      some (.exit 2, ⟨[(0, .sl n (xs.map i64) none), (3, .sl out.length (runs4 out) (some 0)), (4, i64 i), (5, i64 x), (6, .ptr 1 0), (7, i64 12), (35, .bool false)], [.tok out.length 4, .cells (run4 nd tx' wh ln)], 0, false, false⟩)
  | 0, k, tx, hk, ht => by
    obtain rfl : k = 12 := by omega
    refine ⟨tx, by omega, ?_⟩
    rw [Exec_loop]
    conv => lhs; simp -implicitDefEqProofs [-List.reduceReplicate, quoinlaw10_Runs.l2]
  | m + 1, k, tx, hk, ht => by
    obtain ⟨t1, hl1, hs⟩ := rl2_step (n := n) (xs := xs) (out := out) (i := i) (x := x) (nd := nd) (wh := wh) (ln := ln) (tx := tx) (k := k) (by omega) (by omega)
    obtain ⟨t2, hl2, hs2⟩ := rl2_loop (n := n) (xs := xs) (out := out) (i := i) (x := x) (nd := nd) (wh := wh) (ln := ln) m (k + 1) t1 (by omega) (by omega)
    refine ⟨t2, hl2, ?_⟩
    rw [Exec_loop]
    have e : ({ rl2St n xs out i x nd tx wh ln k with fr := clean [0, 3, 4, 5, 6, 7] (rl2St n xs out i x nd tx wh ln k).fr } : St) = rl2St n xs out i x nd tx wh ln k := by simp
    rw [e, hs]
    have e2 : trunc (rl2St n xs out i x nd tx wh ln k).H.length [0, 3, 4, 5, 6, 7] (rl2St n xs out i x nd t1 wh ln (k + 1)) = rl2St n xs out i x nd t1 wh ln ((k + 1 : Nat) : Int) := by simp [runs4_names]
    simp only [Option.bind_some, thenDo]
    rw [e2, hs2]
theorem runs4_app (l m : List Run4) : runs4 (l ++ m) = runs4 l ++ runs4 m := by simp [runs4]
theorem runs4_snoc (l : List Run4) (a : Int) (b : List UInt8) (c d : Int) : runs4 l ++ run4 a b c d = runs4 (l ++ [⟨a, b, c, d⟩]) := by simp [runs4, Run4.cells]
theorem run4_make (a c d : Int) : splice 3 [i64 d] (splice 2 [i64 c] (splice 0 [i64 a] [i64 0, .str [], i64 0, i64 0])) = run4 a [] c d := rfl
abbrev rlSt (n : Nat) (xs : List Int) (out : List Run4) (i : Int) : St :=
  ⟨[(0, .sl n (xs.map i64) none), (3, .sl out.length (runs4 out) (some 0)), (4, i64 i)], [.tok out.length 4], 0, false, false⟩
theorem rs0 (a x y z t : AV) : splice 0 [a] [x, y, z, t] = [a, y, z, t] := rfl
theorem rs2 (a x y z t : AV) : splice 2 [a] [x, y, z, t] = [x, y, a, t] := rfl
theorem rs3 (a x y z t : AV) : splice 3 [a] [x, y, z, t] = [x, y, z, a] := rfl
theorem rr0 (a : Int) (b : List UInt8) (c d v : Int) : splice 0 [i64 v] (run4 a b c d) = run4 v b c d := rfl
theorem rr2 (a : Int) (b : List UInt8) (c d v : Int) : splice 2 [i64 v] (run4 a b c d) = run4 a b v d := rfl
theorem rr3 (a : Int) (b : List UInt8) (c d v : Int) : splice 3 [i64 v] (run4 a b c d) = run4 a b c v := rfl
theorem run4_len (a : Int) (b : List UInt8) (c d : Int) : (run4 a b c d).length = 4 := rfl
theorem run4_nam (a : Int) (b : List UInt8) (c d : Int) : AV.namesL (run4 a b c d) = [] := rfl
theorem run4_bar (a : Int) (b : List UInt8) (c d : Int) : AV.bareL (run4 a b c d) = run4 a b c d := rfl
theorem run4_fold (a c d : Int) : [i64 a, .str [], i64 c, i64 d] = run4 a [] c d := rfl
theorem rl1_step {n i : Nat} {xs : List Int} {out : List Run4} {e : Int} (hi : i < n) (h12 : i < 12) (h0 : xs[i]? = some e) (ho : out.length ≤ 1000) :
    ∃ r : Run4, r.tx.length ≤ 36 ∧ Exec env quoinlaw10_Runs.l1 (rlSt n xs out i) = some (.nrm, rlSt n xs (out ++ [r]) (i + 1)) := by
  have hl : i < xs.length := (List.getElem?_eq_some_iff.1 h0).1
  have hr := rd_ints h0
  have h1 : (i : Int) < n := by omega
  have h2 : (i : Int) < 12 := by omega
  have h3 : IntKind.i64.wrap ((i : Int) + 1) = (i : Int) + 1 := W_small (by omega) (by omega)
  have hb := andN_bound (x := e.fdiv 256) (m := 255) (by decide) (by decide)
  generalize hj : andN (e.fdiv 256) 255 = j at hb
  have hj0 : 0 ≤ j.tmod 6 := Int.tmod_nonneg _ hb.1
  have hj1 : j.tmod 6 < 6 := Int.tmod_lt_of_pos _ (by decide)
  have hj2 : (j.tmod 6).toNat < 6 := by omega
  obtain ⟨ln, hg⟩ := ints6_get (j.tmod 6).toNat hj2
  have hl6 : ints6.length = 6 := rfl
  obtain ⟨tx, htx, hloop⟩ := rl2_loop (n := n) (xs := xs) (out := out) (i := i) (x := e) (nd := i) (wh := (andN e 255).tmod 3) (ln := ln) 12 0 [] rfl (by simp)
  simp only [rl2St, Int.natCast_zero] at hloop
  refine ⟨⟨i, tx, (andN e 255).tmod 3, ln⟩, htx, ?_⟩
  have hsn := runs4_snoc out i tx ((andN e 255).tmod 3) ln
  have hh : (out.length + 1) * (40 + 1) ≤ 70368744177664 := by omega
  conv => lhs; simp -implicitDefEqProofs [-List.reduceReplicate, quoinlaw10_Runs.l1, hi, h12, hl, hr, h1, h2, h3, hj, hj0, hj1, hj2, hg, hl6, hloop, hsn, hh, run4_len, run4_nam, run4_bar, rr0, rr2, rr3, lit6, ints6_fold, rs0, rs2, rs3, run4_fold, runs4_names, runs4_len]
  try simp [runs4_names]
end Go.Proofs.Ytncnpgakflmibaa.Ai
