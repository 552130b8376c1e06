/- SizeNested: a box of no told width. -/
import Derived.Test.YtncnpgakflmibaaSz5
set_option linter.unusedSimpArgs false
set_option linter.unusedVariables false
set_option maxRecDepth 20000
set_option maxHeartbeats 1000000
namespace Go.Proofs.Ytncnpgakflmibaa.Ai
open C
attribute [local simp] Exec_seq Exec_ops Exec_ret Exec_cond Exec_block Exec_exit Exec_skip runOps runItem afterOp scPut scEnd asBool' asFn toEnd stepOp stepP argsFr ev fget clean put cellsOf binOp isShift binI shiftI foldMax foldMin unOp pure3 leave retL resV optAll AV.bare AV.bareL AV.names AV.namesL under bind_ite thenDo atRet atBlock trunc closedB frNames fill inInt callClosed onClosed lenOf isStr ite_some_nrm ite_some_ret ite_some_bool ite_some_AV ite_some_An ite_nrm ite_St ite_Fr ite_int ite_bool ite_An AItem.dsts dstsL
attribute [local congr] bind_left
attribute [local simp] rd_full splice_full rd_sty rd_sty0 rd_sty2 rd_boxc rd_cons
attribute [local simp] splice_nums rd_nums bareL_nums namesL_nums rd_box0 rd_box3 rd_box4 rd_box45 rd_box46

attribute [local simp] make_box make_box2 write_kids wb3 wb4 wb34 wb40 wb28 wb11 wb15 wb19 sp20 sp21 sp41 bareL_boxc namesL_boxc splice_length bitop_and srcOf write_runs bits64 names_ints Box.names kids_names

theorem outer_auto {g : Nat → Int} {k x : Int} {f : Nat → Int} {kids runs : AV} {least : Bool} {r : Int} (h9 : ¬ f 9 = 1) (hb : AV.bareL (boxc k x f kids runs) = boxc k x f kids runs) (hn : AV.namesL (boxc k x f kids runs) = [])
    (hc : Call env K.size_content [.agg (nums 256 g), .agg (boxc k x f kids runs), .bool least] [] = some ⟨i64 r, [], false, false⟩) :
    Call env K.size_Outer [.agg (nums 256 g), .agg (boxc k x f kids runs), .bool least] [] = some ⟨i64 (edges f (clampN r (minN f) (maxN f))), [], false, false⟩ := by
  simp only [bareL_boxc] at hb
  simp only [namesL_boxc] at hn
  conv => lhs; simp -implicitDefEqProofs [-List.reduceReplicate, Call_of env_size_Outer, size_Outer, size_Outer.body, h9, min_spec, max_spec, fixed_spec, clamp_spec, hb, hn, hc]
  rfl
theorem content_lines {g : Nat → Int} {x : Int} {f : Nat → Int} {kids runs gl : AV} {least : Bool} {r : Int} (hr : runs.bare = runs) (hn : runs.names = []) (hg1 : gl.bare = gl) (hg2 : gl.names = [])
    (hg : Call env K.whit_Glyphs [.agg (nums 256 g), runs] [] = some ⟨gl, [], false, false⟩) (hb : Call env (if least then K.brk_Least else K.brk_Most) [gl] [] = some ⟨i64 r, [], false, false⟩) :
    Call env K.size_content [.agg (nums 256 g), .agg (boxc 2 x f kids runs), .bool least] [] = some ⟨i64 r, [], false, false⟩ := by
  cases least with
  | true =>
    simp only [if_true] at hb
    conv => lhs; simp -implicitDefEqProofs [-List.reduceReplicate, Call_of env_size_content, size_content, size_content.body, hr, hn, hg1, hg2, hg, hb]
  | false =>
    simp only [Bool.false_eq_true, if_false] at hb
    conv => lhs; simp -implicitDefEqProofs [-List.reduceReplicate, Call_of env_size_content, size_content, size_content.body, hr, hn, hg1, hg2, hg, hb]
end Go.Proofs.Ytncnpgakflmibaa.Ai
