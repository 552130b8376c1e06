/- SizeBoxes. -/
import Derived.Test.YtncnpgakflmibaaSz0
import Derived.Test.YtncnpgakflmibaaSz2
set_option linter.unusedSimpArgs false
set_option linter.unusedVariables false
set_option maxRecDepth 20000
namespace Go.Proofs.Ytncnpgakflmibaa.Ai
open C
attribute [local simp] Exec_seq Exec_ops Exec_ret Exec_cond Exec_block Exec_exit Exec_skip runOps runItem afterOp scPut scEnd asBool' asFn toEnd stepOp stepP argsFr ev fget clean put cellsOf binOp isShift binI shiftI foldMax foldMin unOp pure3 leave retL resV optAll AV.bare AV.bareL AV.names AV.namesL under bind_ite thenDo atRet atBlock trunc closedB frNames fill inInt callClosed onClosed lenOf isStr ite_some_nrm ite_some_ret ite_some_bool ite_some_AV ite_some_An ite_nrm ite_St ite_Fr ite_int ite_bool ite_An AItem.dsts dstsL
attribute [local congr] bind_left
attribute [local simp] rd_full splice_full rd_sty rd_sty0 rd_sty2 rd_boxc rd_cons
attribute [local simp] splice_nums rd_nums bareL_nums namesL_nums rd_box0 rd_box3 rd_box4 rd_box45 rd_box46
/-! ### Bits -/
def andN (x m : Int) : Int := IntKind.i64.wrap (BitVec.ofInt 64 x &&& BitVec.ofInt 64 m).toNat
theorem bitop_and (x m : Int) : bitop .and .i64 x m = some (andN x m) := rfl
theorem andN_bound {x m : Int} (h0 : 0 ≤ m) (h1 : m ≤ 9223372036854775807) : 0 ≤ andN x m ∧ andN x m ≤ m := by
  have h : (BitVec.ofInt 64 x &&& BitVec.ofInt 64 m).toNat ≤ (BitVec.ofInt 64 m).toNat := by
    rw [BitVec.toNat_and]
    exact Nat.and_le_right
  have h2 : (BitVec.ofInt 64 m).toNat = m.toNat := by
    rw [BitVec.toNat_ofInt]
    omega
  unfold andN
  rw [W_small (by omega) (by omega)]
  omega
/-! ### Boxes, made and written -/
def initF (i : Nat) : Int := initial.getD i 0
theorem initial_sty : Call env K.quoinref4_Initial [] [] = some ⟨.agg (sty initF), [], false, false⟩ := by
  rw [initial_spec]
  rfl
theorem splice_length {off : Nat} {cs l : List AV} (h : off + cs.length ≤ l.length) : (splice off cs l).length = l.length := by
  simp [splice]
  omega
theorem make_box (k : Int) (f : Nat → Int) (r : AV) : splice 46 [r] (splice 2 (sty f) (splice 0 [i64 k] (List.replicate 45 (.int .i64 0) ++ [.nils, .nils]))) = boxc k 0 f .nils r := by
  have e : splice 0 [i64 k] (List.replicate 45 (.int .i64 0) ++ [.nils, .nils]) = i64 k :: i64 0 :: (List.replicate 43 (.int .i64 0) ++ [.nils, .nils]) := rfl
  rw [e]
  have e2 : splice 2 (sty f) (i64 k :: i64 0 :: (List.replicate 43 (.int .i64 0) ++ [.nils, .nils])) = boxc k 0 f .nils .nils := by
    simp only [splice, boxc, List.take_succ_cons, List.take_zero, sty_length]
    have hd : List.drop (2 + 43) (i64 k :: i64 0 :: (List.replicate 43 (.int .i64 0) ++ [.nils, .nils])) = [AV.nils, .nils] := rfl
    rw [hd]
    rfl
  rw [e2]
  simp only [splice, boxc, List.take_succ_cons, List.length_cons, List.length_nil]
  rw [List.take_append, List.take_of_length_le (by simp), sty_length]
  rw [List.drop_succ_cons, List.drop_succ_cons, List.drop_of_length_le (by simp)]
  simp
theorem make_box2 (k : Int) (f : Nat → Int) : splice 2 (sty f) (splice 0 [i64 k] (List.replicate 45 (.int .i64 0) ++ [.nils, .nils])) = boxc k 0 f .nils .nils := by
  have e : splice 0 [i64 k] (List.replicate 45 (.int .i64 0) ++ [.nils, .nils]) = i64 k :: i64 0 :: (List.replicate 43 (.int .i64 0) ++ [.nils, .nils]) := rfl
  rw [e]
  simp only [splice, boxc, List.take_succ_cons, List.take_zero, sty_length]
  have hd : List.drop (2 + 43) (i64 k :: i64 0 :: (List.replicate 43 (.int .i64 0) ++ [.nils, .nils])) = [AV.nils, .nils] := rfl
  rw [hd]
  rfl
theorem write_box {n : Nat} (h : n < 43) (k x : Int) (f : Nat → Int) (kids runs : AV) (v : Int) : splice (n + 2) [i64 v] (boxc k x f kids runs) = boxc k x (upd f n v) kids runs := by
  have hs : splice n [i64 v] (sty f) = sty (upd f n v) := splice_nums h
  unfold boxc
  rw [← hs]
  simp only [splice, List.take_succ_cons, List.length_cons, List.length_nil, Nat.zero_add]
  rw [show n + 2 + 1 = (n + 1) + 2 by omega, List.drop_succ_cons, List.drop_succ_cons, List.take_append_of_le_length (by simp; omega), List.drop_append_of_le_length (by simp; omega)]
  simp
theorem splice_at (T D : List AV) (u v : AV) : splice T.length [v] (T ++ u :: D) = T ++ v :: D := by
  simp only [splice, List.length_cons, List.length_nil, Nat.zero_add, List.take_left]
  rw [show T ++ u :: D = (T ++ [u]) ++ D by simp, show T.length + 1 = (T ++ [u]).length by simp, List.drop_left]
  simp
theorem splice_at2 (T D : List AV) (u u' v v' : AV) : splice T.length [v, v'] (T ++ u :: u' :: D) = T ++ v :: v' :: D := by
  simp only [splice, List.length_cons, List.length_nil, Nat.zero_add, List.take_left]
  rw [show T ++ u :: u' :: D = (T ++ [u, u']) ++ D by simp, show T.length + (1 + 1) = (T ++ [u, u']).length by simp, List.drop_left]
  simp
theorem splice_two (off : Nat) (a b : AV) (l : List AV) (h : off + 2 ≤ l.length) : splice off [a, b] l = splice (off + 1) [b] (splice off [a] l) := by
  have e : l = l.take off ++ l[off] :: l[off + 1] :: l.drop (off + 2) := by
    rw [← List.drop_eq_getElem_cons, ← List.drop_eq_getElem_cons, List.take_append_drop]
  generalize l[off] = u at e
  generalize l[off + 1] = u' at e
  generalize hD : l.drop (off + 2) = D at e
  have hT : (l.take off).length = off := by simp; omega
  generalize l.take off = T at e hT
  subst e
  subst hT
  rw [splice_at2, splice_at]
  have := splice_at (T ++ [a]) D u' b
  simp only [List.length_append, List.length_cons, List.length_nil, Nat.zero_add, List.append_assoc, List.cons_append, List.nil_append] at this
  exact this.symm
theorem write_box2 {n : Nat} (h : n + 1 < 43) (k x : Int) (f : Nat → Int) (kids runs : AV) (a b : Int) : splice (n + 2) [i64 a, i64 b] (boxc k x f kids runs) = boxc k x (upd (upd f n a) (n + 1) b) kids runs := by
  rw [splice_two _ _ _ _ (by simp; omega), write_box (by omega), show n + 2 + 1 = (n + 1) + 2 by omega, write_box h]
theorem write_kids (k x : Int) (f : Nat → Int) (kids runs v : AV) : splice 45 [v] (boxc k x f kids runs) = boxc k x f v runs := by
  simp only [splice, boxc, List.take_succ_cons, List.length_cons, List.length_nil]
  rw [List.take_append, List.take_of_length_le (by simp), sty_length]
  rw [List.drop_succ_cons, List.drop_succ_cons, List.drop_append, List.drop_of_length_le (by simp), sty_length]
  simp
end Go.Proofs.Ytncnpgakflmibaa.Ai
