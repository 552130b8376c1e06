/- Package size, by the interpreter: what its small functions answer. -/
import Derived.Test.YtncnpgakflmibaaAi2
import Derived.Test.YtncnpgakflmibaaCode
import Derived.KernelRfl
set_option linter.unusedSimpArgs false
set_option linter.unusedVariables false
set_option maxRecDepth 20000
namespace Go.Proofs.Ytncnpgakflmibaa.Ai
open C
attribute [local simp] Exec_seq Exec_ops Exec_ret Exec_cond Exec_block Exec_exit Exec_skip runOps runItem afterOp scPut scEnd asBool' asFn toEnd stepOp stepP argsFr ev fget clean put cellsOf binOp isShift binI shiftI foldMax foldMin unOp pure3 leave retL resV optAll AV.bare AV.bareL AV.names AV.namesL under bind_ite thenDo atRet atBlock trunc closedB frNames fill inInt callClosed onClosed lenOf isStr ite_some_nrm ite_some_ret ite_some_bool ite_some_AV ite_some_An ite_nrm ite_St ite_Fr ite_int ite_bool ite_An AItem.dsts dstsL
attribute [local congr] bind_left
abbrev i64 (n : Int) : AV := .int .i64 n
abbrev W (n : Int) : Int := IntKind.i64.wrap n
/-! ### Rows of numbers -/
def nums (n : Nat) (f : Nat → Int) : List AV := (List.range n).map fun i => i64 (f i)
def sty (f : Nat → Int) : List AV := nums 43 f
def upd (f : Nat → Int) (n : Nat) (v : Int) (i : Nat) : Int := if i = n then v else f i
@[simp] theorem nums_length (n : Nat) (f : Nat → Int) : (nums n f).length = n := by simp [nums]
@[simp] theorem sty_length (f : Nat → Int) : (sty f).length = 43 := nums_length _ _
theorem nums_get (n : Nat) (f : Nat → Int) (i : Nat) (h : i < n) : (nums n f)[i]? = some (i64 (f i)) := by simp [nums, h]
theorem rd_full {l : List AV} {s : Nat} (h : l.length = s) : rd s true l = some (.agg l) := by simp [rd, h, List.take_of_length_le]
theorem splice_full {l cs : List AV} (h : cs.length = l.length) : splice 0 cs l = cs := by simp [splice, h]
theorem rd_one {l : List AV} {o : Nat} {v : AV} (h : l[o]? = some v) : rd 1 false (l.drop o) = some v := by simp [rd, List.head?_drop, h]
theorem rd_two {l : List AV} {o : Nat} {v u : AV} (h : l[o]? = some v) (h' : l[o + 1]? = some u) : rd 2 true (l.drop o) = some (.agg [v, u]) := by
  obtain ⟨h1, h2⟩ := List.getElem?_eq_some_iff.1 h
  obtain ⟨h3, h4⟩ := List.getElem?_eq_some_iff.1 h'
  simp only [rd, if_true, List.length_drop]
  rw [if_pos (by omega), List.drop_eq_getElem_cons h1, List.drop_eq_getElem_cons h3, h2, h4]
  rfl
theorem rd_sty {f : Nat → Int} {n : Nat} (h : n < 43) : rd 1 false (List.drop n (sty f)) = some (i64 (f n)) := rd_one (nums_get _ _ _ h)
theorem rd_sty0 {f : Nat → Int} : rd 1 false (sty f) = some (i64 (f 0)) := rd_sty (n := 0) (by decide)
theorem rd_sty2 {f : Nat → Int} {n : Nat} (h : n + 1 < 43) : rd 2 true (List.drop n (sty f)) = some (.agg [i64 (f n), i64 (f (n + 1))]) := rd_two (nums_get _ _ _ (by omega)) (nums_get _ _ _ h)
/-! ### Boxes -/
def boxc (k x : Int) (f : Nat → Int) (kids runs : AV) : List AV := i64 k :: i64 x :: (sty f ++ [kids, runs])
@[simp] theorem boxc_length (k x : Int) (f : Nat → Int) (kids runs : AV) : (boxc k x f kids runs).length = 47 := by simp [boxc]
theorem rd_boxc (k x : Int) (f : Nat → Int) (kids runs : AV) : rd 43 true (List.drop 2 (boxc k x f kids runs)) = some (.agg (sty f)) := by
  simp [boxc, rd]
theorem rd_cons (v : AV) (l : List AV) : rd 1 false (v :: l) = some v := rfl
theorem bareL_ints : ∀ l : List Int, AV.bareL (l.map i64) = l.map i64
  | [] => rfl
  | n :: l => by simp [AV.bareL, AV.bare, bareL_ints l]
theorem namesL_ints : ∀ l : List Int, AV.namesL (l.map i64) = []
  | [] => rfl
  | n :: l => by simp [AV.namesL, AV.names, namesL_ints l]
theorem nums_ints (n : Nat) (f : Nat → Int) : nums n f = ((List.range n).map f).map i64 := by simp [nums]
@[simp] theorem bareL_sty (f : Nat → Int) : AV.bareL (sty f) = sty f := by rw [sty, nums_ints, bareL_ints]
@[simp] theorem namesL_sty (f : Nat → Int) : AV.namesL (sty f) = [] := by rw [sty, nums_ints, namesL_ints]
attribute [local simp] rd_full splice_full rd_sty rd_sty0 rd_sty2 rd_boxc rd_cons
def clampN (n a b : Int) : Int := max (max (if 0 ≤ b then min n b else n) a) 0
def fixN (k n : Int) : Int := if k = 1 then n else 0
def minN (f : Nat → Int) : Int := if f 13 = 1 then max (f 14) 0 else 0
def maxN (f : Nat → Int) : Int := if f 17 = 1 then max (f 18) 0 else -1
theorem clamp_spec (n a b : Int) : Call env K.size_Clamp [i64 n, i64 a, i64 b] [] = some ⟨i64 (clampN n a b), [], false, false⟩ := by
  unfold clampN
  conv => lhs; simp -implicitDefEqProofs [-List.reduceReplicate, Call_of env_size_Clamp, size_Clamp, size_Clamp.body]
  congr 3
  split <;> split <;> split <;> omega
theorem of_spec (k n : Int) : Call env K.size_of [.agg [i64 k, i64 n], i64 (-1)] [] = some ⟨.tup [i64 (if k = 1 then max n 0 else 0), .bool (decide (k = 1))], [], false, false⟩ := by
  conv => lhs; simp -implicitDefEqProofs [-List.reduceReplicate, Call_of env_size_of, size_of, size_of.body]
  congr 5
  split
  · split <;> omega
  · rfl
theorem fixed_spec (k n : Int) : Call env K.size_fixed [.agg [i64 k, i64 n]] [] = some ⟨i64 (fixN k n), [], false, false⟩ := by
  unfold fixN
  conv => lhs; simp -implicitDefEqProofs [-List.reduceReplicate, Call_of env_size_fixed, size_fixed, size_fixed.body]
theorem min_spec (f : Nat → Int) : Call env K.size_Min [.agg (sty f), .bool false, i64 (-1)] [] = some ⟨i64 (minN f), [], false, false⟩ := by
  unfold minN
  conv => lhs; simp -implicitDefEqProofs [-List.reduceReplicate, Call_of env_size_Min, size_Min, size_Min.body, of_spec]
theorem max_spec (f : Nat → Int) : Call env K.size_Max [.agg (sty f), .bool false, i64 (-1)] [] = some ⟨i64 (maxN f), [], false, false⟩ := by
  unfold maxN
  conv => lhs; simp -implicitDefEqProofs [-List.reduceReplicate, Call_of env_size_Max, size_Max, size_Max.body, of_spec]
  congr 3
  split
  · rfl
  · rfl
def edges (f : Nat → Int) (n : Int) : Int :=
  W (W (W (W (W (W (n + f 34) + f 32) + f 38) + f 36) + fixN (f 29) (f 30)) + fixN (f 25) (f 26))
theorem outer_fixed (mc : List AV) (hm : mc.length = 256) (k x : Int) (f : Nat → Int) (kids runs : AV) (least : Bool) (h9 : f 9 = 1) : Call env K.size_Outer [.agg mc, .agg (boxc k x f kids runs), .bool least] [] = some ⟨i64 (edges f (clampN (f 10) (minN f) (maxN f))), [], false, false⟩ := by
  conv => lhs; simp -implicitDefEqProofs [-List.reduceReplicate, Call_of env_size_Outer, size_Outer, size_Outer.body, h9, min_spec, max_spec, fixed_spec, clamp_spec]
  rfl
end Go.Proofs.Ytncnpgakflmibaa.Ai
