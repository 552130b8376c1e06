/- SizeNested: the greatest sums of a row. -/
import Derived.Test.YtncnpgakflmibaaSn1
set_option linter.unusedSimpArgs false
set_option linter.unusedVariables false
set_option maxRecDepth 20000
set_option maxHeartbeats 1000000
namespace Go.Proofs.Ytncnpgakflmibaa.Ai
open C
attribute [local simp] Exec_seq Exec_ops Exec_ret Exec_cond Exec_block Exec_exit Exec_skip runOps runItem afterOp scPut scEnd asBool' asFn toEnd stepOp stepP argsFr ev fget clean put cellsOf binOp isShift binI shiftI foldMax foldMin unOp pure3 leave retL resV optAll AV.bare AV.bareL AV.names AV.namesL under bind_ite thenDo atRet atBlock trunc closedB frNames fill inInt callClosed onClosed lenOf isStr ite_some_nrm ite_some_ret ite_some_bool ite_some_AV ite_some_An ite_nrm ite_St ite_Fr ite_int ite_bool ite_An AItem.dsts dstsL
attribute [local congr] bind_left
attribute [local simp] rd_full splice_full rd_sty rd_sty0 rd_sty2 rd_boxc rd_cons
attribute [local simp] splice_nums rd_nums bareL_nums namesL_nums rd_box0 rd_box3 rd_box4 rd_box45 rd_box46

attribute [local simp] make_box make_box2 write_kids wb3 wb4 wb34 wb40 wb28 wb11 wb15 wb19 sp20 sp21 sp41 bareL_boxc namesL_boxc splice_length bitop_and srcOf write_runs bits64 names_ints Box.names kids_names


theorem least1_spec (k : Int) : Call env K.brk_Least_1 [i64 k] [] = some ⟨.bool (decide (k = 2 ∨ k = 4)), [], false, false⟩ := by
  by_cases h : k = 2
  · conv => lhs; simp -implicitDefEqProofs [-List.reduceReplicate, Call_of env_brk_Least_1, brk_Least_1, brk_Least_1.body, h]
    simp [h]
  · by_cases h2 : k = 4
    · conv => lhs; simp -implicitDefEqProofs [-List.reduceReplicate, Call_of env_brk_Least_1, brk_Least_1, brk_Least_1.body, h2]
      simp [h2]
    · conv => lhs; simp -implicitDefEqProofs [-List.reduceReplicate, Call_of env_brk_Least_1, brk_Least_1, brk_Least_1.body, h, h2]
      simp [h, h2]
theorem most1_spec (k : Int) : Call env K.brk_Most_1 [i64 k] [] = some ⟨.bool (decide (k = 4)), [], false, false⟩ := by
  by_cases h2 : k = 4
  · conv => lhs; simp -implicitDefEqProofs [-List.reduceReplicate, Call_of env_brk_Most_1, brk_Most_1, brk_Most_1.body, h2]
    simp [h2]
  · conv => lhs; simp -implicitDefEqProofs [-List.reduceReplicate, Call_of env_brk_Most_1, brk_Most_1, brk_Most_1.body, h2]
    simp [h2]
/-! ### Rows of glyphs: kind and advance are asked -/
def gly (k r a d : Int) : List AV := [i64 k, i64 r, i64 a, i64 d]
structure Gly where
  k : Int
  r : Int
  a : Int
  d : Int
def Gly.cells (g : Gly) : List AV := gly g.k g.r g.a g.d
def glyphs (l : List Gly) : List AV := (l.map Gly.cells).flatten
theorem glyphs_names (l : List Gly) : AV.namesL (glyphs l) = [] := by
  induction l with
  | nil => rfl
  | cons g l ih => simp only [glyphs, List.map_cons, List.flatten_cons, namesL_app] at ih ⊢; rw [ih]; rfl
theorem glyphs_len (l : List Gly) : (glyphs l).length = l.length * 4 := by
  induction l with
  | nil => rfl
  | cons g l ih => simp only [glyphs, List.map_cons, List.flatten_cons, List.length_append, List.length_cons] at ih ⊢; rw [ih]; simp [Gly.cells, gly]; omega
theorem rd_gly (pre rest : List Gly) (g : Gly) : rd 4 true (List.drop (pre.length * 4) (glyphs (pre ++ g :: rest))) = some (.agg (gly g.k g.r g.a g.d)) ∧ pre.length * 4 < (glyphs (pre ++ g :: rest)).length := by
  have e : glyphs (pre ++ g :: rest) = glyphs pre ++ (Gly.cells g ++ glyphs rest) := by simp [glyphs]
  rw [e, ← glyphs_len pre, List.drop_left]
  refine ⟨?_, by simp [Gly.cells, gly] <;> omega⟩
  simp [rd, Gly.cells, gly]
abbrev rowSt (F n : Nat) (cells : List AV) (most w i : Int) : St := ⟨[(1, .fn F []), (5, i64 most), (6, i64 w), (9, .sl n cells none), (10, i64 n), (11, i64 i)], [], 0, false, false⟩
theorem rows_step {F n i : Nat} {p : Int → Bool} (hF : ∀ k, Call env F [i64 k] [] = some ⟨.bool (p k), [], false, false⟩) {cells : List AV} {most w : Int} {g : Gly} (hn : n ≤ 1000000) (hi : i < n) (hN : AV.namesL cells = []) (hr : rd 4 true (List.drop (i * 4) cells) = some (.agg (gly g.k g.r g.a g.d))) (hlt : i * 4 < cells.length) :
    Exec env brk_rows.l1 (rowSt F n cells most w i) = some (.nrm, rowSt F n cells (if p g.k then most else max most (W (w + g.d))) (if p g.k then 0 else W (w + g.d)) (i + 1)) := by
  have h1 : (i : Int) < n := by omega
  have h2 : IntKind.i64.wrap ((i : Int) + 1) = (i : Int) + 1 := W_small (by omega) (by omega)
  have h3 : (if most < IntKind.i64.wrap (w + g.d) then IntKind.i64.wrap (w + g.d) else most) = max most (IntKind.i64.wrap (w + g.d)) := by omega
  have h4 : ∀ a b c d : Int, (gly a b c d).length = 4 := fun _ _ _ _ => rfl
  have hk := hF g.k
  cases hp : p g.k with
  | true =>
    rw [hp] at hk
    conv => lhs; simp -implicitDefEqProofs [-List.reduceReplicate, brk_rows.l1, h1, hi, h2, hN, hr, hlt, gly, hk]
    rfl
  | false =>
    rw [hp] at hk
    conv => lhs; simp -implicitDefEqProofs [-List.reduceReplicate, brk_rows.l1, h1, hi, h2, hN, hr, hlt, gly, hk, h3]
    rfl
/-- What brk.rows reckons: the greatest sum so far, the sum so far. -/
def rowsF (p : Int → Bool) : Int × Int → List Gly → Int × Int
  | mw, [] => mw
  | (m, w), g :: l => rowsF p (if p g.k then (m, 0) else (max m (W (w + g.d)), W (w + g.d))) l
theorem rows_loop {F n : Nat} {p : Int → Bool} (hF : ∀ k, Call env F [i64 k] [] = some ⟨.bool (p k), [], false, false⟩) (hn : n ≤ 1000000) : ∀ (rest pre : List Gly) (m w : Int), n = (pre ++ rest).length →
    Exec env (.loop [1, 5, 6, 9, 10, 11] brk_rows.l1) (rowSt F n (glyphs (pre ++ rest)) m w pre.length) = some (.exit 0, ⟨[(1, .fn F []), (5, i64 (rowsF p (m, w) rest).1), (6, i64 (rowsF p (m, w) rest).2), (9, .sl n (glyphs (pre ++ rest)) none), (10, i64 n), (11, i64 n), (12, .bool false)], [], 0, false, false⟩)
  | [], pre, m, w, hl => by
    have hl' : pre.length = n := by simpa using hl.symm
    rw [hl', Exec_loop]
    conv => lhs; simp -implicitDefEqProofs [-List.reduceReplicate, brk_rows.l1]
    simp [rowsF]
  | g :: rest, pre, m, w, hl => by
    have hr := rd_gly pre rest g
    have hst := rows_step (n := n) (i := pre.length) (most := m) (w := w) hF hn (by simp at hl; omega) (glyphs_names _) hr.1 hr.2
    rw [Exec_loop]
    have e : ({ rowSt F n (glyphs (pre ++ g :: rest)) m w pre.length with fr := clean [1, 5, 6, 9, 10, 11] (rowSt F n (glyphs (pre ++ g :: rest)) m w pre.length).fr } : St) = rowSt F n (glyphs (pre ++ g :: rest)) m w pre.length := by simp
    rw [e, hst]
    have e2 : ∀ a b : Int, trunc (rowSt F n (glyphs (pre ++ g :: rest)) m w pre.length).H.length [1, 5, 6, 9, 10, 11] (rowSt F n (glyphs (pre ++ g :: rest)) a b ((pre.length : Int) + 1)) = rowSt F n (glyphs ((pre ++ [g]) ++ rest)) a b ((pre ++ [g]).length : Nat) := fun a b => by simp [glyphs_names]
    simp only [Option.bind_some, thenDo]
    rw [e2, rows_loop hF hn rest (pre ++ [g]) _ _ (by rw [hl]; simp)]
    have ha : (pre ++ [g]) ++ rest = pre ++ g :: rest := by simp
    rw [ha]
    cases hp : p g.k <;> simp [rowsF, hp]
end Go.Proofs.Ytncnpgakflmibaa.Ai
