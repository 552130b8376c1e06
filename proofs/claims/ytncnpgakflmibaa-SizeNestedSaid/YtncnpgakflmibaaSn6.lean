/- SizeNested: whit.Glyphs, brk.Least and brk.Most. -/
import Derived.Test.YtncnpgakflmibaaSn5
set_option linter.unusedSimpArgs false
set_option linter.unusedVariables false
set_option maxRecDepth 20000
set_option maxHeartbeats 1000000
namespace Go.Proofs.Ytncnpgakflmibaa.Ai
open C
attribute [local simp] Exec_seq Exec_ops Exec_ret Exec_cond Exec_block Exec_exit Exec_skip runOps runItem afterOp scPut scEnd asBool' asFn toEnd stepOp stepP argsFr ev fget clean put cellsOf binOp isShift binI shiftI foldMax foldMin unOp pure3 leave retL resV optAll AV.bare AV.bareL AV.names AV.namesL under bind_ite thenDo atRet atBlock trunc closedB frNames fill inInt callClosed onClosed lenOf isStr ite_some_nrm ite_some_ret ite_some_bool ite_some_AV ite_some_An ite_nrm ite_St ite_Fr ite_int ite_bool ite_An AItem.dsts dstsL
attribute [local congr] bind_left
attribute [local simp] rd_full splice_full rd_sty rd_sty0 rd_sty2 rd_boxc rd_cons
attribute [local simp] splice_nums rd_nums bareL_nums namesL_nums rd_box0 rd_box3 rd_box4 rd_box45 rd_box46

attribute [local simp] make_box make_box2 write_kids wb3 wb4 wb34 wb40 wb28 wb11 wb15 wb19 sp20 sp21 sp41 bareL_boxc namesL_boxc splice_length bitop_and srcOf write_runs bits64 names_ints Box.names kids_names

theorem callRead_two {call : CallFn} {f b : Nat} {a2 : AV} {H cs H' : _} {v : AV} {e : Bool} (hb : H[b]? = some (.cells cs)) (hn : AV.namesL cs = []) (ha : a2.names = []) (h : call f [.ptr 0 0, a2] [.cells cs] = some ⟨v, H', e, false⟩) (hv : v.names = []) (hH : H'.length = 1) :
    callRead call f [.ptr b 0, a2] H = some ⟨v, H, false, false⟩ :=
  callRead_one hb hn (by simp [AV.namesL, ha]) h hv hH
/-- What the glyphs of runs are: advances of known bounds. -/
theorem glyphs_spec {g : Nat → Int} (R : List Run4) (hnn : R.length ≤ 1000) (ht : ∀ r ∈ R, r.tx.length ≤ 1000) (hb : bytesN R ≤ 1000) :
    ∃ l, (∀ x ∈ l, GoodKA x.k x.d) ∧ l.length ≤ bytesN R ∧ Call env K.whit_Glyphs [.agg (nums 256 g), .sl R.length (runs4 R) none] [] = some ⟨.sl l.length (glyphs l) none, [], false, false⟩ := by
  obtain ⟨l, hg, hl, hs⟩ := all_spec (g := g) R hnn ht (by omega)
  obtain ⟨o, ho, hol, hs2⟩ := gl_loop (g := g) (l := l) (by omega) l.length 0 [] (by omega) (by simp)
  refine ⟨o, fun x hx => hg x ((ho x hx).resolve_left (by simp)), by omega, ?_⟩
  have hg0 : glyphs [] = [] := rfl
  simp only [glSt, List.length_nil, Int.natCast_zero, hg0] at hs2
  have hs1 := callRead_two (H := [.cells (nums 256 g)]) (b := 0) rfl (namesL_nums _ _) (by simp [AV.names, runs4_names]) hs (by simp [AV.names, glyphs_names]) rfl
  conv => lhs; simp -implicitDefEqProofs [-List.reduceReplicate, Call_of env_whit_Glyphs, whit_Glyphs, whit_Glyphs.body, hs1, hs2, runs4_names, runs4_bare, glyphs_names]
/-- The answer for no runs. -/
theorem all_loop0 {g : Nat → Int} : Exec env (.loop [0, 5, 10, 11, 12] whit_all.l1) ⟨[(0, .ptr 0 0), (5, .sl 0 [] (some 1)), (10, .nils), (11, i64 0), (12, i64 0)], [.cells (nums 256 g), .tok 0 4], 1, false, false⟩ =
    some (.exit 0, ⟨[(0, .ptr 0 0), (5, .sl 0 [] (some 1)), (10, .nils), (11, i64 0), (12, i64 0), (13, .bool false)], [.cells (nums 256 g), .tok 0 4], 1, false, false⟩) := by
  rw [Exec_loop]
  conv => lhs; simp -implicitDefEqProofs [-List.reduceReplicate, whit_all.l1]
def leastP (k : Int) : Bool := decide (k = 2 ∨ k = 4)
def mostP (k : Int) : Bool := decide (k = 4)
theorem rows_spec {F : Nat} {p : Int → Bool} (hF : ∀ k, Call env F [i64 k] [] = some ⟨.bool (p k), [], false, false⟩) (l : List Gly) (hn : l.length ≤ 1000000) :
    Call env K.brk_rows [.sl l.length (glyphs l) none, .fn F []] [] = some ⟨i64 (rowsF p (0, 0) l).1, [], false, false⟩ := by
  have hloop := rows_loop (F := F) (n := l.length) (p := p) hF hn l [] 0 0 rfl
  simp only [rowSt, List.nil_append, List.length_nil, Int.natCast_zero] at hloop
  conv => lhs; simp -implicitDefEqProofs [-List.reduceReplicate, Call_of env_brk_rows, brk_rows, brk_rows.body, hloop, glyphs_names]
theorem leastB_spec (l : List Gly) (hn : l.length ≤ 1000000) : Call env K.brk_Least [.sl l.length (glyphs l) none] [] = some ⟨i64 (rowsF leastP (0, 0) l).1, [], false, false⟩ := by
  have h := rows_spec (p := leastP) least1_spec l hn
  conv => lhs; simp -implicitDefEqProofs [-List.reduceReplicate, Call_of env_brk_Least, brk_Least, brk_Least.body, h, glyphs_names]
theorem mostB_spec (l : List Gly) (hn : l.length ≤ 1000000) : Call env K.brk_Most [.sl l.length (glyphs l) none] [] = some ⟨i64 (rowsF mostP (0, 0) l).1, [], false, false⟩ := by
  have h := rows_spec (p := mostP) most1_spec l hn
  conv => lhs; simp -implicitDefEqProofs [-List.reduceReplicate, Call_of env_brk_Most, brk_Most, brk_Most.body, h, glyphs_names]
/-! ### The plain law: what parts more oft is never wider -/
theorem rows_le : ∀ (l : List Gly) (m w m' w' B : Int), (∀ x ∈ l, GoodKA x.k x.d) → 0 ≤ w → w ≤ w' → 0 ≤ m → m ≤ m' → w' ≤ B → m' ≤ B → B + l.length * 65536 ≤ 1000000000000 →
    (rowsF leastP (m, w) l).1 ≤ (rowsF mostP (m', w') l).1 ∧ 0 ≤ (rowsF leastP (m, w) l).1 ∧ (rowsF mostP (m', w') l).1 ≤ B + l.length * 65536
  | [], m, w, m', w', B, _, _, _, _, _, _, _, _ => by simp [rowsF]; omega
  | x :: l, m, w, m', w', B, hg, h0, hw, hm0, hm, hB, hB2, hS => by
    have hx := hg x (by simp)
    have := hx.lo
    have := hx.hi
    simp only [List.length_cons] at hS ⊢
    have e1 : W (w + x.d) = w + x.d := W_small (by omega) (by omega)
    have e2 : W (w' + x.d) = w' + x.d := W_small (by omega) (by omega)
    simp only [rowsF, e1, e2]
    have ih := fun m w m' w' a b c d e f => rows_le l m w m' w' (B + 65536) (fun y hy => hg y (by simp [hy])) a b c d e f (by omega)
    have hp : mostP x.k = true → leastP x.k = true := by simp [mostP, leastP]; omega
    cases h1 : mostP x.k with
    | true =>
      rw [hp h1]
      simp only [if_true]
      have := ih m 0 m' 0 (by omega) (by omega) (by omega) (by omega) (by omega) (by omega)
      omega
    | false =>
      cases h2 : leastP x.k with
      | true =>
        simp only [if_true, Bool.false_eq_true, if_false]
        have := ih m 0 (max m' (w' + x.d)) (w' + x.d) (by omega) (by omega) (by omega) (by omega) (by omega) (by omega)
        omega
      | false =>
        simp only [Bool.false_eq_true, if_false]
        have := ih (max m (w + x.d)) (w + x.d) (max m' (w' + x.d)) (w' + x.d) (by omega) (by omega) (by omega) (by omega) (by omega) (by omega)
        omega
end Go.Proofs.Ytncnpgakflmibaa.Ai
