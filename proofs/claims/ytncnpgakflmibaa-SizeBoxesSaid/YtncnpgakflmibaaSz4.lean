/- SizeBoxes: the walk. -/
import Derived.Test.YtncnpgakflmibaaSz3
set_option linter.unusedSimpArgs false
set_option linter.unusedVariables false
set_option maxRecDepth 20000
set_option maxHeartbeats 1000000
namespace Go.Proofs.Ytncnpgakflmibaa.Ai
open C
attribute [local simp] Exec_seq Exec_ops Exec_ret Exec_cond Exec_block Exec_exit Exec_skip runOps runItem afterOp scPut scEnd asBool' asFn toEnd stepOp stepP argsFr ev fget clean put cellsOf binOp isShift binI shiftI foldMax foldMin unOp pure3 leave retL resV optAll AV.bare AV.bareL AV.names AV.namesL under bind_ite thenDo atRet atBlock trunc closedB frNames fill inInt callClosed onClosed lenOf isStr ite_some_nrm ite_some_ret ite_some_bool ite_some_AV ite_some_An ite_nrm ite_St ite_Fr ite_int ite_bool ite_An AItem.dsts dstsL
attribute [local congr] bind_left
attribute [local simp] rd_full splice_full rd_sty rd_sty0 rd_sty2 rd_boxc rd_cons
attribute [local simp] splice_nums rd_nums bareL_nums namesL_nums rd_box0 rd_box3 rd_box4 rd_box45 rd_box46

theorem wb3 (k x : Int) (f : Nat → Int) (kids runs : AV) (v : Int) : splice 3 [i64 v] (boxc k x f kids runs) = boxc k x (upd f 1 v) kids runs := write_box (n := 1) (by decide) k x f kids runs v
theorem wb4 (k x : Int) (f : Nat → Int) (kids runs : AV) (v : Int) : splice 4 [i64 v] (boxc k x f kids runs) = boxc k x (upd f 2 v) kids runs := write_box (n := 2) (by decide) k x f kids runs v
theorem wb34 (k x : Int) (f : Nat → Int) (kids runs : AV) (v : Int) : splice 34 [i64 v] (boxc k x f kids runs) = boxc k x (upd f 32 v) kids runs := write_box (n := 32) (by decide) k x f kids runs v
theorem wb40 (k x : Int) (f : Nat → Int) (kids runs : AV) (v : Int) : splice 40 [i64 v] (boxc k x f kids runs) = boxc k x (upd f 38 v) kids runs := write_box (n := 38) (by decide) k x f kids runs v
theorem wb28 (k x : Int) (f : Nat → Int) (kids runs : AV) (v : Int) : splice 28 [i64 v] (boxc k x f kids runs) = boxc k x (upd f 26 v) kids runs := write_box (n := 26) (by decide) k x f kids runs v
theorem wb11 (k x : Int) (f : Nat → Int) (kids runs : AV) (a b : Int) : splice 11 [i64 a, i64 b] (boxc k x f kids runs) = boxc k x (upd (upd f 9 a) 10 b) kids runs := write_box2 (n := 9) (by decide) k x f kids runs a b
theorem wb15 (k x : Int) (f : Nat → Int) (kids runs : AV) (a b : Int) : splice 15 [i64 a, i64 b] (boxc k x f kids runs) = boxc k x (upd (upd f 13 a) 14 b) kids runs := write_box2 (n := 13) (by decide) k x f kids runs a b
theorem wb19 (k x : Int) (f : Nat → Int) (kids runs : AV) (a b : Int) : splice 19 [i64 a, i64 b] (boxc k x f kids runs) = boxc k x (upd (upd f 17 a) 18 b) kids runs := write_box2 (n := 17) (by decide) k x f kids runs a b
theorem write_runs (k x : Int) (f : Nat → Int) (kids runs v : AV) : splice 46 [v] (boxc k x f kids runs) = boxc k x f kids v := by
  simp only [splice, boxc, List.take_succ_cons, List.length_cons, List.length_nil]
  rw [List.take_append, List.take_of_length_le (by simp), sty_length]
  rw [List.drop_succ_cons, List.drop_succ_cons, List.drop_of_length_le (by simp)]
  simp
theorem bits64 : IntKind.i64.bits = 64 := rfl
theorem sp20 (a x y : AV) : splice 0 [a] [x, y] = [a, y] := rfl
theorem sp21 (a x y : AV) : splice 1 [a] [x, y] = [x, a] := rfl
theorem sp41 (a x y z t : AV) : splice 1 [a] [x, y, z, t] = [x, a, z, t] := rfl
theorem bareL_app : ∀ a b : List AV, AV.bareL (a ++ b) = AV.bareL a ++ AV.bareL b
  | [], b => rfl
  | x :: a, b => by simp [AV.bareL, bareL_app a b]
theorem namesL_app : ∀ a b : List AV, AV.namesL (a ++ b) = AV.namesL a ++ AV.namesL b
  | [], b => rfl
  | x :: a, b => by simp [AV.namesL, namesL_app a b]
theorem bareL_boxc (k x : Int) (f : Nat → Int) (kids runs : AV) : AV.bareL (boxc k x f kids runs) = boxc k x f kids.bare runs.bare := by simp [boxc, AV.bareL, AV.bare, bareL_app]
theorem namesL_boxc (k x : Int) (f : Nat → Int) (kids runs : AV) : AV.namesL (boxc k x f kids runs) = kids.names ++ runs.names := by simp [boxc, AV.namesL, AV.names, namesL_app]
theorem rd_ints {xs : List Int} {i : Nat} {e : Int} (h : xs[i]? = some e) : rd 1 false (List.drop i (xs.map i64)) = some (i64 e) := rd_one (by simp [h])
attribute [local simp] make_box make_box2 write_kids wb3 wb4 wb34 wb40 wb28 wb11 wb15 wb19 sp20 sp21 sp41 bareL_boxc namesL_boxc splice_length bitop_and srcOf write_runs bits64
def runsV : AV := .sl 1 [i64 0, .str [97, 98, 32, 99], i64 0, i64 0] none
def kidF (e : Int) : Nat → Int := upd (upd (upd (upd (upd (upd (upd (upd (upd initF 9 1) 10 (andN e 4095)) 13 1) 14 (andN (e.fdiv 4096) 4095)) 17 1) 18 (andN (e.fdiv 16777216) 4095)) 32 (andN (e.fdiv 68719476736) 15)) 38 (andN (e.fdiv 1099511627776) 15)) 26 (andN (e.fdiv 17592186044416) 15)
def kidC (e : Int) : List AV := boxc 2 0 (kidF e) .nils runsV
def widthN (e : Int) : Int := IntKind.i64.wrap (IntKind.i64.wrap (IntKind.i64.wrap ((if (if andN (e.fdiv 16777216) 4095 < andN e 4095 then andN (e.fdiv 16777216) 4095 else andN e 4095) < andN (e.fdiv 4096) 4095 then andN (e.fdiv 4096) 4095 else if andN (e.fdiv 16777216) 4095 < andN e 4095 then andN (e.fdiv 16777216) 4095 else andN e 4095) + andN (e.fdiv 68719476736) 15) + andN (e.fdiv 1099511627776) 15) + andN (e.fdiv 17592186044416) 15)
theorem kidC_fold (e : Int) : boxc 2 0 (upd (upd (upd (upd (upd (upd (upd (upd (upd initF 9 1) 10 (andN e 4095)) 13 1) 14 (andN (e.fdiv 4096) 4095)) 17 1) 18 (andN (e.fdiv 16777216) 4095)) 32 (andN (e.fdiv 68719476736) 15)) 38 (andN (e.fdiv 1099511627776) 15)) 26 (andN (e.fdiv 17592186044416) 15)) .nils (.sl 1 [i64 0, .str [97, 98, 32, 99], i64 0, i64 0] none) = kidC e := rfl
theorem widthN_fold (e : Int) : IntKind.i64.wrap (IntKind.i64.wrap (IntKind.i64.wrap ((if (if andN (e.fdiv 16777216) 4095 < andN e 4095 then andN (e.fdiv 16777216) 4095 else andN e 4095) < andN (e.fdiv 4096) 4095 then andN (e.fdiv 4096) 4095 else if andN (e.fdiv 16777216) 4095 < andN e 4095 then andN (e.fdiv 16777216) 4095 else andN e 4095) + andN (e.fdiv 68719476736) 15) + andN (e.fdiv 1099511627776) 15) + andN (e.fdiv 17592186044416) 15) = widthN e := rfl
@[simp] theorem kidC_length (e : Int) : (kidC e).length = 47 := boxc_length _ _ _ _ _
theorem kidC_bare (e : Int) : AV.bareL (kidC e) = kidC e := by simp [kidC, runsV]
theorem kidC_names (e : Int) : AV.namesL (kidC e) = [] := by simp [kidC, runsV]
attribute [local simp] kidC_fold widthN_fold kidC_bare kidC_names
def kidW (e : Int) : Int := edges (kidF e) (clampN (kidF e 10) (minN (kidF e)) (maxN (kidF e)))
theorem kid_outer (g : Nat → Int) (e : Int) (least : Bool) : Call env K.size_Outer [.agg (nums 256 g), .agg (kidC e), .bool least] [] = some ⟨i64 (kidW e), [], false, false⟩ :=
  outer_fixed (nums 256 g) (by simp) 2 0 (kidF e) .nils runsV least rfl
theorem kidW_eq (e : Int) : kidW e = widthN e := by
  have b1 := andN_bound (x := e) (m := 4095) (by decide) (by decide)
  have b2 := andN_bound (x := e.fdiv 4096) (m := 4095) (by decide) (by decide)
  have b3 := andN_bound (x := e.fdiv 16777216) (m := 4095) (by decide) (by decide)
  have b4 := andN_bound (x := e.fdiv 68719476736) (m := 15) (by decide) (by decide)
  have b5 := andN_bound (x := e.fdiv 1099511627776) (m := 15) (by decide) (by decide)
  have b6 := andN_bound (x := e.fdiv 17592186044416) (m := 15) (by decide) (by decide)
  have e1 : kidF e 10 = andN e 4095 := rfl
  have e2 : minN (kidF e) = max (andN (e.fdiv 4096) 4095) 0 := rfl
  have e3 : maxN (kidF e) = max (andN (e.fdiv 16777216) 4095) 0 := rfl
  have e4 : kidF e 34 = 0 ∧ kidF e 32 = andN (e.fdiv 68719476736) 15 ∧ kidF e 38 = andN (e.fdiv 1099511627776) 15 ∧ kidF e 36 = 0 ∧ fixN (kidF e 29) (kidF e 30) = 0 ∧ fixN (kidF e 25) (kidF e 26) = andN (e.fdiv 17592186044416) 15 := ⟨rfl, rfl, rfl, rfl, rfl, rfl⟩
  unfold kidW edges widthN
  rw [e1, e2, e3, e4.1, e4.2.1, e4.2.2.1, e4.2.2.2.1, e4.2.2.2.2.1, e4.2.2.2.2.2]
  generalize andN e 4095 = a at *
  generalize andN (e.fdiv 4096) 4095 = b at *
  generalize andN (e.fdiv 16777216) 4095 = c at *
  generalize andN (e.fdiv 68719476736) 15 = d at *
  generalize andN (e.fdiv 1099511627776) 15 = p at *
  generalize andN (e.fdiv 17592186044416) 15 = q at *
  have hc : clampN a (max b 0) (max c 0) = (if (if c < a then c else a) < b then b else if c < a then c else a) := by
    unfold clampN
    rw [if_pos (by omega)]
    split <;> split <;> omega
  rw [hc]
  have hb : 0 ≤ (if (if c < a then c else a) < b then b else if c < a then c else a) ∧ (if (if c < a then c else a) < b then b else if c < a then c else a) ≤ 4095 := by split <;> split <;> omega
  generalize (if (if c < a then c else a) < b then b else if c < a then c else a) = n at *
  simp only [W, Int.add_zero]
  rw [W_small (n := n) (by omega) (by omega), W_small (n := n + d) (by omega) (by omega), W_small (n := n + d + p) (by omega) (by omega), W_small (n := n + d + p) (by omega) (by omega), W_small (n := n + d + p) (by omega) (by omega)]
abbrev sbSt (n : Nat) (xs : List Int) (g fb : Nat → Int) (kb : Int) (kids : AV) (tail : List Box) (esc : Bool) (sum most i : Int) : St :=
  ⟨[(0, .sl n (xs.map i64) none), (6, .ptr 0 0), (11, .ptr 1 0), (12, i64 sum), (13, i64 most), (14, i64 i)], .cells (nums 256 g) :: .cells (boxc kb 0 fb kids .nils) :: tail, 0, esc, false⟩
theorem names_ints (xs : List Int) : AV.namesL (xs.map i64) = [] := namesL_ints xs
attribute [local simp] names_ints Box.names
def mx (a b : Int) : Int := if a < b then b else a
theorem mx_fold (a b : Int) : (if a < b then b else a) = mx a b := rfl
theorem sb_first {n : Nat} {xs : List Int} {g fb : Nat → Int} {kb e sum most : Int} (hn : 0 < n) (h0 : xs[0]? = some e) :
    Exec env quoinlaw13_SizeBoxes.l1 (sbSt n xs g fb kb .nils [] false sum most 0) = some (.nrm, sbSt n xs g fb kb (.sl 1 (kidC e) (some 3)) [.cells (kidC e), .tok 1 47] true (W (sum + widthN e)) (mx most (widthN e)) 1) := by
  have hl : 0 < xs.length := (List.getElem?_eq_some_iff.1 h0).1
  have hr := rd_ints h0
  simp only [List.drop_zero] at hr
  have hw : IntKind.i64.wrap 1 = 1 := rfl
  conv => lhs; simp -implicitDefEqProofs [-List.reduceReplicate, quoinlaw13_SizeBoxes.l1, hn, hl, hr, kid_outer, kidW_eq, initial_sty, hw]
  rfl
theorem sb_step {n i : Nat} {xs : List Int} {g fb : Nat → Int} {kb e sum most : Int} {X kc : List AV} (hn : i < n) (h10 : i < 10) (h0 : xs[i]? = some e) (hkc : kc.length = i * 47) (hX : AV.namesL X = []) (hk : AV.namesL kc = []) :
    Exec env quoinlaw13_SizeBoxes.l1 (sbSt n xs g fb kb (.sl i kc (some 3)) [.cells X, .tok i 47] true sum most i) = some (.nrm, sbSt n xs g fb kb (.sl (i + 1) (kc ++ kidC e) (some 3)) [.cells X, .tok (i + 1) 47] true (W (sum + widthN e)) (mx most (widthN e)) (i + 1)) := by
  have hl : i < xs.length := (List.getElem?_eq_some_iff.1 h0).1
  have hr := rd_ints h0
  have hw : IntKind.i64.wrap ((i : Int) + 1) = (i : Int) + 1 := W_small (by omega) (by omega)
  have h1 : (i : Int) < 10 := by omega
  have h2 : (i : Int) < n := by omega
  have h3 : (i + 1) * 409 ≤ 70368744177664 := by omega
  conv => lhs; simp -implicitDefEqProofs [-List.reduceReplicate, quoinlaw13_SizeBoxes.l1, hn, hl, hr, kid_outer, kidW_eq, initial_sty, hw, h1, h2, h3, h10, hkc, hX, hk, namesL_app]
  rfl
def kidsOf (es : List Int) : List (List AV × Int) := es.map fun e => (kidC e, widthN e)
theorem kids_cells (es : List Int) : ((kidsOf es).map (·.1)).flatten = (es.map kidC).flatten := by simp [kidsOf, Function.comp_def]
theorem kids_len (es : List Int) : ((es.map kidC).flatten).length = es.length * 47 := by
  induction es with
  | nil => rfl
  | cons e es ih => simp only [List.map_cons, List.flatten_cons, List.length_append, ih, kidC_length, List.length_cons]; omega
theorem kids_names (es : List Int) : AV.namesL (es.map kidC).flatten = [] := by
  induction es with
  | nil => rfl
  | cons e es ih => simp only [List.map_cons, List.flatten_cons, namesL_app, ih, kidC_names, List.append_nil]
abbrev sbEnd (n : Nat) (xs : List Int) (g fb : Nat → Int) (kb : Int) (kids : AV) (tail : List Box) (esc : Bool) (sum most i : Int) : St :=
  ⟨[(0, .sl n (xs.map i64) none), (6, .ptr 0 0), (11, .ptr 1 0), (12, i64 sum), (13, i64 most), (14, i64 i), (44, .bool false)], .cells (nums 256 g) :: .cells (boxc kb 0 fb kids .nils) :: tail, 0, esc, false⟩
theorem sb_exit {n i : Nat} {xs : List Int} {g fb : Nat → Int} {kb sum most : Int} {kids : AV} {tail : List Box} {esc : Bool} (h : ¬ (i < n ∧ i < 10)) :
    Exec env quoinlaw13_SizeBoxes.l1 (sbSt n xs g fb kb kids tail esc sum most i) = some (.exit 0, sbEnd n xs g fb kb kids tail esc sum most i) := by
  by_cases hn : i < n
  · have h1 : ¬ ((i : Int) < 10) := by omega
    conv => lhs; simp -implicitDefEqProofs [-List.reduceReplicate, quoinlaw13_SizeBoxes.l1, hn, h1]
  · conv => lhs; simp -implicitDefEqProofs [-List.reduceReplicate, quoinlaw13_SizeBoxes.l1, hn]
theorem sumF_app (s : Int) (a b : List (List AV × Int)) : sumF s (a ++ b) = sumF (sumF s a) b := List.foldl_append
theorem mostF_app (s : Int) (a b : List (List AV × Int)) : mostF s (a ++ b) = mostF (mostF s a) b := List.foldl_append
theorem mx_max (a b : Int) : mx a b = max a b := by unfold mx; omega
theorem sb_loop {n : Nat} {xs : List Int} {g fb : Nat → Int} {kb : Int} {X : List AV} (hxs : xs.length = n) (hX : AV.namesL X = []) : ∀ (rest pre : List Int), pre ≠ [] → xs.take (min n 10) = pre ++ rest →
    Exec env (.loop [0, 6, 11, 12, 13, 14] quoinlaw13_SizeBoxes.l1) (sbSt n xs g fb kb (.sl pre.length (pre.map kidC).flatten (some 3)) [.cells X, .tok pre.length 47] true (sumF 0 (kidsOf pre)) (mostF 0 (kidsOf pre)) pre.length) =
      some (.exit 0, sbEnd n xs g fb kb (.sl (pre ++ rest).length ((pre ++ rest).map kidC).flatten (some 3)) [.cells X, .tok (pre ++ rest).length 47] true (sumF 0 (kidsOf (pre ++ rest))) (mostF 0 (kidsOf (pre ++ rest))) (pre ++ rest).length)
  | [], pre, hp, ht => by
    have hl : (pre ++ ([] : List Int)).length = min n 10 := by rw [← ht, List.length_take, hxs]; omega
    rw [List.append_nil] at hl ⊢
    rw [Exec_loop]
    have e : ∀ s m : Int, ({ sbSt n xs g fb kb (.sl pre.length (pre.map kidC).flatten (some 3)) [.cells X, .tok pre.length 47] true s m pre.length with fr := clean [0, 6, 11, 12, 13, 14] (sbSt n xs g fb kb (.sl pre.length (pre.map kidC).flatten (some 3)) [.cells X, .tok pre.length 47] true s m pre.length).fr } : St) = sbSt n xs g fb kb (.sl pre.length (pre.map kidC).flatten (some 3)) [.cells X, .tok pre.length 47] true s m pre.length := fun s m => by simp
    rw [e, sb_exit (by omega)]
    rfl
  | e :: rest, pre, hp, ht => by
    have hlt : pre.length < min n 10 := by
      have := congrArg List.length ht
      rw [List.length_take, hxs] at this
      simp only [List.length_append, List.length_cons] at this
      omega
    have h0 : xs[pre.length]? = some e := by
      have : (xs.take (min n 10))[pre.length]? = some e := by rw [ht, List.getElem?_append_right (Nat.le_refl _)]; simp
      rwa [List.getElem?_take_of_lt hlt] at this
    have hst := sb_step (n := n) (g := g) (fb := fb) (kb := kb) (sum := sumF 0 (kidsOf pre)) (most := mostF 0 (kidsOf pre)) (by omega) (by omega) h0 (kids_len pre) hX (kids_names pre)
    rw [Exec_loop]
    have e1 : ∀ s m : Int, ({ sbSt n xs g fb kb (.sl pre.length (pre.map kidC).flatten (some 3)) [.cells X, .tok pre.length 47] true s m pre.length with fr := clean [0, 6, 11, 12, 13, 14] (sbSt n xs g fb kb (.sl pre.length (pre.map kidC).flatten (some 3)) [.cells X, .tok pre.length 47] true s m pre.length).fr } : St) = sbSt n xs g fb kb (.sl pre.length (pre.map kidC).flatten (some 3)) [.cells X, .tok pre.length 47] true s m pre.length := fun s m => by simp
    rw [e1, hst]
    have hk := sb_loop hxs hX rest (pre ++ [e]) (by simp) (by rw [ht]; simp) (g := g) (fb := fb) (kb := kb)
    have hs : sumF 0 (kidsOf (pre ++ [e])) = W (sumF 0 (kidsOf pre) + widthN e) := by simp [kidsOf, sumF_app]; rfl
    have hm : mostF 0 (kidsOf (pre ++ [e])) = mx (mostF 0 (kidsOf pre)) (widthN e) := by rw [mx_max]; simp [kidsOf, mostF_app]; rfl
    have hf : ((pre ++ [e]).map kidC).flatten = (pre.map kidC).flatten ++ kidC e := by simp
    have hl : (pre ++ [e]).length = pre.length + 1 := by simp
    have ha : pre ++ [e] ++ rest = pre ++ e :: rest := by simp
    rw [hs, hm, hf, hl, ha] at hk
    have e2 : ∀ s m : Int, trunc (sbSt n xs g fb kb (.sl pre.length (pre.map kidC).flatten (some 3)) [.cells X, .tok pre.length 47] true (sumF 0 (kidsOf pre)) (mostF 0 (kidsOf pre)) pre.length).H.length [0, 6, 11, 12, 13, 14] (sbSt n xs g fb kb (.sl (pre.length + 1) ((pre.map kidC).flatten ++ kidC e) (some 3)) [.cells X, .tok (pre.length + 1) 47] true s m (pre.length + 1)) = sbSt n xs g fb kb (.sl (pre.length + 1) ((pre.map kidC).flatten ++ kidC e) (some 3)) [.cells X, .tok (pre.length + 1) 47] true s m ((pre.length + 1 : Nat) : Int) := fun s m => by
      simp [hX, namesL_app, kids_names]
    simp only [Option.bind_some, thenDo]
    rw [e2, hk]
end Go.Proofs.Ytncnpgakflmibaa.Ai
