/- quoinlaw9.Tame, and the kids of a box. -/
import Derived.Test.YtncnpgakflmibaaSz1
import Derived.Laws.BitsLemmas
set_option linter.unusedSimpArgs false
set_option linter.unusedVariables false
set_option maxRecDepth 20000
namespace Go.Proofs.Ytncnpgakflmibaa.Ai
open C
attribute [local simp] Exec_seq Exec_ops Exec_ret Exec_cond Exec_block Exec_exit Exec_skip runOps runItem afterOp scPut scEnd asBool' asFn toEnd stepOp stepP argsFr ev fget clean put cellsOf binOp isShift binI shiftI foldMax foldMin unOp pure3 leave retL resV optAll AV.bare AV.bareL AV.names AV.namesL under bind_ite thenDo atRet atBlock trunc closedB frNames fill inInt callClosed onClosed lenOf isStr ite_some_nrm ite_some_ret ite_some_bool ite_some_AV ite_some_An ite_nrm ite_St ite_Fr ite_int ite_bool ite_An AItem.dsts dstsL
attribute [local congr] bind_left
attribute [local simp] rd_full splice_full rd_sty rd_sty0 rd_sty2 rd_boxc rd_cons
theorem W_small {n : Int} (h : -9223372036854775808 ≤ n) (h' : n ≤ 9223372036854775807) : IntKind.i64.wrap n = n := by
  rw [IntKind.wrap_i64]
  omega
theorem splice_nums {n i : Nat} {f : Nat → Int} {v : Int} (h : i < n) : splice i [i64 v] (nums n f) = nums n (upd f i v) := by
  apply List.ext_getElem?
  intro j
  unfold splice
  by_cases hj : j < i
  · rw [List.append_assoc, List.getElem?_append_left (by simp; omega), List.getElem?_take_of_lt hj, nums_get _ _ _ (by omega), nums_get _ _ _ (by omega)]
    simp [upd, show j ≠ i by omega]
  · by_cases hji : j = i
    · subst hji
      rw [List.append_assoc, List.getElem?_append_right (by simp; omega), nums_get _ _ _ h]
      simp [upd, show j - min j n = 0 by omega]
    · rw [List.getElem?_append_right (by simp; omega), List.getElem?_drop]
      by_cases hjn : j < n
      · rw [nums_get _ _ _ hjn]
        simp only [List.length_append, List.length_take, nums_length, List.length_cons, List.length_nil]
        rw [nums_get _ _ _ (by omega)]
        simp only [upd, if_neg hji]
        congr 3
        omega
      · rw [List.getElem?_eq_none (by simp; omega), List.getElem?_eq_none (by simp; omega)]
theorem rd_nums {n i : Nat} {f : Nat → Int} (h : i < n) : rd 1 false (List.drop i (nums n f)) = some (i64 (f i)) := rd_one (nums_get _ _ _ h)
attribute [local simp] splice_nums rd_nums
abbrev tameSt (i : Int) (f : Nat → Int) (Z : Box) : St := ⟨[(1, .bool true), (2, .ptr 0 0), (4, .ptr 1 0), (5, i64 i)], [.cells (nums 256 f), Z], 0, false, false⟩
theorem tame_step (i : Nat) (hi : i < 256) (f : Nat → Int) (Z : Box) : ∃ g, Exec env quoinlaw9_Tame.l1 (tameSt i f Z) = some (.nrm, tameSt (i + 1) g Z) := by
  have h1 : (i : Int) < 256 := by omega
  have h2 : IntKind.i64.wrap ((i : Int) + 1) = (i : Int) + 1 := W_small (by omega) (by omega)
  have h3 : i ≤ 255 := by omega
  refine ⟨?g, ?_⟩
  rotate_left
  · conv => lhs; simp -implicitDefEqProofs [-List.reduceReplicate, quoinlaw9_Tame.l1, h1, hi, h2, h3, bitop]
theorem tame_loop (Z : Box) : ∀ (k i : Nat) (f : Nat → Int), i + k = 256 → ∃ g, Exec env (.loop [1, 2, 4, 5] quoinlaw9_Tame.l1) (tameSt i f Z) = some (.exit 0, ⟨[(1, .bool true), (2, .ptr 0 0), (4, .ptr 1 0), (5, i64 256), (7, .bool false)], [.cells (nums 256 g), Z], 0, false, false⟩)
  | 0, i, f, h => by
    obtain rfl : i = 256 := by omega
    refine ⟨f, ?_⟩
    rw [Exec_loop]
    conv => lhs; simp -implicitDefEqProofs [-List.reduceReplicate, quoinlaw9_Tame.l1]
  | k + 1, i, f, h => by
    obtain ⟨g, hg⟩ := tame_step i (by omega) f Z
    obtain ⟨g', hg'⟩ := tame_loop Z k (i + 1) g (by omega)
    refine ⟨g', ?_⟩
    rw [Exec_loop]
    have e : ({ tameSt i f Z with fr := clean [1, 2, 4, 5] (tameSt i f Z).fr } : St) = tameSt i f Z := by simp
    rw [e, hg]
    have e2 : trunc (tameSt i f Z).H.length [1, 2, 4, 5] (tameSt (i + 1) g Z) = tameSt ((i + 1 : Nat) : Int) g Z := by simp
    simp only [Option.bind_some, thenDo]
    rw [e2, hg']
theorem bareL_nums (n : Nat) (f : Nat → Int) : AV.bareL (nums n f) = nums n f := by rw [nums_ints, bareL_ints]
theorem namesL_nums (n : Nat) (f : Nat → Int) : AV.namesL (nums n f) = [] := by rw [nums_ints, namesL_ints]
attribute [local simp] bareL_nums namesL_nums
theorem tame_spec (f : Nat → Int) : ∃ g, Call env K.quoinlaw9_Tame [.agg (nums 256 f), .bool true] [] = some ⟨.agg (nums 256 g), [], false, false⟩ := by
  obtain ⟨g, hg⟩ := tame_loop (.cells (List.replicate 256 (.int .i64 0))) 256 0 f rfl
  simp only [tameSt, Int.natCast_zero] at hg
  refine ⟨?g, ?_⟩
  rotate_left
  · conv => lhs; simp -implicitDefEqProofs [-List.reduceReplicate, Call_of env_quoinlaw9_Tame, quoinlaw9_Tame, quoinlaw9_Tame.body, hg]
/-! ### The kids of a box -/
structure Kid (mc : List AV) (least : Bool) (k : List AV) (o : Int) : Prop where
  len : k.length = 47
  bare : AV.bareL k = k
  names : AV.namesL k = []
  outer : Call env K.size_Outer [.agg mc, .agg k, .bool least] [] = some ⟨i64 o, [], false, false⟩
theorem rd_kid {pre : List (List AV)} {k : List AV} {rest : List AV} (hp : ∀ x ∈ pre, x.length = 47) (hk : k.length = 47) : rd 47 true (List.drop (pre.length * 47) (pre.flatten ++ (k ++ rest))) = some (.agg k) ∧ pre.length * 47 < (pre.flatten ++ (k ++ rest)).length := by
  have hl : pre.flatten.length = pre.length * 47 := by
    induction pre with
    | nil => rfl
    | cons x pre ih =>
      rw [List.flatten_cons, List.length_append, ih (fun y hy => hp y (by simp [hy])), hp x (by simp), List.length_cons]
      omega
  rw [← hl, List.drop_left]
  refine ⟨?_, by simp [hk]; omega⟩
  simp only [rd, if_true]
  rw [if_pos (by simp [hk])]
  rw [← hk, List.take_left]
abbrev conSt (least : Bool) (g : Nat → Int) (B : Box) (sum most : Int) (n : Nat) (cells : List AV) (i : Int) : St :=
  ⟨[(2, .bool least), (3, .ptr 0 0), (4, .ptr 1 0), (8, i64 sum), (9, i64 most), (34, .sl n cells none), (35, i64 n), (36, i64 i)], [.cells (nums 256 g), B], 0, false, false⟩
theorem con_step {least : Bool} {g : Nat → Int} {B : Box} {sum most : Int} {n i : Nat} {cells k : List AV} {o : Int} (hn : n ≤ 1000000) (hi : i < n) (hk : Kid (nums 256 g) least k o) (hr : rd 47 true (List.drop (i * 47) cells) = some (.agg k)) (hlt : i * 47 < cells.length) (hN : AV.namesL cells = []) :
    Exec env size_content.l1 (conSt least g B sum most n cells i) = some (.nrm, conSt least g B (W (sum + o)) (max most o) n cells (i + 1)) := by
  have h1 : (i : Int) < n := by omega
  have h2 : IntKind.i64.wrap ((i : Int) + 1) = (i : Int) + 1 := W_small (by omega) (by omega)
  have h3 : (if most < o then o else most) = max most o := by rw [Int.max_def]; split <;> split <;> omega
  have h4 := hk.len
  have h5 := hk.bare
  have h6 := hk.names
  have h7 := hk.outer
  conv => lhs; simp -implicitDefEqProofs [-List.reduceReplicate, size_content.l1, h1, hi, h2, hr, hlt, hN, h4, h5, h6, h7, h3]
def sumF (s : Int) (ks : List (List AV × Int)) : Int := ks.foldl (fun s p => W (s + p.2)) s
def mostF (m : Int) (ks : List (List AV × Int)) : Int := ks.foldl (fun m p => max m p.2) m
theorem con_loop {least : Bool} {g : Nat → Int} {B : Box} {n : Nat} {cells : List AV} (hn : n ≤ 1000000) (hN : AV.namesL cells = []) : ∀ (ks : List (List AV × Int)) (pre : List (List AV)) (s m : Int), (∀ x ∈ pre, x.length = 47) → (∀ p ∈ ks, Kid (nums 256 g) least p.1 p.2) → cells = (pre ++ ks.map (·.1)).flatten → n = pre.length + ks.length →
    Exec env (.loop [2, 3, 4, 8, 9, 34, 35, 36] size_content.l1) (conSt least g B s m n cells pre.length) = some (.exit 0, ⟨[(2, .bool least), (3, .ptr 0 0), (4, .ptr 1 0), (8, i64 (sumF s ks)), (9, i64 (mostF m ks)), (34, .sl n cells none), (35, i64 n), (36, i64 n), (37, .bool false)], [.cells (nums 256 g), B], 0, false, false⟩)
  | [], pre, s, m, hp, hk, hc, hl => by
    have hl' : pre.length = n := by simpa using hl.symm
    rw [hl', Exec_loop]
    conv => lhs; simp -implicitDefEqProofs [-List.reduceReplicate, size_content.l1]
    rfl
  | p :: ks, pre, s, m, hp, hk, hc, hl => by
    have hkp := hk p (by simp)
    have hc' : cells = pre.flatten ++ (p.1 ++ (ks.map (·.1)).flatten) := by rw [hc]; simp
    have hr := rd_kid (rest := (ks.map (·.1)).flatten) hp hkp.len
    rw [← hc'] at hr
    have hst := con_step (B := B) (sum := s) (most := m) hn (i := pre.length) (by simp only [List.length_cons] at hl; omega) hkp hr.1 hr.2 hN
    rw [Exec_loop]
    have e : ({ conSt least g B s m n cells pre.length with fr := clean [2, 3, 4, 8, 9, 34, 35, 36] (conSt least g B s m n cells pre.length).fr } : St) = conSt least g B s m n cells pre.length := by simp
    rw [e, hst]
    have e2 : trunc (conSt least g B s m n cells pre.length).H.length [2, 3, 4, 8, 9, 34, 35, 36] (conSt least g B (W (s + p.2)) (max m p.2) n cells ((pre.length : Int) + 1)) = conSt least g B (W (s + p.2)) (max m p.2) n cells ((pre ++ [p.1]).length : Nat) := by simp [hN]
    simp only [Option.bind_some, thenDo]
    rw [e2, con_loop hn hN ks (pre ++ [p.1]) (W (s + p.2)) (max m p.2) (fun x hx => by
      rcases List.mem_append.1 hx with hx | hx
      · exact hp x hx
      · simp only [List.mem_singleton] at hx; rw [hx]; exact hkp.len) (fun q hq => hk q (by simp [hq])) (by rw [hc]; simp) (by simp only [List.length_append, List.length_cons, List.length_nil] at hl ⊢; omega)]
    rfl
theorem rd_box0 (k x : Int) (f : Nat → Int) (kids runs : AV) : rd 1 false (boxc k x f kids runs) = some (i64 k) := rfl
theorem boxc_get (k x : Int) (f : Nat → Int) (kids runs : AV) (n : Nat) (h : n < 43) : (boxc k x f kids runs)[n + 2]? = some (i64 (f n)) := by
  simp only [boxc, List.getElem?_cons_succ]
  rw [List.getElem?_append_left (by rw [sty_length]; exact h)]
  exact nums_get _ _ _ h
theorem rd_box3 (k x : Int) (f : Nat → Int) (kids runs : AV) : rd 1 false (List.drop 3 (boxc k x f kids runs)) = some (i64 (f 1)) := rd_one (boxc_get k x f kids runs 1 (by decide))
theorem rd_box4 (k x : Int) (f : Nat → Int) (kids runs : AV) : rd 1 false (List.drop 4 (boxc k x f kids runs)) = some (i64 (f 2)) := rd_one (boxc_get k x f kids runs 2 (by decide))
theorem rd_box45 (k x : Int) (f : Nat → Int) (kids runs : AV) : rd 1 false (List.drop 45 (boxc k x f kids runs)) = some kids := rd_one (by
  simp only [boxc, List.getElem?_cons_succ]
  rw [List.getElem?_append_right (by rw [sty_length]; exact Nat.le_refl _), sty_length]
  rfl)
theorem rd_box46 (k x : Int) (f : Nat → Int) (kids runs : AV) : rd 1 false (List.drop 46 (boxc k x f kids runs)) = some runs := rd_one (by
  simp only [boxc, List.getElem?_cons_succ]
  rw [List.getElem?_append_right (by rw [sty_length]; decide), sty_length]
  rfl)
attribute [local simp] rd_box0 rd_box3 rd_box4 rd_box45 rd_box46
def conN (k : Int) (f : Nat → Int) (least : Bool) (sum most : Int) : Int := if k = 1 ∨ 2 ≤ f 1 ∨ (least = true ∧ f 2 ≠ 0) then most else sum
theorem content_spec {least : Bool} {g f : Nat → Int} {x k : Int} {runs : AV} {ks : List (List AV × Int)} (hkind : k = 1 ∨ k = 3) (hn : ks.length ≤ 1000000) (hN : AV.namesL (ks.map (·.1)).flatten = []) (hk : ∀ p ∈ ks, Kid (nums 256 g) least p.1 p.2) :
    Call env K.size_content [.agg (nums 256 g), .agg (boxc k x f (.sl ks.length (ks.map (·.1)).flatten none) runs), .bool least] [] = some ⟨i64 (conN k f least (sumF 0 ks) (mostF 0 ks)), [], false, false⟩ := by
  have hloop := con_loop (least := least) (B := .cells (boxc k x f (.sl ks.length (ks.map (·.1)).flatten none) runs)) hn hN ks [] 0 0 (fun x hx => by simp at hx) hk (by simp) (by simp)
  simp only [conSt, List.length_nil, Int.natCast_zero] at hloop
  have hk2 : (k = 2) = False := by simp; omega
  rcases hkind with rfl | rfl
  · conv => lhs; simp -implicitDefEqProofs [-List.reduceReplicate, Call_of env_size_content, size_content, size_content.body, hloop, hk2]
    simp [conN]
  · by_cases h1 : 2 ≤ f 1
    · conv => lhs; simp -implicitDefEqProofs [-List.reduceReplicate, Call_of env_size_content, size_content, size_content.body, hloop, hk2, h1]
      simp [conN, h1]
    · cases least
      · conv => lhs; simp -implicitDefEqProofs [-List.reduceReplicate, Call_of env_size_content, size_content, size_content.body, hloop, hk2, h1]
        simp [conN, h1]
      · by_cases h2 : f 2 = 0
        · conv => lhs; simp -implicitDefEqProofs [-List.reduceReplicate, Call_of env_size_content, size_content, size_content.body, hloop, hk2, h1, h2]
          simp [conN, h1, h2]
        · conv => lhs; simp -implicitDefEqProofs [-List.reduceReplicate, Call_of env_size_content, size_content, size_content.body, hloop, hk2, h1, h2]
          simp [conN, h1, h2]
theorem con_loop0 {least : Bool} {g : Nat → Int} {B : Box} : Exec env (.loop [2, 3, 4, 8, 9, 34, 35, 36] size_content.l1) ⟨[(2, .bool least), (3, .ptr 0 0), (4, .ptr 1 0), (8, i64 0), (9, i64 0), (34, .nils), (35, i64 0), (36, i64 0)], [.cells (nums 256 g), B], 0, false, false⟩ =
    some (.exit 0, ⟨[(2, .bool least), (3, .ptr 0 0), (4, .ptr 1 0), (8, i64 0), (9, i64 0), (34, .nils), (35, i64 0), (36, i64 0), (37, .bool false)], [.cells (nums 256 g), B], 0, false, false⟩) := by
  rw [Exec_loop]
  conv => lhs; simp -implicitDefEqProofs [-List.reduceReplicate, size_content.l1]
theorem content_none {least : Bool} {g f : Nat → Int} {x k : Int} {runs : AV} (hkind : k = 1 ∨ k = 3) :
    Call env K.size_content [.agg (nums 256 g), .agg (boxc k x f .nils runs), .bool least] [] = some ⟨i64 0, [], false, false⟩ := by
  have hloop := con_loop0 (least := least) (g := g) (B := .cells (boxc k x f .nils runs))
  rcases hkind with rfl | rfl
  · conv => lhs; simp -implicitDefEqProofs [-List.reduceReplicate, Call_of env_size_content, size_content, size_content.body, hloop]
  · by_cases h1 : 2 ≤ f 1
    · conv => lhs; simp -implicitDefEqProofs [-List.reduceReplicate, Call_of env_size_content, size_content, size_content.body, hloop, h1]
    · cases least
      · conv => lhs; simp -implicitDefEqProofs [-List.reduceReplicate, Call_of env_size_content, size_content, size_content.body, hloop, h1]
      · by_cases h2 : f 2 = 0
        · conv => lhs; simp -implicitDefEqProofs [-List.reduceReplicate, Call_of env_size_content, size_content, size_content.body, hloop, h1, h2]
        · conv => lhs; simp -implicitDefEqProofs [-List.reduceReplicate, Call_of env_size_content, size_content, size_content.body, hloop, h1, h2]
end Go.Proofs.Ytncnpgakflmibaa.Ai
