/- SizeNested: the whole law. -/
import Derived.Test.YtncnpgakflmibaaSn7
set_option linter.unusedSimpArgs false
set_option linter.unusedVariables false
set_option maxRecDepth 20000
set_option maxHeartbeats 1000000
namespace Go.Proofs.Ytncnpgakflmibaa.Ai
open C
attribute [local simp] Exec_seq Exec_ops Exec_ret Exec_cond Exec_block Exec_exit Exec_skip runOps runItem afterOp scPut scEnd asBool' asFn toEnd stepOp stepP argsFr ev fget clean put cellsOf binOp isShift binI shiftI foldMax foldMin unOp pure3 leave retL resV optAll AV.bare AV.bareL AV.names AV.namesL under bind_ite thenDo atRet atBlock trunc closedB frNames fill inInt callClosed onClosed lenOf isStr ite_some_nrm ite_some_ret ite_some_bool ite_some_AV ite_some_An ite_nrm ite_St ite_Fr ite_int ite_bool ite_An AItem.dsts dstsL
attribute [local congr] bind_left
attribute [local simp] rd_full splice_full rd_sty rd_sty0 rd_sty2 rd_boxc rd_cons
attribute [local simp] splice_nums rd_nums bareL_nums namesL_nums rd_box0 rd_box3 rd_box4 rd_box45 rd_box46

attribute [local simp] make_box make_box2 write_kids wb3 wb4 wb34 wb40 wb28 wb11 wb15 wb19 sp20 sp21 sp41 bareL_boxc namesL_boxc splice_length bitop_and srcOf write_runs bits64 names_ints Box.names kids_names

theorem rl_loop {n : Nat} {xs : List Int} (hn : xs.length = n) : ∀ (m i : Nat) (out : List Run4), i + m = min n 12 → out.length = i → (∀ r ∈ out, r.tx.length ≤ 36) →
    ∃ R : List Run4, R.length ≤ 12 ∧ (∀ r ∈ R, r.tx.length ≤ 36) ∧ ∃ (t : Int) (fr : Fr), (fget fr 3 = .sl R.length (runs4 R) (some 0)) ∧ Exec env (.loop [0, 3, 4] quoinlaw10_Runs.l1) (rlSt n xs out i) = some (.exit 0, ⟨fr, [.tok R.length 4], 0, false, false⟩)
  | 0, i, out, hm, ho, hg => by
    refine ⟨out, by omega, hg, 0, [(0, .sl n (xs.map i64) none), (3, .sl out.length (runs4 out) (some 0)), (4, i64 i), (15, .bool false)], rfl, ?_⟩
    rw [Exec_loop]
    by_cases hlt : i < n
    · have h1 : ¬ ((i : Int) < 12) := by omega
      conv => lhs; simp -implicitDefEqProofs [-List.reduceReplicate, quoinlaw10_Runs.l1, hlt, h1, runs4_names]
    · have h1 : ¬ ((i : Int) < n) := by omega
      conv => lhs; simp -implicitDefEqProofs [-List.reduceReplicate, quoinlaw10_Runs.l1, hlt, h1, runs4_names]
  | m + 1, i, out, hm, ho, hg => by
    have hi : i < xs.length := by omega
    obtain ⟨r, hr, hs⟩ := rl1_step (n := n) (i := i) (xs := xs) (out := out) (e := xs[i]) (by omega) (by omega) (by simp [hi]) (by omega)
    obtain ⟨R, hl, hR, t, fr, hf, hs2⟩ := rl_loop hn m (i + 1) (out ++ [r]) (by omega) (by simp; omega) (fun x hx => by
      rcases List.mem_append.1 hx with hx | hx
      · exact hg x hx
      · simp only [List.mem_singleton] at hx; rw [hx]; exact hr)
    refine ⟨R, hl, hR, t, fr, hf, ?_⟩
    rw [Exec_loop]
    have e : ({ rlSt n xs out i with fr := clean [0, 3, 4] (rlSt n xs out i).fr } : St) = rlSt n xs out i := by simp
    rw [e, hs]
    have e2 : trunc (rlSt n xs out i).H.length [0, 3, 4] (rlSt n xs (out ++ [r]) (i + 1)) = rlSt n xs (out ++ [r]) ((i + 1 : Nat) : Int) := by simp [runs4_names]
    simp only [Option.bind_some, thenDo]
    rw [e2, hs2]
theorem runs_spec (xs : List Int) : ∃ R : List Run4, R.length ≤ 12 ∧ (∀ r ∈ R, r.tx.length ≤ 36) ∧ Call env K.quoinlaw10_Runs [.sl xs.length (xs.map i64) none] [] = some ⟨.sl R.length (runs4 R) none, [], false, false⟩ := by
  obtain ⟨R, hl, hR, t, fr, hf, hs⟩ := rl_loop (xs := xs) rfl (min xs.length 12) 0 [] (by omega) rfl (by simp)
  have hg0 : runs4 [] = [] := rfl
  simp only [rlSt, List.length_nil, Int.natCast_zero, hg0] at hs
  refine ⟨R, hl, hR, ?_⟩
  conv => lhs; simp -implicitDefEqProofs [-List.reduceReplicate, Call_of env_quoinlaw10_Runs, quoinlaw10_Runs, quoinlaw10_Runs.body, hs, hf, runs4_names]
theorem bytes_le : ∀ (R : List Run4), (∀ r ∈ R, r.tx.length ≤ 36) → bytesN R ≤ R.length * 36
  | [], _ => by simp [bytesN]
  | r :: R, h => by
    have h1 := h r (by simp)
    have h2 := bytes_le R (fun x hx => h x (by simp [hx]))
    have hb : bytesN (r :: R) = r.tx.length + bytesN R := rfl
    simp only [List.length_cons]
    omega
/-! ### Boxes in boxes -/
structure NBox (g : Nat → Int) (k : Int) (kids runs : AV) (lo hi : Int) : Prop where
  kb : kids.bare = kids
  rb : runs.bare = runs
  kn : kids.names = []
  rn : runs.names = []
  con : ∀ (f : Nat → Int) (least : Bool), Call env K.size_content [.agg (nums 256 g), .agg (boxc k 0 f kids runs), .bool least] [] = some ⟨i64 (if least then lo else hi), [], false, false⟩
theorem NBox.bareL {g : Nat → Int} {k : Int} {kids runs : AV} {lo hi : Int} (b : NBox g k kids runs lo hi) (f : Nat → Int) : AV.bareL (boxc k 0 f kids runs) = boxc k 0 f kids runs := by rw [bareL_boxc, b.kb, b.rb]
theorem NBox.namesL {g : Nat → Int} {k : Int} {kids runs : AV} {lo hi : Int} (b : NBox g k kids runs lo hi) (f : Nat → Int) : AV.namesL (boxc k 0 f kids runs) = [] := by rw [namesL_boxc, b.kn, b.rn]; rfl
def padF (p q : Int) : Nat → Int := upd (upd (upd initF 32 p) 29 1) 30 q
theorem padF_fold (p q : Int) : upd (upd (upd initF 32 p) 29 1) 30 q = padF p q := rfl
theorem wb31 (k x : Int) (f : Nat → Int) (kids runs : AV) (a b : Int) : splice 31 [i64 a, i64 b] (boxc k x f kids runs) = boxc k x (upd (upd f 29 a) 30 b) kids runs := write_box2 (n := 29) (by decide) k x f kids runs a b
theorem nest_outer {g : Nat → Int} {k : Int} {kids runs : AV} {lo hi p q : Int} (b : NBox g k kids runs lo hi) (hlo : 0 ≤ lo) (hhi : 0 ≤ hi) (hp : 0 ≤ p) (hq : 0 ≤ q) (h1 : lo + p + q ≤ 1000000000000) (h2 : hi + p + q ≤ 1000000000000) (least : Bool) :
    Call env K.size_Outer [.agg (nums 256 g), .agg (boxc k 0 (padF p q) kids runs), .bool least] [] = some ⟨i64 (if least then lo + p + q else hi + p + q), [], false, false⟩ := by
  have h := outer_auto (x := 0) (f := padF p q) (least := least) (r := if least then lo else hi) (by show ¬ (0 : Int) = 1; decide) (b.bareL _) (b.namesL _) (b.con _ _)
  rw [h]
  have e4 : padF p q 34 = 0 ∧ padF p q 32 = p ∧ padF p q 38 = 0 ∧ padF p q 36 = 0 ∧ fixN (padF p q 29) (padF p q 30) = q ∧ fixN (padF p q 25) (padF p q 26) = 0 ∧ minN (padF p q) = 0 ∧ maxN (padF p q) = -1 := ⟨rfl, rfl, rfl, rfl, rfl, rfl, rfl, rfl⟩
  unfold edges
  rw [e4.1, e4.2.1, e4.2.2.1, e4.2.2.2.1, e4.2.2.2.2.1, e4.2.2.2.2.2.1, e4.2.2.2.2.2.2.1, e4.2.2.2.2.2.2.2]
  have hc : ∀ n : Int, 0 ≤ n → clampN n 0 (-1) = n := fun n hn => by unfold clampN; rw [if_neg (by decide)]; omega
  have hw : ∀ n : Int, 0 ≤ n → n + p + q ≤ 1000000000000 → W (W (W (W (W (W (n + 0) + p) + 0) + 0) + q) + 0) = n + p + q := fun n h0 h1 => by
    simp only [W, Int.add_zero]
    rw [W_small (n := n) (by omega) (by omega), W_small (n := n + p) (by omega) (by omega), W_small (n := n + p) (by omega) (by omega), W_small (n := n + p) (by omega) (by omega), W_small (n := n + p + q) (by omega) (by omega), W_small (n := n + p + q) (by omega) (by omega)]
  cases least with
  | true => simp only [if_true]; rw [hc lo hlo, hw lo hlo h1]
  | false => simp only [Bool.false_eq_true, if_false]; rw [hc hi hhi, hw hi hhi h2]
theorem nest_next {g : Nat → Int} {k : Int} {kids runs : AV} {lo hi p q : Int} (b : NBox g k kids runs lo hi) (hlo : 0 ≤ lo) (hhi : 0 ≤ hi) (hp : 0 ≤ p) (hq : 0 ≤ q) (h1 : lo + p + q ≤ 1000000000000) (h2 : hi + p + q ≤ 1000000000000) :
    NBox g 1 (.sl 1 (boxc k 0 (padF p q) kids runs) none) .nils (lo + p + q) (hi + p + q) where
  kb := rfl
  rb := rfl
  kn := by simp only [AV.names]; rw [b.namesL]; rfl
  rn := rfl
  con f least := by
    have hk : Kid (nums 256 g) least (boxc k 0 (padF p q) kids runs) (if least then lo + p + q else hi + p + q) := ⟨boxc_length _ _ _ _ _, b.bareL _, b.namesL _, nest_outer b hlo hhi hp hq h1 h2 least⟩
    have := content_spec (least := least) (g := g) (f := f) (x := 0) (k := 1) (runs := .nils) (ks := [(boxc k 0 (padF p q) kids runs, if least then lo + p + q else hi + p + q)]) (.inl rfl) (by simp) (by simp only [List.map_cons, List.map_nil, List.flatten_cons, List.flatten_nil, List.append_nil]; exact b.namesL _) (by simpa using hk)
    simp only [List.map_cons, List.map_nil, List.flatten_cons, List.flatten_nil, List.append_nil, List.length_cons, List.length_nil, Nat.zero_add, conN, true_or, if_true] at this
    rw [this]
    have e : mostF 0 [(boxc k 0 (padF p q) kids runs, if least then lo + p + q else hi + p + q)] = if least then lo + p + q else hi + p + q := by
      show max 0 (if least then lo + p + q else hi + p + q) = _
      cases least <;> simp <;> omega
    rw [e]
abbrev nsSt (g : Nat → Int) (m : Nat) (ys : List Int) (k : Int) (kids runs : AV) (lo hi i : Int) : St :=
  ⟨[(2, .sl m (ys.map i64) none), (3, .ptr 0 0), (7, .ptr 1 0), (8, i64 lo), (9, i64 hi), (10, i64 i)], [.cells (nums 256 g), .cells (boxc k 0 initF kids runs)], 0, false, false⟩
theorem ns_step {g : Nat → Int} {m i : Nat} {ys : List Int} {k : Int} {kids runs : AV} {lo hi y : Int} (b : NBox g k kids runs lo hi) (hlo : 0 ≤ lo) (hhi : 0 ≤ hi) (h1 : lo + 400 ≤ 1000000000000) (h2 : hi + 400 ≤ 1000000000000) (hi1 : i < m) (hi8 : i < 8) (h0 : ys[i]? = some y) :
    ∃ p, 0 ≤ p ∧ p ≤ 400 ∧ ∃ kids' runs', NBox g 1 kids' runs' (lo + p) (hi + p) ∧ Exec env quoinlaw13_SizeNested.l1 (nsSt g m ys k kids runs lo hi i) = some (.nrm, nsSt g m ys 1 kids' runs' (lo + p) (hi + p) (i + 1)) := by
  have hb := andN_bound (x := y) (m := 255) (by decide) (by decide)
  have hl : i < ys.length := (List.getElem?_eq_some_iff.1 h0).1
  have hr := rd_ints h0
  generalize hp : andN y 255 = p at hb
  have hq : 0 ≤ p.tdiv 2 ∧ p.tdiv 2 ≤ 127 := by
    have := Int.tdiv_eq_ediv_of_nonneg (b := 2) hb.1
    omega
  generalize hqe : p.tdiv 2 = q at hq
  have hw1 : IntKind.i64.wrap q = q := W_small (by omega) (by omega)
  have hw2 : IntKind.i64.wrap (lo + p) = lo + p := W_small (by omega) (by omega)
  have hw3 : IntKind.i64.wrap (lo + p + q) = lo + p + q := W_small (by omega) (by omega)
  have hw4 : IntKind.i64.wrap (hi + p) = hi + p := W_small (by omega) (by omega)
  have hw5 : IntKind.i64.wrap (hi + p + q) = hi + p + q := W_small (by omega) (by omega)
  have hw6 : IntKind.i64.wrap ((i : Int) + 1) = (i : Int) + 1 := W_small (by omega) (by omega)
  have c1 : (i : Int) < m := by omega
  have c2 : (i : Int) < 8 := by omega
  have hO1 := nest_outer b hlo hhi hb.1 hq.1 (by omega) (by omega) true
  have hO2 := nest_outer b hlo hhi hb.1 hq.1 (by omega) (by omega) false
  have nb := nest_next b hlo hhi hb.1 hq.1 (by omega) (by omega)
  have hL := least_of (nb.con initF true) (by simp) (nb.bareL _) (nb.namesL _)
  have hM := most_of (nb.con initF false) (by simp) (nb.bareL _) (nb.namesL _)
  simp only [if_true, Bool.false_eq_true, if_false] at hO1 hO2 hL hM
  refine ⟨p + q, by omega, by omega, _, _, by rw [← Int.add_assoc, ← Int.add_assoc]; exact nb, ?_⟩
  rw [← Int.add_assoc, ← Int.add_assoc]
  have n1 := b.kn
  have n2 := b.rn
  have n3 := b.kb
  have n4 := b.rb
  conv => lhs; simp -implicitDefEqProofs [-List.reduceReplicate, quoinlaw13_SizeNested.l1, c1, c2, hi1, hi8, hl, hr, hp, hqe, hw1, hw2, hw3, hw4, hw5, hw6, hO1, hO2, hL, hM, initial_sty, wb31, padF_fold, n1, n2, n3, n4]
  try simp [n1, n2, n3, n4]
theorem ns_loop {g : Nat → Int} {m : Nat} {ys : List Int} (hm : ys.length = m) : ∀ (j i : Nat) (k : Int) (kids runs : AV) (lo hi : Int), i + j = min m 8 → NBox g k kids runs lo hi → 0 ≤ lo → lo ≤ hi → hi + 400 * j ≤ 1000000000 →
    ∃ lo' hi' fr H, lo' ≤ hi' ∧ fget fr 8 = i64 lo' ∧ fget fr 9 = i64 hi' ∧ Exec env (.loop [2, 3, 7, 8, 9, 10] quoinlaw13_SizeNested.l1) (nsSt g m ys k kids runs lo hi i) = some (.exit 0, ⟨fr, H, 0, false, false⟩) ∧ H.length = 2
  | 0, i, k, kids, runs, lo, hi, hj, b, h0, h1, h2 => by
    refine ⟨lo, hi, [(2, .sl m (ys.map i64) none), (3, .ptr 0 0), (7, .ptr 1 0), (8, i64 lo), (9, i64 hi), (10, i64 i), (31, .bool false)], [.cells (nums 256 g), .cells (boxc k 0 initF kids runs)], h1, rfl, rfl, ?_, rfl⟩
    rw [Exec_loop]
    by_cases hlt : i < m
    · have c1 : ¬ ((i : Int) < 8) := by omega
      conv => lhs; simp -implicitDefEqProofs [-List.reduceReplicate, quoinlaw13_SizeNested.l1, hlt, c1]
    · have c1 : ¬ ((i : Int) < m) := by omega
      conv => lhs; simp -implicitDefEqProofs [-List.reduceReplicate, quoinlaw13_SizeNested.l1, hlt, c1]
  | j + 1, i, k, kids, runs, lo, hi, hj, b, h0, h1, h2 => by
    have hi' : i < ys.length := by omega
    obtain ⟨p, hp0, hp1, kids', runs', nb, hs⟩ := ns_step (m := m) (i := i) (ys := ys) (y := ys[i]) b h0 (by omega) (by omega) (by omega) (by omega) (by omega) (by simp [hi'])
    obtain ⟨lo', hi', fr, H, hle, hf8, hf9, hs2, hH⟩ := ns_loop (g := g) hm j (i + 1) 1 kids' runs' (lo + p) (hi + p) (by omega) nb (by omega) (by omega) (by omega)
    refine ⟨lo', hi', fr, H, hle, hf8, hf9, ?_, hH⟩
    rw [Exec_loop]
    have e : ({ nsSt g m ys k kids runs lo hi i with fr := clean [2, 3, 7, 8, 9, 10] (nsSt g m ys k kids runs lo hi i).fr } : St) = nsSt g m ys k kids runs lo hi i := by simp
    rw [e, hs]
    have e2 : trunc (nsSt g m ys k kids runs lo hi i).H.length [2, 3, 7, 8, 9, 10] (nsSt g m ys 1 kids' runs' (lo + p) (hi + p) (i + 1)) = nsSt g m ys 1 kids' runs' (lo + p) (hi + p) ((i + 1 : Nat) : Int) := by simp
    simp only [Option.bind_some, thenDo]
    rw [e2, hs2]
theorem sizeNested_spec (mf : Nat → Int) (xs ys : List Int) : ∃ H e, Call env K.quoinlaw13_SizeNested [.agg (nums 256 mf), .sl xs.length (xs.map i64) none, .sl ys.length (ys.map i64) none] [] = some ⟨.bool true, H, e, false⟩ := by
  obtain ⟨g, hg⟩ := tame_spec mf
  obtain ⟨R, hRl, hRt, hR⟩ := runs_spec xs
  have hby := bytes_le R hRt
  obtain ⟨l, hgl, hll, hG⟩ := glyphs_spec (g := g) R (by omega) (fun r hr => by have := hRt r hr; omega) (by omega)
  have hle := rows_le l 0 0 0 0 0 hgl (by omega) (by omega) (by omega) (by omega) (by omega) (by omega) (by omega)
  have hlb := leastB_spec l (by omega)
  have hmb := mostB_spec l (by omega)
  generalize (rowsF leastP (0, 0) l).1 = lo at *
  generalize (rowsF mostP (0, 0) l).1 = hi at *
  have nb : NBox g 2 .nils (.sl R.length (runs4 R) none) lo hi := {
    kb := rfl
    rb := rfl
    kn := rfl
    rn := by simp only [AV.names, runs4_names]; rfl
    con := fun f least => by
      have := content_lines (x := 0) (f := f) (kids := .nils) (least := least) (r := if least then lo else hi) (runs := .sl R.length (runs4 R) none) (gl := .sl l.length (glyphs l) none) (g := g) rfl (by simp only [AV.names, runs4_names]; rfl) rfl (by simp only [AV.names, glyphs_names]; rfl) hG (by cases least <;> simp [hlb, hmb])
      exact this }
  have hL := least_of (nb.con initF true) (by simp) (nb.bareL _) (nb.namesL _)
  have hM := most_of (nb.con initF false) (by simp) (nb.bareL _) (nb.namesL _)
  simp only [if_true, Bool.false_eq_true, if_false] at hL hM
  obtain ⟨lo', hi', fr, H, hle', hf8, hf9, hs, hH⟩ := ns_loop (g := g) (ys := ys) rfl (min ys.length 8) 0 2 .nils (.sl R.length (runs4 R) none) lo hi (by omega) nb (by omega) (by omega) (by omega)
  simp only [nsSt, Int.natCast_zero] at hs
  refine ⟨?_, ?_, ?_⟩
  rotate_left 2
  conv => lhs; simp -implicitDefEqProofs [-List.reduceReplicate, Call_of env_quoinlaw13_SizeNested, quoinlaw13_SizeNested, quoinlaw13_SizeNested.body, hg, hR, initial_sty, hL, hM, hs, hf8, hf9, hH, hle', awake_spec, runs4_names]
end Go.Proofs.Ytncnpgakflmibaa.Ai
