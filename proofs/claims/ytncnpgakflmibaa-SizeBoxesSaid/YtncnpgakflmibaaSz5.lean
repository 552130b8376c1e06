/- SizeBoxes: the whole law. -/
import Derived.Test.YtncnpgakflmibaaSz4
set_option linter.unusedSimpArgs false
set_option linter.unusedVariables false
set_option maxRecDepth 20000
set_option maxHeartbeats 1000000
namespace Go.Proofs.Ytncnpgakflmibaa.Ai
open C
attribute [local simp] Exec_seq Exec_ops Exec_ret Exec_cond Exec_block Exec_exit Exec_skip runOps runItem afterOp scPut scEnd asBool' asFn toEnd stepOp stepP argsFr ev fget clean put cellsOf binOp isShift binI shiftI foldMax foldMin unOp pure3 leave retL resV optAll AV.bare AV.bareL AV.names AV.namesL under bind_ite thenDo atRet atBlock trunc closedB frNames fill inInt callClosed onClosed lenOf isStr ite_some_nrm ite_some_ret ite_some_bool ite_some_AV ite_some_An ite_nrm ite_St ite_Fr ite_int ite_bool ite_An AItem.dsts dstsL
attribute [local congr] bind_left
attribute [local simp] rd_full splice_full rd_sty rd_sty0 rd_sty2 rd_boxc rd_cons
attribute [local simp] splice_nums rd_nums bareL_nums namesL_nums rd_box0 rd_box3 rd_box4 rd_box45 rd_box46

attribute [local simp] make_box make_box2 write_kids wb3 wb4 wb34 wb40 wb28 wb11 wb15 wb19 sp20 sp21 sp41 bareL_boxc namesL_boxc splice_length bitop_and srcOf write_runs bits64 names_ints Box.names kids_names
theorem least_of {g : Nat → Int} {B : List AV} {r : Int} (h : Call env K.size_content [.agg (nums 256 g), .agg B, .bool true] [] = some ⟨i64 r, [], false, false⟩) (hl : B.length = 47) (hb : AV.bareL B = B) (hn : AV.namesL B = []) : Call env K.size_Least [.agg (nums 256 g), .agg B] [] = some ⟨i64 r, [], false, false⟩ := by
  conv => lhs; simp -implicitDefEqProofs [-List.reduceReplicate, Call_of env_size_Least, size_Least, size_Least.body, h, hl, hb, hn]
theorem most_of {g : Nat → Int} {B : List AV} {r : Int} (h : Call env K.size_content [.agg (nums 256 g), .agg B, .bool false] [] = some ⟨i64 r, [], false, false⟩) (hl : B.length = 47) (hb : AV.bareL B = B) (hn : AV.namesL B = []) : Call env K.size_Most [.agg (nums 256 g), .agg B] [] = some ⟨i64 r, [], false, false⟩ := by
  conv => lhs; simp -implicitDefEqProofs [-List.reduceReplicate, Call_of env_size_Most, size_Most, size_Most.body, h, hl, hb, hn]
theorem kid_ok (g : Nat → Int) (least : Bool) (es : List Int) : ∀ p ∈ kidsOf es, Kid (nums 256 g) least p.1 p.2 := by
  intro p hp
  simp only [kidsOf, List.mem_map] at hp
  obtain ⟨e, _, rfl⟩ := hp
  exact ⟨kidC_length e, kidC_bare e, kidC_names e, by rw [kid_outer, kidW_eq]⟩
def boxF (dir wrap : Int) : Nat → Int := upd (upd initF 1 (andN dir 3)) 2 ((andN wrap 255).tmod 3)
theorem boxF_fold (dir wrap : Int) : upd (upd initF 1 (andN dir 3)) 2 ((andN wrap 255).tmod 3) = boxF dir wrap := rfl
theorem boxF1 (dir wrap : Int) : boxF dir wrap 1 = andN dir 3 := rfl
theorem boxF2 (dir wrap : Int) : boxF dir wrap 2 = (andN wrap 255).tmod 3 := rfl
attribute [local simp] boxF_fold
theorem andN_one (x : Int) : andN x 1 = 0 ∨ andN x 1 = 1 := by
  have := andN_bound (x := x) (m := 1) (by decide) (by decide)
  omega
/-- What the boxes need. -/
theorem content_kids {least : Bool} {g f : Nat → Int} {k : Int} (es : List Int) (hkind : k = 1 ∨ k = 3) (hn : es.length ≤ 10) :
    Call env K.size_content [.agg (nums 256 g), .agg (boxc k 0 f (.sl es.length (es.map kidC).flatten none) .nils), .bool least] [] = some ⟨i64 (conN k f least (sumF 0 (kidsOf es)) (mostF 0 (kidsOf es))), [], false, false⟩ := by
  have := content_spec (least := least) (g := g) (f := f) (x := 0) (k := k) (runs := .nils) (ks := kidsOf es) hkind (by simp [kidsOf]; omega) (by rw [kids_cells, kids_names]) (kid_ok g least es)
  rw [kids_cells] at this
  simpa [kidsOf] using this
theorem sb_clean {n : Nat} {xs : List Int} {g fb : Nat → Int} {kb s m i : Int} {kids : AV} {tail : List Box} {esc : Bool} : ({ sbSt n xs g fb kb kids tail esc s m i with fr := clean [0, 6, 11, 12, 13, 14] (sbSt n xs g fb kb kids tail esc s m i).fr } : St) = sbSt n xs g fb kb kids tail esc s m i := by simp
theorem sb_whole {n : Nat} {xs : List Int} (g fb : Nat → Int) (kb : Int) (hxs : xs.length = n) : ∃ (es : List Int) (kids : AV) (tail : List Box) (esc : Bool) (i : Int), es.length ≤ 10 ∧
    Exec env (.loop [0, 6, 11, 12, 13, 14] quoinlaw13_SizeBoxes.l1) (sbSt n xs g fb kb .nils [] false 0 0 0) = some (.exit 0, sbEnd n xs g fb kb kids tail esc (sumF 0 (kidsOf es)) (mostF 0 (kidsOf es)) i) ∧
    ((kids = .nils ∧ es = [] ∧ tail = [] ∧ esc = false) ∨ (kids = .sl es.length (es.map kidC).flatten (some 3) ∧ ∃ X, tail = [.cells X, .tok es.length 47] ∧ esc = true ∧ AV.namesL X = [])) := by
  cases hx : xs with
  | nil =>
    refine ⟨[], .nils, [], false, 0, by simp, ?_, .inl ⟨rfl, rfl, rfl, rfl⟩⟩
    rw [Exec_loop, sb_clean]
    have := sb_exit (n := n) (i := 0) (xs := []) (g := g) (fb := fb) (kb := kb) (sum := 0) (most := 0) (kids := .nils) (tail := []) (esc := false) (by rw [hx] at hxs; simp at hxs; omega)
    simp only [Int.natCast_zero] at this
    rw [this]
    rfl
  | cons e r =>
    have hn : 0 < n := by rw [hx] at hxs; simp at hxs; omega
    have ht : (e :: r).take (min n 10) = [e] ++ (r.take (min n 10 - 1)) := by
      rw [show min n 10 = (min n 10 - 1) + 1 by omega, List.take_succ_cons]
      simp
    have h1 := sb_first (n := n) (xs := e :: r) (g := g) (fb := fb) (kb := kb) (sum := 0) (most := 0) hn rfl
    have h2 := sb_loop (n := n) (xs := e :: r) (g := g) (fb := fb) (kb := kb) (X := kidC e) (by rw [← hx]; exact hxs) (kidC_names e) (r.take (min n 10 - 1)) [e] (by simp) ht
    refine ⟨[e] ++ (r.take (min n 10 - 1)), _, _, true, (([e] ++ (r.take (min n 10 - 1))).length : Int), ?_, ?_, .inr ⟨rfl, kidC e, rfl, rfl, kidC_names e⟩⟩
    · rw [← ht, List.length_take]; omega
    · rw [Exec_loop, sb_clean, h1]
      have e2 : ∀ s m : Int, trunc (sbSt n (e :: r) g fb kb .nils [] false 0 0 0).H.length [0, 6, 11, 12, 13, 14] (sbSt n (e :: r) g fb kb (.sl 1 (kidC e) (some 3)) [.cells (kidC e), .tok 1 47] true s m 1) = sbSt n (e :: r) g fb kb (.sl 1 (kidC e) (some 3)) [.cells (kidC e), .tok 1 47] true s m 1 := fun s m => by
        simp
      simp only [Option.bind_some, thenDo]
      rw [e2]
      have hs : sumF 0 (kidsOf [e]) = W (0 + widthN e) := rfl
      have hm : mostF 0 (kidsOf [e]) = mx 0 (widthN e) := by rw [mx_max]; rfl
      have hf : ([e].map kidC).flatten = kidC e := by simp
      rw [hs, hm, hf] at h2
      exact h2
theorem lit2 (a b z : AV) : splice 1 [b] (splice 0 [a] (List.replicate 2 z)) = [a, b] := rfl
attribute [local simp] lit2
theorem sizeBoxes_one (xs : List Int) (mf : Nat → Int) (kind dir wrap : Int) (kb : Int) (hkk : (andN kind 1 = 0 ∧ kb = 1) ∨ (andN kind 1 = 1 ∧ kb = 3)) : ∃ H e, Call env K.quoinlaw13_SizeBoxes [.sl xs.length (xs.map i64) none, .agg (nums 256 mf), i64 kind, i64 dir, i64 wrap] [] = some ⟨.bool true, H, e, false⟩ := by
  obtain ⟨g, hg⟩ := tame_spec mf
  obtain ⟨n, hn⟩ : ∃ n, xs.length = n := ⟨_, rfl⟩
  have hkb : kb = 1 ∨ kb = 3 := by rcases hkk with h | h; exact .inl h.2; exact .inr h.2
  obtain ⟨es, kids, tail, esc, i, hle, hloop, hcase⟩ := sb_whole g (boxF dir wrap) kb hn
  rw [hn]
  rcases hcase with ⟨rfl, rfl, rfl, rfl⟩ | ⟨rfl, X, rfl, rfl, hX⟩
  · have hc := fun least => content_none (least := least) (g := g) (f := boxF dir wrap) (x := 0) (k := kb) (runs := .nils) hkb
    have hl := least_of (hc true) (by simp) (by simp) (by simp)
    have hm := most_of (hc false) (by simp) (by simp) (by simp)
    simp only [sbSt, sbEnd] at hloop
    rcases hkk with ⟨hk, rfl⟩ | ⟨hk, rfl⟩
    · refine ⟨?_, ?_, ?_⟩
      rotate_left 2
      conv => lhs; simp -implicitDefEqProofs [-List.reduceReplicate, Call_of env_quoinlaw13_SizeBoxes, quoinlaw13_SizeBoxes, quoinlaw13_SizeBoxes.body, hg, initial_sty, hk, hloop, hl, hm, awake_spec, kidsOf, sumF, mostF]
    · by_cases h1 : boxF dir wrap 1 < 2
      · by_cases h2 : boxF dir wrap 2 = 0
        · refine ⟨?_, ?_, ?_⟩
          rotate_left 2
          conv => lhs; simp -implicitDefEqProofs [-List.reduceReplicate, Call_of env_quoinlaw13_SizeBoxes, quoinlaw13_SizeBoxes, quoinlaw13_SizeBoxes.body, hg, initial_sty, hk, hloop, hl, hm, awake_spec, kidsOf, sumF, mostF, h1, h2]
        · refine ⟨?_, ?_, ?_⟩
          rotate_left 2
          conv => lhs; simp -implicitDefEqProofs [-List.reduceReplicate, Call_of env_quoinlaw13_SizeBoxes, quoinlaw13_SizeBoxes, quoinlaw13_SizeBoxes.body, hg, initial_sty, hk, hloop, hl, hm, awake_spec, kidsOf, sumF, mostF, h1, h2]
      · refine ⟨?_, ?_, ?_⟩
        rotate_left 2
        conv => lhs; simp -implicitDefEqProofs [-List.reduceReplicate, Call_of env_quoinlaw13_SizeBoxes, quoinlaw13_SizeBoxes, quoinlaw13_SizeBoxes.body, hg, initial_sty, hk, hloop, hl, hm, awake_spec, kidsOf, sumF, mostF, h1]
  · have hc := fun least => content_kids (least := least) (g := g) (f := boxF dir wrap) (k := kb) es hkb hle
    have hl := least_of (hc true) (by simp) (by simp) (by simp)
    have hm := most_of (hc false) (by simp) (by simp) (by simp)
    simp only [sbSt, sbEnd] at hloop
    generalize hS : sumF 0 (kidsOf es) = S at *
    generalize hM : mostF 0 (kidsOf es) = M at *
    rcases hkk with ⟨hk, rfl⟩ | ⟨hk, rfl⟩
    · simp only [conN, true_or, if_true] at hl hm
      refine ⟨?_, ?_, ?_⟩
      rotate_left 2
      conv => lhs; simp -implicitDefEqProofs [-List.reduceReplicate, Call_of env_quoinlaw13_SizeBoxes, quoinlaw13_SizeBoxes, quoinlaw13_SizeBoxes.body, hg, initial_sty, hk, hloop, hl, hm, awake_spec]
    · by_cases h1 : boxF dir wrap 1 < 2
      · have h1' : ¬ 2 ≤ boxF dir wrap 1 := by omega
        by_cases h2 : boxF dir wrap 2 = 0
        · have h2' : boxF dir wrap 2 = 0 := h2
          simp [conN, h1', h2'] at hl hm
          refine ⟨?_, ?_, ?_⟩
          rotate_left 2
          conv => lhs; simp -implicitDefEqProofs [-List.reduceReplicate, Call_of env_quoinlaw13_SizeBoxes, quoinlaw13_SizeBoxes, quoinlaw13_SizeBoxes.body, hg, initial_sty, hk, hloop, hl, hm, awake_spec, h1, h2]
        · have h2' : ¬ boxF dir wrap 2 = 0 := h2
          simp [conN, h1', h2'] at hl hm
          refine ⟨?_, ?_, ?_⟩
          rotate_left 2
          conv => lhs; simp -implicitDefEqProofs [-List.reduceReplicate, Call_of env_quoinlaw13_SizeBoxes, quoinlaw13_SizeBoxes, quoinlaw13_SizeBoxes.body, hg, initial_sty, hk, hloop, hl, hm, awake_spec, h1, h2]
      · have h1' : 2 ≤ boxF dir wrap 1 := by omega
        simp [conN, h1'] at hl hm
        refine ⟨?_, ?_, ?_⟩
        rotate_left 2
        conv => lhs; simp -implicitDefEqProofs [-List.reduceReplicate, Call_of env_quoinlaw13_SizeBoxes, quoinlaw13_SizeBoxes, quoinlaw13_SizeBoxes.body, hg, initial_sty, hk, hloop, hl, hm, awake_spec, h1]
theorem sizeBoxes_spec (xs : List Int) (mf : Nat → Int) (kind dir wrap : Int) : ∃ H e, Call env K.quoinlaw13_SizeBoxes [.sl xs.length (xs.map i64) none, .agg (nums 256 mf), i64 kind, i64 dir, i64 wrap] [] = some ⟨.bool true, H, e, false⟩ := by
  rcases andN_one kind with hk | hk
  · exact sizeBoxes_one xs mf kind dir wrap 1 (.inl ⟨hk, rfl⟩)
  · exact sizeBoxes_one xs mf kind dir wrap 3 (.inr ⟨hk, rfl⟩)
end Go.Proofs.Ytncnpgakflmibaa.Ai
