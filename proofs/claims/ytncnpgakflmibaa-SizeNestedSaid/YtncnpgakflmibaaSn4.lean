/- SizeNested: the glyphs of runs. -/
import Derived.Test.YtncnpgakflmibaaSn3
set_option linter.unusedSimpArgs false
set_option linter.unusedVariables false
set_option maxRecDepth 20000
set_option maxHeartbeats 1000000
namespace Go.Proofs.Ytncnpgakflmibaa.Ai
open C
attribute [local simp] Exec_seq Exec_ops Exec_ret Exec_cond Exec_block Exec_exit Exec_skip runOps runItem afterOp scPut scEnd asBool' asFn toEnd stepOp stepP argsFr ev fget clean put cellsOf binOp isShift binI shiftI foldMax foldMin unOp pure3 leave retL resV optAll AV.bare AV.bareL AV.names AV.namesL under bind_ite thenDo atRet atBlock trunc closedB frNames fill inInt callClosed onClosed lenOf isStr ite_some_nrm ite_some_ret ite_some_bool ite_some_AV ite_some_An ite_nrm ite_St ite_Fr ite_int ite_bool ite_An AItem.dsts dstsL
attribute [local congr] bind_left
attribute [local simp] rd_full splice_full rd_sty rd_sty0 rd_sty2 rd_boxc rd_cons
attribute [local simp] splice_nums rd_nums bareL_nums namesL_nums rd_box0 rd_box3 rd_box4 rd_box45 rd_box46

attribute [local simp] make_box make_box2 write_kids wb3 wb4 wb34 wb40 wb28 wb11 wb15 wb19 sp20 sp21 sp41 bareL_boxc namesL_boxc splice_length bitop_and srcOf write_runs bits64 names_ints Box.names kids_names

/-- A call that reads one box by a pointer, from any heap. -/
theorem glyph_call {g : Nat → Int} {c : Int} (w : Int) (h0 : 0 ≤ c) (h1 : c < 256) : ∃ k a, GoodKA k a ∧ ∀ (H : List Box) (b : Nat), H[b]? = some (.cells (nums 256 g)) → callRead (Call env) K.whit_glyph [.ptr b 0, i64 w, .int .u8 c] H = some ⟨.tup [i64 k, i64 a], H, false, false⟩ := by
  obtain ⟨k, a, hk, h⟩ := glyph_spec (g := g) w h0 h1
  exact ⟨k, a, hk, fun H b hb => callRead_one hb (namesL_nums _ _) rfl h rfl rfl⟩
def run4 (nd : Int) (tx : List UInt8) (wh ln : Int) : List AV := [i64 nd, .str tx, i64 wh, i64 ln]
theorem gly_wr (r a k d : Int) : splice 3 [i64 d] (splice 0 [i64 k] (splice 2 [i64 a] (splice 1 [i64 r] [i64 0, i64 0, i64 0, i64 0]))) = gly k r a d := rfl
theorem glyphs_app (l m : List Gly) : glyphs (l ++ m) = glyphs l ++ glyphs m := by simp [glyphs]
theorem glyphs_snoc (l : List Gly) (k r a d : Int) : glyphs l ++ gly k r a d = glyphs (l ++ [⟨k, r, a, d⟩]) := by simp [glyphs, Gly.cells]
theorem gly_bare (k r a d : Int) : AV.bareL (gly k r a d) = gly k r a d := rfl
theorem gly_names (k r a d : Int) : AV.namesL (gly k r a d) = [] := rfl
theorem gly_length (k r a d : Int) : (gly k r a d).length = 4 := rfl
abbrev allSt (g : Nat → Int) (l : List Gly) (i n : Nat) (cells run : List AV) (ln at' : Nat) : St :=
  ⟨[(0, .ptr 0 0), (5, .sl l.length (glyphs l) (some 1)), (6, i64 i), (7, .ptr 2 0), (10, .sl n cells none), (11, i64 n), (12, i64 i), (19, i64 ln), (20, i64 at')], [.cells (nums 256 g), .tok l.length 4, .cells run], 1, false, false⟩
theorem sp40 (a x y z t : AV) : splice 0 [a] [x, y, z, t] = [a, y, z, t] := rfl
theorem sp42 (a x y z t : AV) : splice 2 [a] [x, y, z, t] = [x, y, a, t] := rfl
theorem sp43 (a x y z t : AV) : splice 3 [a] [x, y, z, t] = [x, y, z, a] := rfl
theorem sg0 (k r a d v : Int) : splice 0 [i64 v] (gly k r a d) = gly v r a d := rfl
theorem sg1 (k r a d v : Int) : splice 1 [i64 v] (gly k r a d) = gly k v a d := rfl
theorem sg2 (k r a d v : Int) : splice 2 [i64 v] (gly k r a d) = gly k r v d := rfl
theorem sg3 (k r a d v : Int) : splice 3 [i64 v] (gly k r a d) = gly k r a v := rfl
theorem gly_fold (k r a d : Int) : [i64 k, i64 r, i64 a, i64 d] = gly k r a d := rfl
theorem all_step {g : Nat → Int} {l : List Gly} {i n : Nat} {cells : List AV} {nd wh lh : Int} {tx : List UInt8} {at' : Nat} (hl : l.length ≤ 1000000) (ha : at' < tx.length) (htx : tx.length ≤ 1000000) (hN : AV.namesL cells = []) :
    ∃ l', (∀ x ∈ l', x ∈ l ∨ GoodKA x.k x.d) ∧ l'.length ≤ l.length + 1 ∧ Exec env whit_all.l2 (allSt g l i n cells (run4 nd tx wh lh) tx.length at') = some (.nrm, allSt g l' i n cells (run4 nd tx wh lh) tx.length (at' + 1)) := by
  obtain ⟨c, hc⟩ : ∃ c, tx[at']? = some c := ⟨tx[at'], by simp [ha]⟩
  have hcb : c.toNat < 256 := c.toNat_lt
  obtain ⟨k, a, hk, hcall⟩ := glyph_call (g := g) (c := (c.toNat : Int)) wh (by omega) (by omega)
  have h1 : (at' : Int) < tx.length := by omega
  have h2 : IntKind.i64.wrap ((at' : Int) + 1) = (at' : Int) + 1 := W_small (by omega) (by omega)
  have hb1 := blank_spec k i at' a
  have hnm := glyphs_names l
  have hlen := glyphs_len l
  have hh : (l.length + 1) * (32 + 1) ≤ 70368744177664 := by omega
  have r1 : rd 1 false (run4 nd tx wh lh) = some (i64 nd) := rfl
  have r2 : rd 1 false (run4 nd tx wh lh).tail = some (.str tx) := rfl
  have r3 : rd 1 false (List.drop 2 (run4 nd tx wh lh)) = some (i64 wh) := rfl
  cases hbl : blankN k with
  | false =>
    rw [hbl] at hb1
    refine ⟨l ++ [⟨k, i, at', a⟩], ?_, by simp, ?_⟩
    · intro x hx
      rcases List.mem_append.1 hx with hx | hx
      · exact .inl hx
      · simp only [List.mem_singleton] at hx; subst hx; exact .inr hk
    · conv => lhs; simp -implicitDefEqProofs [-List.reduceReplicate, whit_all.l2, h1, h2, hcall, hc, hb1, hnm, hlen, r1, r2, r3, sp40, sp42, sp43, gly_fold, sg0, sg1, sg2, sg3, glyphs_snoc, glyphs_names, gly_bare, gly_names, gly_length, hh, hN]
      simp [allSt]
  | true =>
    rw [hbl] at hb1
    rcases List.eq_nil_or_concat l with rfl | ⟨l0, q, rfl⟩
    · refine ⟨[⟨k, i, at', a⟩], ?_, by simp, ?_⟩
      · intro x hx
        simp only [List.mem_singleton] at hx; subst hx; exact .inr hk
      · conv => lhs; simp -implicitDefEqProofs [-List.reduceReplicate, whit_all.l2, h1, h2, hcall, hc, hb1, hnm, hlen, r1, r2, r3, sp40, sp42, sp43, gly_fold, sg0, sg1, sg2, sg3, glyphs_snoc, glyphs_names, gly_bare, gly_names, gly_length, hh, hN]
        try simp [allSt]
    · have hr := rd_gly l0 [] q
      simp only [List.concat_eq_append] at *
      have h5 : IntKind.i64.wrap ((l0.length : Int) + 1 - 1) = (l0.length : Int) := by rw [W_small (by omega) (by simp at hl; omega)]; omega
      have h6 : IntKind.i64.wrap (l0.length : Int) = (l0.length : Int) := by rw [W_small (by omega) (by simp at hl; omega)]
      have h7 : (0 : Int) < (l0.length : Int) + 1 := by omega
      have h8 := hr.2
      have h9 := hr.1
      have hb2 := blank_spec q.k q.r q.a q.d
      simp only [List.length_append, List.length_cons, List.length_nil, Nat.zero_add] at hh hlen
      cases hbq : blankN q.k with
      | true =>
        rw [hbq] at hb2
        refine ⟨l0 ++ [q], fun x hx => .inl hx, by simp, ?_⟩
        conv => lhs; simp -implicitDefEqProofs [-List.reduceReplicate, whit_all.l2, h1, h2, hcall, hc, hb1, hnm, hlen, r1, r2, r3, sp40, sp42, sp43, gly_fold, sg0, sg1, sg2, sg3, glyphs_snoc, glyphs_names, gly_bare, gly_names, gly_length, hh, hN, h5, h6, h7, h8, h9, hb2]
        simp [allSt]
      | false =>
        rw [hbq] at hb2
        refine ⟨l0 ++ [q] ++ [⟨k, i, at', a⟩], ?_, by simp, ?_⟩
        · intro x hx
          rcases List.mem_append.1 hx with hx | hx
          · exact .inl hx
          · simp only [List.mem_singleton] at hx; subst hx; exact .inr hk
        · conv => lhs; simp -implicitDefEqProofs [-List.reduceReplicate, whit_all.l2, h1, h2, hcall, hc, hb1, hnm, hlen, r1, r2, r3, sp40, sp42, sp43, gly_fold, sg0, sg1, sg2, sg3, glyphs_snoc, glyphs_names, gly_bare, gly_names, gly_length, hh, hN, h5, h6, h7, h8, h9, hb2]
          simp [allSt]
theorem all_loop2 {g : Nat → Int} {i n : Nat} {cells : List AV} {nd wh lh : Int} {tx : List UInt8} (htx : tx.length ≤ 1000) (hN : AV.namesL cells = []) : ∀ (k at' : Nat) (l : List Gly), at' + k = tx.length → l.length + k ≤ 1000000 →
    ∃ l', (∀ x ∈ l', x ∈ l ∨ GoodKA x.k x.d) ∧ l'.length ≤ l.length + k ∧ Exec env (.loop [0, 5, 6, 7, 10, 11, 12, 19, 20] whit_all.l2) (allSt g l i n cells (run4 nd tx wh lh) tx.length at') =
      some (.exit 2, ⟨[(0, .ptr 0 0), (5, .sl l'.length (glyphs l') (some 1)), (6, i64 i), (7, .ptr 2 0), (10, .sl n cells none), (11, i64 n), (12, i64 i), (19, i64 tx.length), (20, i64 tx.length), (21, .bool false)], [.cells (nums 256 g), .tok l'.length 4, .cells (run4 nd tx wh lh)], 1, false, false⟩)
  | 0, at', l, hk, hl => by
    obtain rfl : at' = tx.length := by omega
    refine ⟨l, fun x hx => .inl hx, by omega, ?_⟩
    rw [Exec_loop]
    conv => lhs; simp -implicitDefEqProofs [-List.reduceReplicate, whit_all.l2]
  | k + 1, at', l, hk, hl => by
    obtain ⟨l1, hg1, hl1, hs⟩ := all_step (g := g) (l := l) (i := i) (n := n) (nd := nd) (wh := wh) (lh := lh) (tx := tx) (at' := at') (by omega) (by omega) (by omega) hN
    obtain ⟨l2, hg2, hl2, hs2⟩ := all_loop2 (g := g) (i := i) (n := n) (nd := nd) (wh := wh) (lh := lh) htx hN k (at' + 1) l1 (by omega) (by omega)
    refine ⟨l2, ?_, by omega, ?_⟩
    · intro x hx
      rcases hg2 x hx with hx | hx
      · exact hg1 x hx
      · exact .inr hx
    · rw [Exec_loop]
      have e : ({ allSt g l i n cells (run4 nd tx wh lh) tx.length at' with fr := clean [0, 5, 6, 7, 10, 11, 12, 19, 20] (allSt g l i n cells (run4 nd tx wh lh) tx.length at').fr } : St) = allSt g l i n cells (run4 nd tx wh lh) tx.length at' := by simp
      rw [e, hs]
      have e2 : trunc (allSt g l i n cells (run4 nd tx wh lh) tx.length at').H.length [0, 5, 6, 7, 10, 11, 12, 19, 20] (allSt g l1 i n cells (run4 nd tx wh lh) tx.length (at' + 1)) = allSt g l1 i n cells (run4 nd tx wh lh) tx.length (at' + 1) := by simp [glyphs_names, hN]
      simp only [Option.bind_some, thenDo]
      rw [e2, hs2]
structure Run4 where
  nd : Int
  tx : List UInt8
  wh : Int
  ln : Int
def Run4.cells (r : Run4) : List AV := run4 r.nd r.tx r.wh r.ln
def runs4 (l : List Run4) : List AV := (l.map Run4.cells).flatten
theorem runs4_names (l : List Run4) : AV.namesL (runs4 l) = [] := by
  induction l with
  | nil => rfl
  | cons g l ih => simp only [runs4, List.map_cons, List.flatten_cons, namesL_app] at ih ⊢; rw [ih]; rfl
theorem runs4_bare (l : List Run4) : AV.bareL (runs4 l) = runs4 l := by
  induction l with
  | nil => rfl
  | cons g l ih => simp only [runs4, List.map_cons, List.flatten_cons, bareL_app] at ih ⊢; rw [ih]; rfl
theorem runs4_len (l : List Run4) : (runs4 l).length = l.length * 4 := by
  induction l with
  | nil => rfl
  | cons g l ih => simp only [runs4, List.map_cons, List.flatten_cons, List.length_append, List.length_cons] at ih ⊢; rw [ih]; simp [Run4.cells, run4]; omega
theorem rd_run4 (pre rest : List Run4) (g : Run4) : rd 4 true (List.drop (pre.length * 4) (runs4 (pre ++ g :: rest))) = some (.agg (run4 g.nd g.tx g.wh g.ln)) ∧ pre.length * 4 < (runs4 (pre ++ g :: rest)).length := by
  have e : runs4 (pre ++ g :: rest) = runs4 pre ++ (Run4.cells g ++ runs4 rest) := by simp [runs4]
  rw [e, ← runs4_len pre, List.drop_left]
  refine ⟨?_, by simp [Run4.cells, run4] <;> omega⟩
  simp [rd, Run4.cells, run4]
abbrev all1St (g : Nat → Int) (l : List Gly) (n : Nat) (cells : List AV) (i : Int) : St :=
  ⟨[(0, .ptr 0 0), (5, .sl l.length (glyphs l) (some 1)), (10, .sl n cells none), (11, i64 n), (12, i64 i)], [.cells (nums 256 g), .tok l.length 4], 1, false, false⟩
theorem all1_step {g : Nat → Int} {l : List Gly} {n : Nat} (R pre rest : List Run4) (r : Run4) (hR : R = pre ++ r :: rest) (hn : n = R.length) (hnn : n ≤ 1000) (htx : r.tx.length ≤ 1000) (hl : l.length + r.tx.length ≤ 1000000) :
    ∃ l', (∀ x ∈ l', x ∈ l ∨ GoodKA x.k x.d) ∧ l'.length ≤ l.length + r.tx.length ∧ Exec env whit_all.l1 (all1St g l n (runs4 R) pre.length) = some (.nrm, all1St g l' n (runs4 R) (pre.length + 1)) := by
  have hr := rd_run4 pre rest r
  rw [← hR] at hr
  have hi : pre.length < n := by rw [hn, hR]; simp
  obtain ⟨l', hg, hlen, hloop⟩ := all_loop2 (g := g) (i := pre.length) (n := n) (nd := r.nd) (wh := r.wh) (lh := r.ln) htx (runs4_names R) r.tx.length 0 l (by omega) (by omega)
  refine ⟨l', hg, hlen, ?_⟩
  have h1 : (pre.length : Int) < n := by omega
  have h2 : IntKind.i64.wrap ((pre.length : Int) + 1) = (pre.length : Int) + 1 := W_small (by omega) (by omega)
  have h3 := hr.1
  have h4 := hr.2
  have hN := runs4_names R
  have hN2 := glyphs_names l'
  have r2 : rd 1 false (run4 r.nd r.tx r.wh r.ln).tail = some (.str r.tx) := rfl
  have r5 : (run4 r.nd r.tx r.wh r.ln).length = 4 := rfl
  have r6 : AV.namesL (run4 r.nd r.tx r.wh r.ln) = [] := rfl
  simp only [allSt, Int.natCast_zero] at hloop
  conv => lhs; simp -implicitDefEqProofs [-List.reduceReplicate, whit_all.l1, h1, hi, h2, h3, h4, hN, hN2, r2, r5, r6, hloop]
end Go.Proofs.Ytncnpgakflmibaa.Ai
