/- SizeNested: whit.Glyphs. -/
import Derived.Test.YtncnpgakflmibaaSn4
set_option linter.unusedSimpArgs false
set_option linter.unusedVariables false
set_option maxRecDepth 20000
set_option maxHeartbeats 1000000
namespace Go.Proofs.Ytncnpgakflmibaa.Ai
open C
attribute [local simp] Exec_seq Exec_ops Exec_ret Exec_cond Exec_block Exec_exit Exec_skip runOps runItem afterOp scPut scEnd asBool' asFn toEnd stepOp stepP argsFr ev fget clean put cellsOf binOp isShift binI shiftI foldMax foldMin unOp pure3 leave retL resV optAll AV.bare AV.bareL AV.names AV.namesL under bind_ite thenDo atRet atBlock trunc closedB frNames fill inInt callClosed onClosed lenOf isStr ite_some_nrm ite_some_ret ite_some_bool ite_some_AV ite_some_An ite_nrm ite_St ite_Fr ite_int ite_bool ite_An AItem.dsts dstsL
attribute [local congr] bind_left
attribute [local simp] rd_full splice_full rd_sty rd_sty0 rd_sty2 rd_boxc rd_cons
attribute [local simp] splice_nums rd_nums bareL_nums namesL_nums rd_box0 rd_box3 rd_box4 rd_box45 rd_box46

attribute [local simp] make_box make_box2 write_kids wb3 wb4 wb34 wb40 wb28 wb11 wb15 wb19 sp20 sp21 sp41 bareL_boxc namesL_boxc splice_length bitop_and srcOf write_runs bits64 names_ints Box.names kids_names

def bytesN (l : List Run4) : Nat := (l.map fun r => r.tx.length).foldr (· + ·) 0
theorem all_loop1 {g : Nat → Int} {n : Nat} (R : List Run4) (hn : n = R.length) (hnn : n ≤ 1000) : ∀ (rest pre : List Run4) (l : List Gly), R = pre ++ rest → (∀ r ∈ rest, r.tx.length ≤ 1000) → l.length + bytesN rest ≤ 1000000 →
    ∃ l', (∀ x ∈ l', x ∈ l ∨ GoodKA x.k x.d) ∧ l'.length ≤ l.length + bytesN rest ∧ Exec env (.loop [0, 5, 10, 11, 12] whit_all.l1) (all1St g l n (runs4 R) pre.length) =
      some (.exit 0, ⟨[(0, .ptr 0 0), (5, .sl l'.length (glyphs l') (some 1)), (10, .sl n (runs4 R) none), (11, i64 n), (12, i64 n), (13, .bool false)], [.cells (nums 256 g), .tok l'.length 4], 1, false, false⟩)
  | [], pre, l, hR, ht, hl => by
    have hp : pre.length = n := by rw [hn, hR]; simp
    refine ⟨l, fun x hx => .inl hx, by simp [bytesN], ?_⟩
    rw [hp, Exec_loop]
    conv => lhs; simp -implicitDefEqProofs [-List.reduceReplicate, whit_all.l1]
  | r :: rest, pre, l, hR, ht, hl => by
    have hb : bytesN (r :: rest) = r.tx.length + bytesN rest := rfl
    rw [hb] at hl
    obtain ⟨l1, hg1, hl1, hs⟩ := all1_step (g := g) (l := l) (n := n) R pre rest r hR hn hnn (ht r (by simp)) (by omega)
    obtain ⟨l2, hg2, hl2, hs2⟩ := all_loop1 (g := g) (n := n) R hn hnn rest (pre ++ [r]) l1 (by rw [hR]; simp) (fun r hr => ht r (by simp [hr])) (by omega)
    refine ⟨l2, ?_, by omega, ?_⟩
    · intro x hx
      rcases hg2 x hx with hx | hx
      · exact hg1 x hx
      · exact .inr hx
    · rw [Exec_loop]
      have e : ({ all1St g l n (runs4 R) pre.length with fr := clean [0, 5, 10, 11, 12] (all1St g l n (runs4 R) pre.length).fr } : St) = all1St g l n (runs4 R) pre.length := by simp
      rw [e, hs]
      have e2 : trunc (all1St g l n (runs4 R) pre.length).H.length [0, 5, 10, 11, 12] (all1St g l1 n (runs4 R) (pre.length + 1)) = all1St g l1 n (runs4 R) (pre ++ [r]).length := by simp [glyphs_names, runs4_names]
      simp only [Option.bind_some, thenDo]
      rw [e2, hs2]
theorem all_spec {g : Nat → Int} (R : List Run4) (hnn : R.length ≤ 1000) (ht : ∀ r ∈ R, r.tx.length ≤ 1000) (hb : bytesN R ≤ 1000000) :
    ∃ l, (∀ x ∈ l, GoodKA x.k x.d) ∧ l.length ≤ bytesN R ∧ Call env K.whit_all [.ptr 0 0, .sl R.length (runs4 R) none] [.cells (nums 256 g)] = some ⟨.sl l.length (glyphs l) none, [.cells (nums 256 g)], false, false⟩ := by
  obtain ⟨l, hg, hl, hs⟩ := all_loop1 (g := g) R rfl hnn R [] [] rfl ht (by simpa using hb)
  refine ⟨l, fun x hx => (hg x hx).resolve_left (by simp), by simpa using hl, ?_⟩
  have hg0 : glyphs [] = [] := rfl
  simp only [all1St, List.length_nil, Int.natCast_zero, hg0] at hs
  have hN := runs4_names R
  have hN2 := glyphs_names l
  conv => lhs; simp -implicitDefEqProofs [-List.reduceReplicate, Call_of env_whit_all, whit_all, whit_all.body, hs, hN, hN2]
/-! ### Those that stay -/
theorem rd_first {s : Nat} {L m : List AV} {a : AV} (h : rd (s + 1) true L = some (.agg (a :: m))) : rd 1 false L = some a := by
  cases L with
  | nil => simp [rd] at h
  | cons b L =>
    simp only [rd, if_true] at h
    split at h
    · simp only [List.take_succ_cons, Option.some.injEq, AV.agg.injEq, List.cons.injEq] at h
      rw [h.1]; rfl
    · cases h
theorem rd_all (l : List Gly) (j : Nat) (h : j < l.length) : rd 4 true (List.drop (j * 4) (glyphs l)) = some (.agg (gly l[j].k l[j].r l[j].a l[j].d)) ∧ j * 4 < (glyphs l).length := by
  have e : l = l.take j ++ l[j] :: l.drop (j + 1) := by rw [List.getElem_cons_drop, List.take_append_drop]
  have hj : (l.take j).length = j := by simp; omega
  have h2 := rd_gly (l.take j) (l.drop (j + 1)) l[j]
  rw [← e, hj] at h2
  exact h2
abbrev glSt (g : Nat → Int) (l o : List Gly) (i : Int) : St :=
  ⟨[(5, .sl l.length (glyphs l) none), (6, .sl o.length (glyphs o) (some 1)), (13, .sl l.length (glyphs l) none), (14, i64 l.length), (15, i64 i)], [.cells (nums 256 g), .tok o.length 4], 0, false, false⟩
theorem gl_goals {l o : List Gly} {q : Gly} (hq : q ∈ l) : (∀ x ∈ o, x ∈ o ∨ x ∈ l) ∧ (∀ x ∈ o ++ [q], x ∈ o ∨ x ∈ l) :=
  ⟨fun x hx => .inl hx, fun x hx => by
    rcases List.mem_append.1 hx with hx | hx
    · exact .inl hx
    · simp only [List.mem_singleton] at hx; subst hx; exact .inr hq⟩
theorem gl_core {g : Nat → Int} {l o : List Gly} {q : Gly} {i : Nat} {F L : Bool} (hq : q ∈ l) (ho : o.length ≤ 1000000)
    (h : ∀ bl, Call env K.whit_blank [AV.agg (gly q.k q.r q.a q.d)] [] = some ⟨.bool bl, [], false, false⟩ →
      Exec env whit_Glyphs.l1 (glSt g l o i) = some (.nrm, if bl && (F || L) then glSt g l o (i + 1) else glSt g l (o ++ [q]) (i + 1))) :
    ∃ o', (∀ x ∈ o', x ∈ o ∨ x ∈ l) ∧ o'.length ≤ o.length + 1 ∧ Exec env whit_Glyphs.l1 (glSt g l o i) = some (.nrm, glSt g l o' (i + 1)) := by
  have := h _ (blank_spec q.k q.r q.a q.d)
  rw [this]
  split
  · exact ⟨o, (gl_goals hq).1, by omega, rfl⟩
  · exact ⟨o ++ [q], (gl_goals hq).2, by simp, rfl⟩
theorem gl_A1 {g : Nat → Int} {l o : List Gly} {q : Gly} (hL : l.length = 1) (h3 : rd 4 true (glyphs l) = some (.agg (gly q.k q.r q.a q.d))) (h4 : 0 < (glyphs l).length) (hl : l.length ≤ 1000000) (ho : o.length ≤ 1000000) (bl : Bool) (hb : Call env K.whit_blank [AV.agg (gly q.k q.r q.a q.d)] [] = some ⟨.bool bl, [], false, false⟩) :
    Exec env whit_Glyphs.l1 (glSt g l o 0) = some (.nrm, if bl && (true || true) then glSt g l o (0 + 1) else glSt g l (o ++ [q]) (0 + 1)) := by
  have hlen := glyphs_len o
  have hh : (o.length + 1) * (32 + 1) ≤ 70368744177664 := by omega
  have hsn := glyphs_snoc o q.k q.r q.a q.d
  have hq' : (⟨q.k, q.r, q.a, q.d⟩ : Gly) = q := rfl
  rw [hq'] at hsn
  have hw : IntKind.i64.wrap 1 = 1 := rfl
  have hw0 : IntKind.i64.wrap 0 = 0 := rfl
  cases bl
  all_goals
    conv => lhs; simp -implicitDefEqProofs [-List.reduceReplicate, whit_Glyphs.l1, hb, glyphs_names, hlen, hh, hsn, gly_bare, gly_names, gly_length, hL, h3, h4, hw, hw0]
    simp [glSt, glyphs_names, hL, h3, h4, hw, hw0]
theorem gl_A2 {g : Nat → Int} {l o : List Gly} {q : Gly} {m : Nat} {kn : Int} (hL : l.length = m + 2) (h3 : rd 4 true (glyphs l) = some (.agg (gly q.k q.r q.a q.d))) (h4 : 0 < (glyphs l).length) (h5 : rd 1 false (List.drop 4 (glyphs l)) = some (i64 kn)) (h6 : 4 < (glyphs l).length) (hl : l.length ≤ 1000000) (ho : o.length ≤ 1000000) (bl : Bool) (hb : Call env K.whit_blank [AV.agg (gly q.k q.r q.a q.d)] [] = some ⟨.bool bl, [], false, false⟩) :
    Exec env whit_Glyphs.l1 (glSt g l o 0) = some (.nrm, if bl && (true || (decide (kn = 4))) then glSt g l o (0 + 1) else glSt g l (o ++ [q]) (0 + 1)) := by
  have hlen := glyphs_len o
  have hh : (o.length + 1) * (32 + 1) ≤ 70368744177664 := by omega
  have hsn := glyphs_snoc o q.k q.r q.a q.d
  have hq' : (⟨q.k, q.r, q.a, q.d⟩ : Gly) = q := rfl
  rw [hq'] at hsn
  have hw : IntKind.i64.wrap 1 = 1 := rfl
  have hw0 : IntKind.i64.wrap 0 = 0 := rfl
  have hw2 : IntKind.i64.wrap ((m : Int) + 2 - 1) = (m : Int) + 1 := by rw [W_small (by omega) (by omega)]; omega
  have ne : ¬ (0 : Int) = (m : Int) + 1 := by omega
  have p1 : 1 < m + 2 := by omega
  have p2 : (0 : Int) < (m : Int) + 2 := by omega
  by_cases hk : kn = 4 <;> cases bl
  all_goals
    conv => lhs; simp -implicitDefEqProofs [-List.reduceReplicate, whit_Glyphs.l1, hb, glyphs_names, hlen, hh, hsn, gly_bare, gly_names, gly_length, hL, h3, h4, h5, h6, hw, hw0, hw2, ne, p1, p2, hk]
    simp [glSt, glyphs_names, hL, h3, h4, h5, h6, hw, hw0, hw2, ne, p1, p2, hk]
theorem gl_B1 {g : Nat → Int} {l o : List Gly} {q : Gly} {j : Nat} {kp : Int} (hL : l.length = j + 2) (h3 : rd 4 true (List.drop ((j + 1) * 4) (glyphs l)) = some (.agg (gly q.k q.r q.a q.d))) (h4 : (j + 1) * 4 < (glyphs l).length) (h5 : rd 1 false (List.drop (j * 4) (glyphs l)) = some (i64 kp)) (h6 : j * 4 < (glyphs l).length) (hl : l.length ≤ 1000000) (ho : o.length ≤ 1000000) (bl : Bool) (hb : Call env K.whit_blank [AV.agg (gly q.k q.r q.a q.d)] [] = some ⟨.bool bl, [], false, false⟩) :
    Exec env whit_Glyphs.l1 (glSt g l o ((j : Int) + 1)) = some (.nrm, if bl && ((decide (kp = 4)) || true) then glSt g l o (((j : Int) + 1) + 1) else glSt g l (o ++ [q]) (((j : Int) + 1) + 1)) := by
  have hlen := glyphs_len o
  have hh : (o.length + 1) * (32 + 1) ≤ 70368744177664 := by omega
  have hsn := glyphs_snoc o q.k q.r q.a q.d
  have hq' : (⟨q.k, q.r, q.a, q.d⟩ : Gly) = q := rfl
  rw [hq'] at hsn
  have hw2 : IntKind.i64.wrap ((j : Int) + 2 - 1) = (j : Int) + 1 := by rw [W_small (by omega) (by omega)]; omega
  have hw3 : IntKind.i64.wrap (j : Int) = (j : Int) := W_small (by omega) (by omega)
  have hw4 : IntKind.i64.wrap ((j : Int) + 1 + 1) = (j : Int) + 1 + 1 := W_small (by omega) (by omega)
  have ne : ¬ (j : Int) + 1 = 0 := by omega
  have p1 : j + 1 < j + 2 := by omega
  have p2 : (j : Int) + 1 < (j : Int) + 2 := by omega
  have p3 : (0 : Int) ≤ (j : Int) + 1 := by omega
  have p4 : j < j + 2 := by omega
  by_cases hk : kp = 4 <;> cases bl
  all_goals
    conv => lhs; simp -implicitDefEqProofs [-List.reduceReplicate, whit_Glyphs.l1, hb, glyphs_names, hlen, hh, hsn, gly_bare, gly_names, gly_length, hL, h3, h4, h5, h6, hw2, hw3, hw4, ne, p1, p2, p3, p4, hk]
    simp [glSt, glyphs_names, hL, h3, h4, h5, h6, hw2, hw3, hw4, ne, p1, p2, p3, p4, hk]
theorem gl_B2 {g : Nat → Int} {l o : List Gly} {q : Gly} {j m : Nat} {kp kn : Int} (hL : l.length = j + m + 3) (h3 : rd 4 true (List.drop ((j + 1) * 4) (glyphs l)) = some (.agg (gly q.k q.r q.a q.d))) (h4 : (j + 1) * 4 < (glyphs l).length) (h5 : rd 1 false (List.drop (j * 4) (glyphs l)) = some (i64 kp)) (h6 : j * 4 < (glyphs l).length) (h7 : rd 1 false (List.drop ((j + 2) * 4) (glyphs l)) = some (i64 kn)) (h8 : (j + 2) * 4 < (glyphs l).length) (hl : l.length ≤ 1000000) (ho : o.length ≤ 1000000) (bl : Bool) (hb : Call env K.whit_blank [AV.agg (gly q.k q.r q.a q.d)] [] = some ⟨.bool bl, [], false, false⟩) :
    Exec env whit_Glyphs.l1 (glSt g l o ((j : Int) + 1)) = some (.nrm, if bl && ((decide (kp = 4)) || (decide (kn = 4))) then glSt g l o (((j : Int) + 1) + 1) else glSt g l (o ++ [q]) (((j : Int) + 1) + 1)) := by
  have hlen := glyphs_len o
  have hh : (o.length + 1) * (32 + 1) ≤ 70368744177664 := by omega
  have hsn := glyphs_snoc o q.k q.r q.a q.d
  have hq' : (⟨q.k, q.r, q.a, q.d⟩ : Gly) = q := rfl
  rw [hq'] at hsn
  have hw2 : IntKind.i64.wrap ((j : Int) + (m : Int) + 3 - 1) = (j : Int) + (m : Int) + 2 := by rw [W_small (by omega) (by omega)]; omega
  have hw3 : IntKind.i64.wrap (j : Int) = (j : Int) := W_small (by omega) (by omega)
  have hw4 : IntKind.i64.wrap ((j : Int) + 1 + 1) = (j : Int) + 2 := by rw [W_small (by omega) (by omega)]; omega
  have ne : ¬ (j : Int) + 1 = 0 := by omega
  have ne2 : ¬ (j : Int) + 1 = (j : Int) + (m : Int) + 2 := by omega
  have p1 : j + 1 < j + m + 3 := by omega
  have p2 : (j : Int) + 1 < (j : Int) + (m : Int) + 3 := by omega
  have p3 : (0 : Int) ≤ (j : Int) + 1 := by omega
  have p4 : j < j + m + 3 := by omega
  have p5 : (0 : Int) ≤ (j : Int) + 2 := by omega
  have p6 : j + 2 < j + m + 3 := by omega
  have p7 : ((j : Int) + 2).toNat = j + 2 := by omega
  have hw5 : IntKind.i64.wrap ((j : Int) + 2) = (j : Int) + 2 := W_small (by omega) (by omega)
  have p9 : (j : Int) + 2 < (j : Int) + (m : Int) + 3 := by omega
  have p8 : (j : Int) + 1 + 1 = (j : Int) + 2 := by omega
  by_cases hk : kp = 4 <;> by_cases hk2 : kn = 4 <;> cases bl
  all_goals
    conv => lhs; simp -implicitDefEqProofs [-List.reduceReplicate, whit_Glyphs.l1, hb, glyphs_names, hlen, hh, hsn, gly_bare, gly_names, gly_length, hL, h3, h4, h5, h6, h7, h8, hw2, hw3, hw4, ne, ne2, p1, p2, p3, p4, p5, p6, p7, p8, p9, hw5, hk, hk2]
    simp [glSt, glyphs_names, hL, h3, h4, h5, h6, h7, h8, hw2, hw3, hw4, ne, ne2, p1, p2, p3, p4, p5, p6, p7, p8, p9, hw5, hk, hk2]
theorem gl_step {g : Nat → Int} {l o : List Gly} {i : Nat} (hi : i < l.length) (hl : l.length ≤ 1000000) (ho : o.length ≤ 1000000) :
    ∃ o', (∀ x ∈ o', x ∈ o ∨ x ∈ l) ∧ o'.length ≤ o.length + 1 ∧ Exec env whit_Glyphs.l1 (glSt g l o i) = some (.nrm, glSt g l o' ((i : Int) + 1)) := by
  obtain ⟨h3, h4⟩ := rd_all l i hi
  have hq : l[i] ∈ l := List.getElem_mem hi
  have fin : ∀ (F L : Bool), (∀ bl, Call env K.whit_blank [AV.agg (gly l[i].k l[i].r l[i].a l[i].d)] [] = some ⟨.bool bl, [], false, false⟩ →
      Exec env whit_Glyphs.l1 (glSt g l o i) = some (.nrm, if bl && (F || L) then glSt g l o (i + 1) else glSt g l (o ++ [l[i]]) (i + 1))) →
      ∃ o', (∀ x ∈ o', x ∈ o ∨ x ∈ l) ∧ o'.length ≤ o.length + 1 ∧ Exec env whit_Glyphs.l1 (glSt g l o i) = some (.nrm, glSt g l o' ((i : Int) + 1)) := by
    intro F L h
    have := h _ (blank_spec _ _ _ _)
    rw [this]
    split
    · exact ⟨o, (gl_goals hq).1, by omega, rfl⟩
    · exact ⟨o ++ [l[i]], (gl_goals hq).2, by simp, rfl⟩
  generalize l[i] = q at *
  cases i with
  | zero =>
    simp only [Nat.zero_mul, List.drop_zero] at h3 h4
    by_cases hL : l.length = 1
    · exact fin _ _ (gl_A1 hL h3 h4 hl ho)
    · obtain ⟨m, hm⟩ : ∃ m, l.length = m + 2 := ⟨l.length - 2, by omega⟩
      obtain ⟨h5, h6⟩ := rd_all l 1 (by omega)
      exact fin _ _ (gl_A2 hm h3 h4 (rd_first h5) h6 hl ho)
  | succ j =>
    obtain ⟨h5, h6⟩ := rd_all l j (by omega)
    by_cases hL : l.length = j + 2
    · exact fin _ _ (gl_B1 hL h3 h4 (rd_first h5) h6 hl ho)
    · obtain ⟨m, hm⟩ : ∃ m, l.length = j + m + 3 := ⟨l.length - (j + 3), by omega⟩
      obtain ⟨h7, h8⟩ := rd_all l (j + 2) (by omega)
      exact fin _ _ (gl_B2 hm h3 h4 (rd_first h5) h6 (rd_first h7) h8 hl ho)
theorem gl_loop {g : Nat → Int} {l : List Gly} (hl : l.length ≤ 1000) : ∀ (k i : Nat) (o : List Gly), i + k = l.length → o.length ≤ i →
    ∃ o', (∀ x ∈ o', x ∈ o ∨ x ∈ l) ∧ o'.length ≤ l.length ∧ Exec env (.loop [5, 6, 13, 14, 15] whit_Glyphs.l1) (glSt g l o i) =
      some (.exit 0, ⟨[(5, .sl l.length (glyphs l) none), (6, .sl o'.length (glyphs o') (some 1)), (13, .sl l.length (glyphs l) none), (14, i64 l.length), (15, i64 l.length), (16, .bool false)], [.cells (nums 256 g), .tok o'.length 4], 0, false, false⟩)
  | 0, i, o, hk, ho => by
    obtain rfl : i = l.length := by omega
    refine ⟨o, fun x hx => .inl hx, ho, ?_⟩
    rw [Exec_loop]
    conv => lhs; simp -implicitDefEqProofs [-List.reduceReplicate, whit_Glyphs.l1]
  | k + 1, i, o, hk, ho => by
    obtain ⟨o1, hg1, hl1, hs⟩ := gl_step (g := g) (l := l) (o := o) (i := i) (by omega) (by omega) (by omega)
    obtain ⟨o2, hg2, hl2, hs2⟩ := gl_loop (g := g) hl k (i + 1) o1 (by omega) (by omega)
    refine ⟨o2, ?_, by omega, ?_⟩
    · intro x hx
      rcases hg2 x hx with hx | hx
      · exact hg1 x hx
      · exact .inr hx
    · rw [Exec_loop]
      have e : ({ glSt g l o i with fr := clean [5, 6, 13, 14, 15] (glSt g l o i).fr } : St) = glSt g l o i := by simp
      rw [e, hs]
      have e2 : trunc (glSt g l o i).H.length [5, 6, 13, 14, 15] (glSt g l o1 ((i : Int) + 1)) = glSt g l o1 ((i + 1 : Nat) : Int) := by simp [glyphs_names]
      simp only [Option.bind_some, thenDo]
      rw [e2, hs2]
end Go.Proofs.Ytncnpgakflmibaa.Ai
