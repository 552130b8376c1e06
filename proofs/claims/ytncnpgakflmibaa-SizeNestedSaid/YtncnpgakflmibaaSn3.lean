/- SizeNested: the glyph of a byte. -/
import Derived.Test.YtncnpgakflmibaaSn2
import Derived.Test.YtncnpgakflmibaaAi3
set_option linter.unusedSimpArgs false
set_option linter.unusedVariables false
set_option maxRecDepth 20000
set_option maxHeartbeats 1000000
namespace Go.Proofs.Ytncnpgakflmibaa.Ai
open C
attribute [local simp] Exec_seq Exec_ops Exec_ret Exec_cond Exec_block Exec_exit Exec_skip runOps runItem afterOp scPut scEnd asBool' asFn toEnd stepOp stepP argsFr ev fget clean put cellsOf binOp isShift binI shiftI foldMax foldMin unOp pure3 leave retL resV optAll AV.bare AV.bareL AV.names AV.namesL under bind_ite thenDo atRet atBlock trunc closedB frNames fill inInt callClosed onClosed lenOf isStr ite_some_nrm ite_some_ret ite_some_bool ite_some_AV ite_some_An ite_nrm ite_St ite_Fr ite_int ite_bool ite_An AItem.dsts dstsL
attribute [local congr] bind_left
attribute [local simp] rd_full splice_full rd_sty rd_sty0 rd_sty2 rd_boxc rd_cons
attribute [local simp] splice_nums rd_nums bareL_nums namesL_nums rd_box0 rd_box3 rd_box4 rd_box45 rd_box46

attribute [local simp] make_box make_box2 write_kids wb3 wb4 wb34 wb40 wb28 wb11 wb15 wb19 sp20 sp21 sp41 bareL_boxc namesL_boxc splice_length bitop_and srcOf write_runs bits64 names_ints Box.names kids_names

/-- A call that reads one box by a pointer. -/
theorem callRead_one {call : CallFn} {f b : Nat} {args H cs H' : _} {v : AV} {e : Bool} (hb : H[b]? = some (.cells cs)) (hn : AV.namesL cs = []) (ha : AV.namesL args = []) (h : call f (.ptr 0 0 :: args) [.cells cs] = some ⟨v, H', e, false⟩) (hv : v.names = []) (hH : H'.length = 1) :
    callRead call f (.ptr b 0 :: args) H = some ⟨v, H, false, false⟩ := by
  have hr : reach H 1000 (AV.namesL (.ptr b 0 :: args)) [] = [b] := by
    simp [AV.namesL, AV.names, ha, reach, hb, Box.names, hn]
  have h1 : AV.renL (idxOf [b]) cs = some cs := AV.renL_id cs (by simp [hn])
  have h2 : AV.renL (idxOf [b]) args = some args := AV.renL_id args (by simp [ha])
  have h3 : AV.ren (backOf [b] H.length) v = some v := AV.ren_id v (by simp [hv])
  have h4 : offHeap (.ptr b 0 :: args) H = some ([b], .ptr 0 0 :: args, [.cells cs]) := by
    unfold offHeap
    rw [hr]
    have h5 : idxOf [b] b = some 0 := by simp [idxOf]
    simp [hb, Box.ren, h1, optAll, AV.renL, AV.ren, h5, h2]
  unfold callRead
  rw [h4]
  simp [h, onRead, hH, h3]
def advN (n : Int) : Int := if 65536 < (if n < 0 then 0 else n) then 65536 else (if n < 0 then 0 else n)
theorem advN_bound (n : Int) : 0 ≤ advN n ∧ advN n ≤ 65536 := by unfold advN; omega
theorem adv_spec {g : Nat → Int} {c : Int} (h0 : 0 ≤ c) (h1 : c < 256) : ∃ a, 0 ≤ a ∧ a ≤ 65536 ∧ Call env K.gaug_Of [.ptr 0 0, .int .u8 c] [.cells (nums 256 g)] = some ⟨i64 a, [.cells (nums 256 g)], false, false⟩ := by
  have h2 : c.toNat < 256 := by omega
  refine ⟨max 0 (min (g c.toNat) 65536), by omega, by omega, ?_⟩
  conv => lhs; simp -implicitDefEqProofs [-List.reduceReplicate, Call_of env_gaug_Of, gaug_Of, gaug_Of.body, h0, h1, h2]
  congr 3
  split <;> split <;> omega
theorem indexByte_spec (s : List UInt8) (c : Int) : Call env K.strings_IndexByte [.str s, .int .u8 c] [] = some ⟨i64 (idxByte s c.toNat.toUInt8), [], false, false⟩ := by
  conv => lhs; simp -implicitDefEqProofs [-List.reduceReplicate, Call_of env_strings_IndexByte, strings_IndexByte, strings_IndexByte.body, Call_of env_stringslite_IndexByte, stringslite_IndexByte, stringslite_IndexByte.body]
/-- A glyph's kind and advance. -/
structure GoodKA (k a : Int) : Prop where
  lo : 0 ≤ a
  hi : a ≤ 65536
theorem of_call {g : Nat → Int} {c a : Int} {H : List Box} {b : Nat} (hb : H[b]? = some (.cells (nums 256 g))) (h : Call env K.gaug_Of [.ptr 0 0, .int .u8 c] [.cells (nums 256 g)] = some ⟨i64 a, [.cells (nums 256 g)], false, false⟩) : callRead (Call env) K.gaug_Of [.ptr b 0, .int .u8 c] H = some ⟨i64 a, H, false, false⟩ :=
  callRead_one hb (namesL_nums _ _) rfl h rfl rfl
theorem glyph_spec {g : Nat → Int} {c : Int} (w : Int) (h0 : 0 ≤ c) (h1 : c < 256) : ∃ k a, GoodKA k a ∧ Call env K.whit_glyph [.ptr 0 0, i64 w, .int .u8 c] [.cells (nums 256 g)] = some ⟨.tup [i64 k, i64 a], [.cells (nums 256 g)], false, false⟩ := by
  obtain ⟨a, ha0, ha1, ha⟩ := adv_spec (g := g) h0 h1
  obtain ⟨b, hb0, hb1, hb⟩ := adv_spec (g := g) (c := 32) (by decide) (by decide)
  have hca := of_call (H := [.cells (nums 256 g)]) (b := 0) rfl ha
  have hcb := of_call (H := [.cells (nums 256 g)]) (b := 0) rfl hb
  have hi := indexByte_spec [32, 9, 10, 13] c
  generalize idxByte [32, 9, 10, 13] c.toNat.toUInt8 = j at hi
  by_cases hw : w = 2
  · by_cases hc : c = 10
    · refine ⟨4, 0, ⟨by decide, by decide⟩, ?_⟩
      conv => lhs; simp -implicitDefEqProofs [-List.reduceReplicate, Call_of env_whit_glyph, whit_glyph, whit_glyph.body, hw, hc]
    · refine ⟨1, a, ⟨ha0, ha1⟩, ?_⟩
      conv => lhs; simp -implicitDefEqProofs [-List.reduceReplicate, Call_of env_whit_glyph, whit_glyph, whit_glyph.body, hw, hc, hca]
  · by_cases hj : j < 0
    · refine ⟨1, a, ⟨ha0, ha1⟩, ?_⟩
      conv => lhs; simp -implicitDefEqProofs [-List.reduceReplicate, Call_of env_whit_glyph, whit_glyph, whit_glyph.body, hw, hi, hj, hca]
    · by_cases hw1 : w = 1
      · refine ⟨3, b, ⟨hb0, hb1⟩, ?_⟩
        conv => lhs; simp -implicitDefEqProofs [-List.reduceReplicate, Call_of env_whit_glyph, whit_glyph, whit_glyph.body, hw1, hi, hj, hcb]
      · refine ⟨2, b, ⟨hb0, hb1⟩, ?_⟩
        conv => lhs; simp -implicitDefEqProofs [-List.reduceReplicate, Call_of env_whit_glyph, whit_glyph, whit_glyph.body, hw, hw1, hi, hj, hcb]
def blankN (k : Int) : Bool := decide (k = 2 ∨ k = 3)
theorem blank_spec (k r a d : Int) : Call env K.whit_blank [.agg (gly k r a d)] [] = some ⟨.bool (blankN k), [], false, false⟩ := by
  have hl : (gly k r a d).length = 4 := rfl
  unfold blankN
  by_cases h : k = 2
  · conv => lhs; simp -implicitDefEqProofs [-List.reduceReplicate, Call_of env_whit_blank, whit_blank, whit_blank.body, h, gly]
    simp [h]
  · by_cases h2 : k = 3
    · conv => lhs; simp -implicitDefEqProofs [-List.reduceReplicate, Call_of env_whit_blank, whit_blank, whit_blank.body, h2, gly]
      simp [h2]
    · conv => lhs; simp -implicitDefEqProofs [-List.reduceReplicate, Call_of env_whit_blank, whit_blank, whit_blank.body, h, h2, gly]
      simp [h, h2]
end Go.Proofs.Ytncnpgakflmibaa.Ai
