/- Operations, one by one. Second part: values, addresses, numbers, strings. -/
import Derived.Test.YtncnpgakflmibaaAi6
import Derived.Lib.ConvBytes
import Derived.Laws.BytesString
set_option linter.unusedSimpArgs false
set_option linter.unusedVariables false
namespace Go.Proofs.Ytncnpgakflmibaa.Ai
open Go.RowKit
section
variable {P : Program} {I : Imm} {G : List Gh} {H : List Box} {w : World} {a : Act}
theorem sound_mov {o : Oper} {x : Operand} {v : AV} (h : Rel I G H w) (ho : o.op = .move x ∨ o.op = .assign x) (hx : CR I G v (a.eval x)) : Sound P I G H w a o v H := by
  refine Sound.same h ?_ hx
  rcases ho with ho | ho <;> simp [execOp, ho]
theorem sound_nilck {o : Oper} {x : Operand} {v : AV} (h : Rel I G H w) (ho : o.op = .nilCheck x) (hx : CR I G v (a.eval x)) (hv : (∃ b off, v = .ptr b off) ∨ (∃ cs, v = .eptr cs) ∨ ∃ f cs, v = .fn f cs) : Sound P I G H w a o v H := by
  refine Sound.same h ?_ hx
  rcases hv with ⟨b, off, rfl⟩ | ⟨cs, rfl⟩ | ⟨f, cs, rfl⟩
  · generalize hu : a.eval x = u at *
    cases hx
    simp_all [execOp, ho]
  · generalize hu : a.eval x = u at *
    cases hx
    simp_all [execOp, ho]
  · generalize hu : a.eval x = u at *
    cases hx
    simp_all [execOp, ho]
theorem sound_pick {o : Oper} {c x y : Operand} {b : Bool} {vx vy : AV} (h : Rel I G H w) (ho : o.op = .pick c x y) (hc : CR I G (.bool b) (a.eval c)) (hx : CR I G vx (a.eval x)) (hy : CR I G vy (a.eval y)) : Sound P I G H w a o (if b then vx else vy) H := by
  have hb : a.eval c = .bool b := by generalize a.eval c = u at hc; cases hc; rfl
  refine Sound.same h (u := if b then a.eval x else a.eval y) ?_ (by cases b <;> assumption)
  simp [execOp, ho, hb, asBool]
theorem sound_faddr {o : Oper} {t : TypeId} {x : Operand} {f s off : Nat} {fs : Array Field} {fd : Field} {v r : AV} (h : Rel I G H w) (ho : o.op = .fieldAddr t x f) (ht : P.underlying t = some (.struct fs)) (hf : fs[f]? = some fd) (hoff : fd.offset = off)
    (hs : TySize P fd.type s) (hs0 : s ≠ 0) (hx : CR I G v (a.eval x)) (hr : (∃ b o', v = .ptr b o' ∧ r = .ptr b (o' + off)) ∨ ∃ cs, v = .eptr cs ∧ r = .eptr (cs.drop off)) : Sound P I G H w a o r H := by
  subst hoff
  rcases hr with ⟨b, o', rfl, rfl⟩ | ⟨cs, rfl, rfl⟩
  · generalize hu : a.eval x = u at *
    cases hx with
    | ptr hg =>
      rename_i k
      refine Sound.same h (u := .pointer (some ⟨k, o' + fd.offset, none⟩)) ?_ (.ptr hg)
      simp [execOp, ho, hu, Instr.fieldAt, Instr.sureAddr, run_underlying ht, hf, fieldPlace, hs.run, hs0, add_lit]
  · generalize hu : a.eval x = u at *
    cases hx with
    | eptr hc hat =>
      rename_i us k o'
      refine Sound.same h (u := .pointer (some ⟨k, o' + fd.offset, none⟩)) ?_ (.eptr (hc.drop _) (hat.drop _))
      simp [execOp, ho, hu, Instr.fieldAt, Instr.sureAddr, run_underlying ht, hf, fieldPlace, hs.run, hs0, add_lit]
theorem run_part {t : TypeId} {s off : Nat} {ag : Bool} {us : List Value} (hs : TySize P t s) (ha : TyAgg P t ag) (h1 : ag = false → s = 1) (hl : s ≤ (us.drop off).length) :
    (part t us.toArray off).run P w = .ok (if ag then .agg ((us.drop off).take s).toArray else (us.drop off).headD undef) w := by
  unfold part
  simp only [Sem.run_bind, ha.run, Result.andThen_ok]
  cases ag with
  | true =>
    simp only [if_true, Sem.run_bind, hs.run, Result.andThen_ok, Sem.run_pure]
    congr 2
    apply Array.ext'
    simp only [Array.toList_extract, List.extract_eq_take_drop]
    congr 1
    omega
  | false =>
    have := h1 rfl
    subst this
    have hlt : off < us.length := by simp only [List.length_drop] at hl; omega
    rw [List.drop_eq_getElem_cons hlt]
    simp [hlt]
theorem sound_field {o : Oper} {t : TypeId} {x : Operand} {f s off : Nat} {ag : Bool} {fs : Array Field} {fd : Field} {cs : List AV} {r : AV} (h : Rel I G H w) (ho : o.op = .field t x f) (ht : P.underlying t = some (.struct fs)) (hf : fs[f]? = some fd) (hoff : fd.offset = off)
    (hs : TySize P fd.type s) (ha : TyAgg P fd.type ag) (h1 : ag = false → s = 1) (hx : CR I G (.agg cs) (a.eval x)) (hr : rd s ag (cs.drop off) = some r) : Sound P I G H w a o r H := by
  subst hoff
  generalize hu : a.eval x = u at *
  cases hx with
  | agg hc =>
    rename_i us
    obtain ⟨hl, hcr⟩ := rd_cells (hc.drop fd.offset) hr h1
    refine Sound.same h ?_ hcr
    simp [execOp, ho, hu, Instr.field, run_underlying ht, hf, asAgg, run_part hs ha h1 hl]
theorem sound_iaddrA {o : Oper} {t e : TypeId} {x y : Operand} {len es : Nat} {k : IntKind} {i : Int} {v r : AV} (h : Rel I G H w) (ho : o.op = .indexAddr t x y) (ht : P.underlying t = some (.array len e)) (hs : TySize P e es)
    (hx : CR I G v (a.eval x)) (hy : CR I G (.int k i) (a.eval y)) (hi : inInt i len = true) (hr : (∃ b o', v = .ptr b o' ∧ r = .ptr b (o' + i.toNat * es)) ∨ ∃ cs, v = .eptr cs ∧ r = .eptr (cs.drop (i.toNat * es))) : Sound P I G H w a o r H := by
  have hyv : a.eval y = .int k i := by generalize a.eval y = u at hy; cases hy; rfl
  simp only [inInt, Bool.and_eq_true, decide_eq_true_eq] at hi
  have hi2 : 0 ≤ i ∧ i < (len : Int) := ⟨hi.1, by omega⟩
  rcases hr with ⟨b, o', rfl, rfl⟩ | ⟨cs, rfl, rfl⟩
  · generalize hu : a.eval x = u at *
    cases hx with
    | ptr hg =>
      rename_i kb
      refine Sound.same h (u := .pointer (some ⟨kb, o' + i.toNat * es, none⟩)) ?_ (.ptr hg)
      simp [execOp, ho, hu, hyv, Instr.indexAt, Instr.sureAddr, run_underlying ht, asIntOf, hi2, hs.run, add_lit]
  · generalize hu : a.eval x = u at *
    cases hx with
    | eptr hc hat =>
      rename_i us kb o'
      refine Sound.same h (u := .pointer (some ⟨kb, o' + i.toNat * es, none⟩)) ?_ (.eptr (hc.drop _) (hat.drop _))
      simp [execOp, ho, hu, hyv, Instr.indexAt, Instr.sureAddr, run_underlying ht, asIntOf, hi2, hs.run, add_lit]
theorem sound_iaddr {o : Oper} {t e : TypeId} {x y : Operand} {es : Nat} {k : IntKind} {i : Int} {v r : AV} (h : Rel I G H w) (ho : o.op = .indexAddr t x y) (ht : P.underlying t = some (.slice e)) (hs : TySize P e es)
    (hx : CR I G v (a.eval x)) (hy : CR I G (.int k i) (a.eval y)) (hr : (∃ n cs tok, v = .sl n cs tok ∧ inInt i n = true ∧ i.toNat * es < cs.length ∧ r = .eptr (cs.drop (i.toNat * es))) ∨ ∃ b o' n, v = .arr b o' n ∧ inInt i n = true ∧ r = .ptr b (o' + i.toNat * es)) : Sound P I G H w a o r H := by
  have hyv : a.eval y = .int k i := by generalize a.eval y = u at hy; cases hy; rfl
  rcases hr with ⟨n, cs, tok, rfl, hi, hlt, rfl⟩ | ⟨b, o', n, rfl, hi, rfl⟩
  · simp only [inInt, Bool.and_eq_true, decide_eq_true_eq] at hi
    have hi2 : 0 ≤ i ∧ i < (n : Int) := ⟨hi.1, by omega⟩
    generalize hu : a.eval x = u at *
    cases hx with
    | sl hc hb hn htok =>
      rename_i us A cap
      rcases hb with hb | ⟨kb, o', rfl, hat⟩
      · subst hb
        have := hc.length
        simp only [List.length_nil] at this
        omega
      · refine Sound.same h (u := .pointer (some ⟨kb, o' + i.toNat * es, none⟩)) ?_ (.eptr (hc.drop _) (hat.drop _))
        simp [execOp, ho, hu, hyv, Instr.indexAt, run_underlying ht, asIntOf, hi2, hs.run, add_lit]
  · simp only [inInt, Bool.and_eq_true, decide_eq_true_eq] at hi
    have hi2 : 0 ≤ i ∧ i < (n : Int) := ⟨hi.1, by omega⟩
    generalize hu : a.eval x = u at *
    cases hx with
    | arr hg hn =>
      rename_i kb cap
      refine Sound.same h (u := .pointer (some ⟨kb, o' + i.toNat * es, none⟩)) ?_ (.ptr hg)
      simp [execOp, ho, hu, hyv, Instr.indexAt, run_underlying ht, asIntOf, hi2, hs.run, add_lit]
theorem sound_idxA {o : Oper} {t e : TypeId} {x y : Operand} {len es : Nat} {ag : Bool} {k : IntKind} {i : Int} {cs : List AV} {r : AV} (h : Rel I G H w) (ho : o.op = .index t x y) (ht : P.underlying t = some (.array len e)) (hs : TySize P e es) (ha : TyAgg P e ag) (h1 : ag = false → es = 1)
    (hx : CR I G (.agg cs) (a.eval x)) (hy : CR I G (.int k i) (a.eval y)) (hi : inInt i len = true) (hr : rd es ag (cs.drop (i.toNat * es)) = some r) : Sound P I G H w a o r H := by
  have hyv : a.eval y = .int k i := by generalize a.eval y = u at hy; cases hy; rfl
  simp only [inInt, Bool.and_eq_true, decide_eq_true_eq] at hi
  have hi2 : 0 ≤ i ∧ i < (len : Int) := ⟨hi.1, by omega⟩
  generalize hu : a.eval x = u at *
  cases hx with
  | agg hc =>
    obtain ⟨hl, hcr⟩ := rd_cells (hc.drop (i.toNat * es)) hr h1
    refine Sound.same h ?_ hcr
    simp [execOp, ho, hu, hyv, Instr.index, run_underlying ht, asIntOf, hi2, hs.run, run_part hs ha h1 hl]
theorem sound_idxS {o : Oper} {t : TypeId} {x y : Operand} {k : IntKind} {i : Int} {s : List UInt8} {b : UInt8} (h : Rel I G H w) (ho : o.op = .index t x y) (ht : P.underlying t = some .string) (hx : CR I G (.str s) (a.eval x)) (hy : CR I G (.int k i) (a.eval y))
    (h0 : 0 ≤ i) (hb : s[i.toNat]? = some b) : Sound P I G H w a o (.int .u8 b.toNat) H := by
  have hyv : a.eval y = .int k i := by generalize a.eval y = u at hy; cases hy; rfl
  have hxv : a.eval x = .string ⟨s.toArray⟩ := by generalize a.eval x = u at hx; cases hx; rfl
  refine Sound.same h ?_ (.int _ _)
  have hb' : (⟨s.toArray⟩ : ByteArray)[i.toNat]? = some b := by
    obtain ⟨hlt, he⟩ := List.getElem?_eq_some_iff.1 hb
    have hlt' : i.toNat < (⟨s.toArray⟩ : ByteArray).size := by simpa [ByteArray.size] using hlt
    rw [getElem?_pos (⟨s.toArray⟩ : ByteArray) i.toNat hlt', ← he]
    rfl
  simp [execOp, ho, hxv, hyv, Instr.index, run_underlying ht, asIntOf, h0, hb']
theorem sound_extr {o : Oper} {x : Operand} {i : Nat} {vs : List AV} {v : AV} (h : Rel I G H w) (ho : o.op = .extract x i) (hx : CR I G (.tup vs) (a.eval x)) (hv : vs[i]? = some v) : Sound P I G H w a o v H := by
  generalize hu : a.eval x = u at *
  cases hx with
  | tup hc =>
    obtain ⟨y, hy, hcr⟩ := hc.get hv
    refine Sound.same h (u := y) ?_ hcr
    simp [execOp, ho, hu, Instr.extract, hy]
theorem sound_mkfn {o : Oper} {f : FuncId} {caps : Array Operand} {cs : List AV} (h : Rel I G H w) (ho : o.op = .makeFunc (.func f) #[] caps) (hc : CRt I G cs (caps.toList.map a.eval)) : Sound P I G H w a o (.fn f cs) H := by
  refine Sound.same h (u := .func (.func f) #[] (caps.map a.eval)) ?_ ?_
  · simp [execOp, ho, Instr.makeFunc]
  · have := CR.fn (f := f) hc
    rwa [← Array.toList_map, Array.toArray_toList] at this
theorem sound_conv {o : Oper} {s d : TypeId} {x : Operand} {k k' : IntKind} {n : Int} {u : TypeDesc} (h : Rel I G H w) (ho : o.op = .convert s d x) (hs : P.underlying s = some u) (hd : P.underlying d = some (.int k)) (hx : CR I G (.int k' n) (a.eval x)) : Sound P I G H w a o (.int k (k.wrap n)) H := by
  have hxv : a.eval x = .int k' n := by generalize a.eval x = u at hx; cases hx; rfl
  refine Sound.same h ?_ (.int _ _)
  simp [execOp, ho, hxv, convert, run_underlying hs, run_underlying hd, Conv.intToInt]
/-! ### Numbers and texts -/
theorem str_size (s : List UInt8) : (⟨s.toArray⟩ : ByteArray).size = s.length := by simp [ByteArray.size]
theorem str_append (s t : List UInt8) : (⟨s.toArray⟩ : ByteArray) ++ ⟨t.toArray⟩ = ⟨(s ++ t).toArray⟩ := by
  apply ByteArray.ext
  rw [ByteArray.data_append]
  simp
theorem str_toList (s : List UInt8) : (⟨s.toArray⟩ : ByteArray).toList = s := by rw [ByteArray.toList_eq]
theorem bytesLess_eq (x y : List UInt8) : Op.bytesLess x y = strLess x y := by
  induction x generalizing y with
  | nil => cases y <;> rfl
  | cons a x ih =>
    cases y with
    | nil => rfl
    | cons b y => simp only [Op.bytesLess, strLess, ih]
theorem run_eqGuard_plain (op : BinOp) (t : TypeId) (x y : Operand) {u v : Value} (h : (∃ k n, u = .int k n) ∨ (∃ s, u = .string s) ∨ (∃ b, u = .bool b) ∨ (∃ p, u = .pointer p)) : (eqGuard op t x y u v).run P w = .ok () w := by
  rcases h with ⟨k, n, rfl⟩ | ⟨s, rfl⟩ | ⟨b, rfl⟩ | ⟨p, rfl⟩ <;> cases op <;> simp [eqGuard]
theorem run_binInt {op : BinOp} {k : IntKind} {x y : Int} {v : AV} (hs : isShift op = false) (hv : binI op k x y = some v) (t : TypeId) : ∃ u, (Go.binOp op t (.int k x) (.int k y)).run P w = .ok u w ∧ CR I G v u := by
  cases op
  case quo =>
    simp only [binI] at hv
    split at hv
    · simp at hv
    · rename_i h0; obtain rfl := Option.some.inj hv; exact ⟨_, by simp [Go.binOp, Op.intDiv, h0], .int _ _⟩
  case rem =>
    simp only [binI] at hv
    split at hv
    · simp at hv
    · rename_i h0; obtain rfl := Option.some.inj hv; exact ⟨_, by simp [Go.binOp, Op.intDiv, h0], .int _ _⟩
  case shl => simp [isShift] at hs
  case shr => simp [isShift] at hs
  all_goals
    obtain rfl := Option.some.inj hv
    exact ⟨_, by simp only [Go.binOp, ne_eq, not_true_eq_false, if_false, Op.intArith, Op.intCmp, Op.intBits, Sem.run_pure]; rfl, by first | exact .int _ _ | exact .bool _⟩
theorem run_shiftInt {op : BinOp} {k k' : IntKind} {x y : Int} {v : AV} (hs : isShift op = true) (hv : shiftI op k x y = some v) (t : TypeId) : ∃ u, (Go.binOp op t (.int k x) (.int k' y)).run P w = .ok u w ∧ CR I G v u := by
  unfold shiftI at hv
  split at hv
  · simp at hv
  · rename_i h0
    cases op <;> simp only [isShift, Bool.false_eq_true] at hs
    · obtain rfl := Option.some.inj hv
      exact ⟨_, by simp [Go.binOp, Op.shift, h0], .int _ _⟩
    · obtain rfl := Option.some.inj hv
      exact ⟨_, by simp [Go.binOp, Op.shift, h0], .int _ _⟩
theorem run_binStr {op : BinOp} {x y : List UInt8} {v : AV} (hv : binS op x y = some v) (t : TypeId) : ∃ u, (Go.binOp op t (.string ⟨x.toArray⟩) (.string ⟨y.toArray⟩)).run P w = .ok u w ∧ CR I G v u := by
  cases op
  case add =>
    simp only [binS] at hv
    split at hv
    · rename_i h0
      obtain rfl := Option.some.inj hv
      refine ⟨.string ⟨(x ++ y).toArray⟩, ?_, .str _⟩
      have h63 : ¬ (((⟨x.toArray⟩ : ByteArray).size + (⟨y.toArray⟩ : ByteArray).size : Nat) : Int) > IntKind.max .i64 := by
        rw [str_size, str_size]
        have : IntKind.max .i64 = 9223372036854775807 := by decide
        rw [this]
        omega
      simp only [Go.binOp, Op.stringOp, if_neg h63, str_append, Sem.run_pure]
    · simp at hv
  case eql => obtain rfl := Option.some.inj hv; exact ⟨_, by simp only [Go.binOp, Op.stringOp, str_toList, bytesLess_eq, Sem.run_pure], .bool _⟩
  case neq => obtain rfl := Option.some.inj hv; exact ⟨_, by simp only [Go.binOp, Op.stringOp, str_toList, bytesLess_eq, Sem.run_pure]; rfl, .bool _⟩
  case lss => obtain rfl := Option.some.inj hv; exact ⟨_, by simp only [Go.binOp, Op.stringOp, str_toList, bytesLess_eq, Sem.run_pure], .bool _⟩
  case leq => obtain rfl := Option.some.inj hv; exact ⟨_, by simp only [Go.binOp, Op.stringOp, str_toList, bytesLess_eq, Sem.run_pure], .bool _⟩
  case gtr => obtain rfl := Option.some.inj hv; exact ⟨_, by simp only [Go.binOp, Op.stringOp, str_toList, bytesLess_eq, Sem.run_pure], .bool _⟩
  case geq => obtain rfl := Option.some.inj hv; exact ⟨_, by simp only [Go.binOp, Op.stringOp, str_toList, bytesLess_eq, Sem.run_pure], .bool _⟩
  all_goals simp [binS] at hv
theorem sound_bin {o : Oper} {op : BinOp} {t t' : TypeId} {x y : Operand} {vx vy r : AV} (h : Rel I G H w) (ho : o.op = .binOp op t x y t') (hx : CR I G vx (a.eval x)) (hy : CR I G vy (a.eval y)) (hr : Ai.binOp op vx vy = some r) : Sound P I G H w a o r H := by
  have fin : ∀ u, (eqGuard op t x y (a.eval x) (a.eval y)).run P w = .ok () w → (Go.binOp op t (a.eval x) (a.eval y)).run P w = .ok u w → CR I G r u → Sound P I G H w a o r H := by
    intro u h1 h2 h3
    refine Sound.same h (u := u) ?_ h3
    simp [execOp, ho, h1, h2]
  unfold Ai.binOp at hr
  split at hr
  · rename_i k n k' m
    have hxv : a.eval x = .int k n := by generalize a.eval x = u at hx; cases hx; rfl
    have hyv : a.eval y = .int k' m := by generalize a.eval y = u at hy; cases hy; rfl
    split at hr
    · rename_i hs
      obtain ⟨u, h1, h2⟩ := run_shiftInt (P := P) (I := I) (G := G) (w := w) (k' := k') hs hr t
      exact fin u (run_eqGuard_plain _ _ _ _ (.inl ⟨_, _, hxv⟩)) (by rw [hxv, hyv]; exact h1) h2
    · rename_i hs
      split at hr
      · rename_i hk
        subst hk
        obtain ⟨u, h1, h2⟩ := run_binInt (P := P) (I := I) (G := G) (w := w) (by simpa using hs) hr t
        exact fin u (run_eqGuard_plain _ _ _ _ (.inl ⟨_, _, hxv⟩)) (by rw [hxv, hyv]; exact h1) h2
      · simp at hr
  · rename_i s s'
    have hxv : a.eval x = .string ⟨s.toArray⟩ := by generalize a.eval x = u at hx; cases hx; rfl
    have hyv : a.eval y = .string ⟨s'.toArray⟩ := by generalize a.eval y = u at hy; cases hy; rfl
    obtain ⟨u, h1, h2⟩ := run_binStr (P := P) (I := I) (G := G) (w := w) hr t
    exact fin u (run_eqGuard_plain _ _ _ _ (.inr (.inl ⟨_, hxv⟩))) (by rw [hxv, hyv]; exact h1) h2
  · simp at hr
theorem sound_beq {o : Oper} {ne : Bool} {t t' : TypeId} {x y : Operand} {b c : Bool} (h : Rel I G H w) (ho : o.op = .binOp (if ne then .neq else .eql) t x y t') (ht : P.underlying t = some .bool) (hx : CR I G (.bool b) (a.eval x)) (hy : CR I G (.bool c) (a.eval y)) : Sound P I G H w a o (.bool ((b == c) != ne)) H := by
  have hxv : a.eval x = .bool b := by generalize a.eval x = u at hx; cases hx; rfl
  have hyv : a.eval y = .bool c := by generalize a.eval y = u at hy; cases hy; rfl
  refine Sound.same h ?_ (.bool _)
  have hg := run_eqGuard_plain (P := P) (w := w) (if ne then .neq else .eql) t x y (u := a.eval x) (v := a.eval y) (.inr (.inr (.inl ⟨_, hxv⟩)))
  rw [hxv, hyv] at hg
  have he : (Op.equal t (.bool b) (.bool c)).run P w = .ok (b == c) w := run_equalIn_bool w 9999 t b c ht
  cases ne
  · simp only [Bool.false_eq_true, if_false] at ho hg
    have e1 : Go.binOp .eql t (.bool b) (.bool c) = (do pure (.bool (← Op.equal t (.bool b) (.bool c)))) := rfl
    simp [execOp, ho, hxv, hyv, hg, e1, he]
  · simp only [if_true] at ho hg
    have e1 : Go.binOp .neq t (.bool b) (.bool c) = (do pure (.bool (!(← Op.equal t (.bool b) (.bool c))))) := rfl
    simp [execOp, ho, hxv, hyv, hg, e1, he]
theorem run_equalIn_ptr {t e : TypeId} (d : Nat) (ht : P.underlying t = some (.pointer e)) (p : Option Addr) : (Op.equalIn (d + 1) t (.pointer p) (.pointer none)).run P w = .ok p.isNone w := by
  cases p <;> simp [Op.equalIn, run_underlying ht]
theorem sound_peq {o : Oper} {ne : Bool} {t t' e : TypeId} {x : Operand} {v : AV} {b : Bool} (h : Rel I G H w) (ho : o.op = .binOp (if ne then .neq else .eql) t x (.const (.pointer none)) t') (ht : P.underlying t = some (.pointer e)) (hx : CR I G v (a.eval x)) (hb : isNilp v = some b) : Sound P I G H w a o (.bool (b != ne)) H := by
  refine Sound.same h ?_ (.bool _)
  have hp : ∃ p : Option Addr, a.eval x = .pointer p ∧ p.isNone = b := by
    generalize a.eval x = u at hx
    cases hx <;> simp only [isNilp, Option.some.injEq] at hb <;> first | (subst hb; exact ⟨_, rfl, rfl⟩) | simp at hb
  obtain ⟨p, hxv, hpb⟩ := hp
  have hyv : a.eval (.const (.pointer none)) = .pointer none := rfl
  have hg := run_eqGuard_plain (P := P) (w := w) (if ne then .neq else .eql) t x (.const (.pointer none)) (u := a.eval x) (v := .pointer none) (.inr (.inr (.inr ⟨_, hxv⟩)))
  rw [hxv] at hg
  have he : (Op.equal t (.pointer p) (.pointer none)).run P w = .ok b w := by
    rw [← hpb]
    exact run_equalIn_ptr 9999 ht p
  cases ne
  · simp only [Bool.false_eq_true, if_false] at ho hg
    have e1 : Go.binOp .eql t (.pointer p) (.pointer none) = (do pure (.bool (← Op.equal t (.pointer p) (.pointer none)))) := by cases p <;> rfl
    simp [execOp, ho, hxv, hyv, hg, e1, he]
  · simp only [if_true] at ho hg
    have e1 : Go.binOp .neq t (.pointer p) (.pointer none) = (do pure (.bool (!(← Op.equal t (.pointer p) (.pointer none))))) := by cases p <;> rfl
    simp [execOp, ho, hxv, hyv, hg, e1, he]
theorem sound_un {o : Oper} {op : UnOp} {t : TypeId} {x : Operand} {v r : AV} (h : Rel I G H w) (ho : o.op = .unOp op t x) (hx : CR I G v (a.eval x)) (hr : Ai.unOp op v = some r) : Sound P I G H w a o r H := by
  unfold Ai.unOp at hr
  split at hr
  · rename_i k n
    have hxv : a.eval x = .int k n := by generalize a.eval x = u at hx; cases hx; rfl
    split at hr
    · obtain rfl := Option.some.inj hr
      exact Sound.same h (by simp [execOp, ho, hxv, Op.unary, Op.intArith]) (.int _ _)
    · simp only [bitop, Option.map_some, Option.some.injEq] at hr
      subst hr
      refine Sound.same h ?_ (.int _ _)
      simp only [execOp, ho, hxv, Op.unary, Op.intBits, Sem.run_bind, Sem.run_pure, Result.andThen_ok]
    · simp at hr
  · rename_i b
    have hxv : a.eval x = .bool b := by generalize a.eval x = u at hx; cases hx; rfl
    split at hr
    · obtain rfl := Option.some.inj hr
      exact Sound.same h (by simp [execOp, ho, hxv, Op.unary]) (.bool _)
    · simp at hr
  · simp at hr
theorem lenOf_run {v : AV} {u : Value} {n : Nat} (hv : CR I G v u) (hn : lenOf v = some n) : (∃ s : ByteArray, u = .string s ∧ s.size = n) ∨ ∃ A cap, u = .slice A n cap := by
  cases hv <;> simp only [lenOf, Option.some.injEq] at hn <;> first
    | (subst hn; exact .inl ⟨_, rfl, str_size _⟩)
    | (subst hn; exact .inr ⟨_, _, rfl⟩)
    | simp at hn
theorem sound_len {o : Oper} {t : TypeId} {x : Operand} {v : AV} {n : Nat} (h : Rel I G H w) (ho : o.op = .call { callee := .builtin .len, args := #[x], argTypes := #[t] }) (ht : P.underlying t = some .string ∨ ∃ e, P.underlying t = some (.slice e))
    (hx : CR I G v (a.eval x)) (hk : (∃ s, v = .str s) ↔ P.underlying t = some .string) (hn : lenOf v = some n) : Sound P I G H w a o (.int .i64 n) H := by
  refine Sound.same h ?_ (.int _ _)
  rcases lenOf_run hx hn with ⟨s, hu, hs⟩ | ⟨A, cap, hu⟩
  · have : ∃ s, v = .str s := by
      rw [hu] at hx
      cases hx with
      | str s => exact ⟨s, rfl⟩
      | unk => simp [lenOf] at hn
    have ht' := hk.1 this
    simp [execOp, ho, resolve, invoke, builtin, hu, Builtin.len_, run_underlying ht', goInt, hs]
  · rcases ht with ht | ⟨e, ht⟩
    · obtain ⟨s, rfl⟩ := hk.2 ht
      rw [hu] at hx
      cases hx
    · simp [execOp, ho, resolve, invoke, builtin, hu, Builtin.len_, run_underlying ht, goInt]
end
end Go.Proofs.Ytncnpgakflmibaa.Ai
