/- Operations, third part: append, make, max, min. -/
import Derived.Test.YtncnpgakflmibaaAi8
import Derived.Lib.AppendStr
import Derived.Laws.MakeOwn
import Derived.Lib.Bytealg
import Derived.KernelRfl
set_option linter.unusedSimpArgs false
set_option linter.unusedVariables false
set_option linter.unusedSectionVars false
namespace Go.Proofs.Ytncnpgakflmibaa.Ai
open Go.RowKit

section
variable {P : Program} {I : Imm} {G : List Gh} {H : List Box} {w : World} {a : Act}
theorem byteCells_cr (I : Imm) (G : List Gh) : ∀ (s : List UInt8), CRs I G (byteCells s) (s.map fun b => Value.int .u8 (b.toNat : Int))
  | [] => .nil
  | b :: s => .cons (.int _ _) rfl (byteCells_cr I G s)
theorem srcOf_ok {v : AV} {u : Value} {es m : Nat} {xs : List AV} (h : Rel I G H w) (hx : CR I G v u) (hs : srcOf H es v = some (m, xs)) : ∃ ns, SrcOk P w u es m ns ∧ CRs I G xs ns := by
  have cell (w1 : World) (e1 : w1.heap = w.heap) (A : Addr) : w1.cell? A = w.cell? A := by simp only [World.cell?, e1]
  cases hx <;> simp only [srcOf] at hs <;> first | (cases hs; done) | skip
  case str s =>
    split at hs
    · rename_i e1
      simp only [Option.some.injEq, Prod.mk.injEq] at hs
      obtain ⟨rfl, rfl⟩ := hs
      refine ⟨_, ⟨fun w1 => by simp [Builtin.lenOf, str_size], fun w1 _ => ?_, by simp [e1], fun u hu => ?_⟩, byteCells_cr I G s⟩
      · have := Lib.run_firstCells_string (P := P) w1 es ⟨s.toArray⟩
        rw [str_size] at this
        simpa [Lib.strCells] using this
      · simp only [List.mem_map] at hu
        obtain ⟨b, _, rfl⟩ := hu
        rfl
    · simp at hs
  case nils =>
    simp only [Option.some.injEq, Prod.mk.injEq] at hs
    obtain ⟨rfl, rfl⟩ := hs
    exact ⟨[], ⟨fun w1 => by simp [Builtin.lenOf], fun w1 _ => by simp [Builtin.firstCells], by simp, fun u hu => by simp at hu⟩, .nil⟩
  case sl n cs us tok A cap hc hb hn ht =>
    split at hs
    · rename_i hl
      simp only [Option.some.injEq, Prod.mk.injEq] at hs
      obtain ⟨rfl, rfl⟩ := hs
      have hlu : us.length = n * es := by rw [← hc.length]; exact hl
      refine ⟨us, ⟨fun w1 => by simp [Builtin.lenOf], fun w1 e1 => ?_, hlu, hc.one⟩, hc⟩
      cases A with
      | none =>
        rcases hb with rfl | ⟨k, o, hA, _⟩
        · simp [Builtin.firstCells]
        · simp at hA
      | some A =>
        refine run_firstCells_some w1 es n A n cap us hlu (fun j v hj => ?_)
        rcases hb with rfl | ⟨k, o, hA, hat⟩
        · simp at hj
        · obtain rfl := Option.some.inj hA
          rw [add_lit, cell w1 e1]
          exact h.imm _ _ _ (hat j v hj)
    · simp at hs
  case arr b o n k cap hg hn =>
    split at hs
    · rename_i cs hH
      split at hs
      · rename_i hl
        simp only [Option.some.injEq, Prod.mk.injEq] at hs
        obtain ⟨rfl, rfl⟩ := hs
        obtain ⟨us, t, hh, hc, _⟩ := h.box _ _ _ hH hg
        have hc' := (hc.drop o).takeN (n * es)
        have hlu : ((us.toList.drop o).take (n * es)).length = n * es := by
          have := hc.length
          simp only [Array.length_toList] at this
          simp only [List.length_take, List.length_drop, Array.length_toList]
          omega
        refine ⟨_, ⟨fun w1 => by simp [Builtin.lenOf], fun w1 e1 => ?_, hlu, hc'.one⟩, hc'⟩
        refine run_firstCells_some w1 es n _ n cap _ hlu (fun j v hj => ?_)
        rw [add_lit, cell w1 e1, cell_of_block hh]
        rw [List.getElem?_take] at hj
        split at hj
        · rw [List.getElem?_drop] at hj; simpa using hj
        · simp at hj
      · simp at hs
    · simp at hs
theorem sound_append {o : Oper} {t u e : TypeId} {s x : Operand} {i : TypeInfo} {z : Value} {vs vx v : AV} {H' : List Box} {es m : Nat} {xs : List AV} (h : Rel I G H w) (ho : o.op = .call { callee := .builtin .append, args := #[s, x], argTypes := #[t, u] })
    (ht : P.underlying t = some (.slice e)) (hu : P.underlying u = some (.slice e) ∨ P.underlying u = some .string) (hi : P.info? e = some i) (hz : i.zero = some z) (hes : i.size = es) (hzs : z.cells.size = es) (hes0 : 0 < es) (hz1 : ∀ y ∈ z.cells.toList, y.oneCell' = true)
    (hs : CR I G vs (a.eval s)) (hx : CR I G vx (a.eval x)) (hsrc : srcOf H es vx = some (m, xs))
    (hv : (∃ n cs t' , vs = .sl n cs (some t') ∧ H[t']? = some (.tok n es) ∧ cs.length = n * es ∧ (n + m) * (i.bytes + 1) ≤ 70368744177664 ∧ v = .sl (n + m) (cs ++ AV.bareL xs) (some t') ∧ H' = H.set t' (.tok (n + m) es)) ∨
      (vs = .nils ∧ m * (i.bytes + 1) ≤ 70368744177664 ∧ v = .sl m (AV.bareL xs) (some H.length) ∧ H' = H ++ [.tok m es])) : Sound P I G H w a o v H' := by
  obtain ⟨ns, hns, hxs⟩ := srcOf_ok (P := P) h hx hsrc
  have small : ∀ n, n * (i.bytes + 1) ≤ 70368744177664 → n ≤ maxLen ∧ n * i.bytes ≤ 140737488355328 := fun n hn => by
    rw [Nat.mul_add, Nat.mul_one] at hn
    simp only [maxLen]
    omega
  rcases hv with ⟨n, cs, t', rfl, hb, hcs, hbytes, rfl, rfl⟩ | ⟨rfl, hbytes, rfl, rfl⟩
  · obtain ⟨v', w', I', G', hr, hn, hc⟩ := h.append (ty := o.type) hb ht hu hi hz hes hzs hes0 hz1 hs hcs hns hxs.bareL (small _ hbytes).1 (small _ hbytes).2
    exact Sound.value (by simp [execOp, ho, resolve, invoke, builtin, hr]) hn hc
  · generalize hsv : a.eval s = sv at hs
    cases hs
    have hn0 := h.newTok es
    have hns' : SrcOk P w (a.eval x) es m ns := hns
    have hsl : CR I (G ++ [.tok fun n => if n = 0 then some (.slice none 0 0) else none]) (.sl 0 [] (some H.length)) (.slice none 0 0) := .sl .nil (.inl rfl) (Nat.le_refl _) (fun t ht => by
      obtain rfl := Option.some.inj ht
      exact ⟨_, by rw [← h.len, List.getElem?_append_right (Nat.le_refl _), Nat.sub_self]; rfl, if_pos rfl⟩)
    obtain ⟨v', w', I', G', hr, hn, hc⟩ := hn0.rel.append (ty := o.type) (t' := H.length) (n := 0) (es := es) (by simp) ht hu hi hz hes hzs hes0 hz1 hsl (by simp) hns' (hxs.ext hn0.ext).bareL (by rw [Nat.zero_add]; exact (small _ hbytes).1) (by rw [Nat.zero_add]; exact (small _ hbytes).2)
    have hnx := hn0.trans hn
    rw [Nat.zero_add, List.nil_append] at hc
    rw [Nat.zero_add, List.set_append_right _ _ (Nat.le_refl _), Nat.sub_self, List.set_cons_zero] at hnx
    exact Sound.value (by simp [execOp, ho, resolve, invoke, builtin, hsv, hr]) hnx hc
/-! ### max, min -/
def okOs : List Operand → List AO → Bool
  | [], [] => true
  | x :: xs, y :: ys => okO x y && okOs xs ys
  | _, _ => false
theorem okOs_crt {e : AO → AV} (he : ∀ x y, okO x y = true → CR I G (e y) (a.eval x)) : ∀ {xs : List Operand} {ys : List AO}, okOs xs ys = true → CRt I G (ys.map e) (xs.map a.eval)
  | [], [], _ => .nil
  | x :: xs, y :: ys, h => by
    simp only [okOs, Bool.and_eq_true] at h
    exact .cons (he _ _ h.1) (okOs_crt he h.2)
  | [], _ :: _, h => by simp [okOs] at h
  | _ :: _, [], h => by simp [okOs] at h
theorem fold_max : ∀ {cs : List AV} {us : List Value} {k : IntKind} {x : Int} {v : AV}, CRt I G cs us → cs.foldlM (fun a b => match a, b with
    | .int k x, .int k' y => if k = k' then some (.int k (if x < y then y else x)) else none
    | _, _ => none) (.int k x) = some v → ∃ k' n, v = .int k' n ∧ (us.foldlM Builtin.max2 (.int k x)).run P w = .ok (.int k' n) w
  | [], _, k, x, v, .nil, h => by
    simp only [List.foldlM_nil, Option.pure_def, Option.some.injEq] at h
    exact ⟨k, x, h.symm, by simp⟩
  | c :: cs, _, k, x, v, .cons (u := u) hc hs, h => by
    simp only [List.foldlM_cons, Option.bind_eq_bind, Option.bind_eq_some_iff] at h
    obtain ⟨r, hr, h⟩ := h
    split at hr
    · rename_i k1 x1 k' y e1
      split at hr
      · rename_i ek
        obtain ⟨rfl, rfl⟩ := AV.int.inj e1
        subst ek
        obtain rfl := Option.some.inj hr
        cases hc
        obtain ⟨k2, n, rfl, hrun⟩ := fold_max hs h
        exact ⟨k2, n, rfl, by simpa [Builtin.max2] using hrun⟩
      · simp at hr
    · simp at hr
theorem fold_min : ∀ {cs : List AV} {us : List Value} {k : IntKind} {x : Int} {v : AV}, CRt I G cs us → cs.foldlM (fun a b => match a, b with
    | .int k x, .int k' y => if k = k' then some (.int k (if y < x then y else x)) else none
    | _, _ => none) (.int k x) = some v → ∃ k' n, v = .int k' n ∧ (us.foldlM Builtin.min2 (.int k x)).run P w = .ok (.int k' n) w
  | [], _, k, x, v, .nil, h => by
    simp only [List.foldlM_nil, Option.pure_def, Option.some.injEq] at h
    exact ⟨k, x, h.symm, by simp⟩
  | c :: cs, _, k, x, v, .cons (u := u) hc hs, h => by
    simp only [List.foldlM_cons, Option.bind_eq_bind, Option.bind_eq_some_iff] at h
    obtain ⟨r, hr, h⟩ := h
    split at hr
    · rename_i k1 x1 k' y e1
      split at hr
      · rename_i ek
        obtain ⟨rfl, rfl⟩ := AV.int.inj e1
        subst ek
        obtain rfl := Option.some.inj hr
        cases hc
        obtain ⟨k2, n, rfl, hrun⟩ := fold_min hs h
        exact ⟨k2, n, rfl, by simpa [Builtin.min2] using hrun⟩
      · simp at hr
    · simp at hr
theorem sound_max {o : Oper} {args ts : Array _} {ys : List AO} {e : AO → AV} {v : AV} (h : Rel I G H w) (ho : o.op = .call { callee := .builtin .max, args := args, argTypes := ts }) (he : ∀ x y, okO x y = true → CR I G (e y) (a.eval x))
    (hok : okOs args.toList ys = true) (hv : foldMax (ys.map e) = some v) : Sound P I G H w a o v H := by
  have hc := okOs_crt he hok
  have hargs : (args.map a.eval).toList = args.toList.map a.eval := Array.toList_map
  revert hv
  generalize ys.map e = cs at hc
  generalize args.toList.map a.eval = us at hc hargs
  intro hv
  unfold foldMax at hv
  split at hv
  · simp at hv
  · rename_i k x l
    cases hc with
    | cons h1 h2 =>
      cases h1
      obtain ⟨k', n, rfl, hr⟩ := fold_max (P := P) (w := w) h2 hv
      have hr' : (Builtin.max_ ts o.type (args.map a.eval)).run P w = .ok (.int k' n) w := by unfold Builtin.max_; rw [hargs]; exact hr
      exact Sound.same h (by simp [execOp, ho, resolve, invoke, builtin, hr']) (.int _ _)
  · simp at hv
theorem sound_min {o : Oper} {args ts : Array _} {ys : List AO} {e : AO → AV} {v : AV} (h : Rel I G H w) (ho : o.op = .call { callee := .builtin .min, args := args, argTypes := ts }) (he : ∀ x y, okO x y = true → CR I G (e y) (a.eval x))
    (hok : okOs args.toList ys = true) (hv : foldMin (ys.map e) = some v) : Sound P I G H w a o v H := by
  have hc := okOs_crt he hok
  have hargs : (args.map a.eval).toList = args.toList.map a.eval := Array.toList_map
  revert hv
  generalize ys.map e = cs at hc
  generalize args.toList.map a.eval = us at hc hargs
  intro hv
  unfold foldMin at hv
  split at hv
  · simp at hv
  · rename_i k x l
    cases hc with
    | cons h1 h2 =>
      cases h1
      obtain ⟨k', n, rfl, hr⟩ := fold_min (P := P) (w := w) h2 hv
      have hr' : (Builtin.min_ ts o.type (args.map a.eval)).run P w = .ok (.int k' n) w := by unfold Builtin.min_; rw [hargs]; exact hr
      exact Sound.same h (by simp [execOp, ho, resolve, invoke, builtin, hr']) (.int _ _)
  · simp at hv
/-! ### make -/
theorem sound_mkarr {o : Oper} {t el : TypeId} {x y : Operand} {it : TypeInfo} {z : Value} {zero : List AV} {k : IntKind} {n : Int} (h : Rel I G H w) (ho : o.op = .makeSlice t x y) (hx : CR I G (.int k n) (a.eval x)) (hy : CR I G (.int k n) (a.eval y))
    (ht : P.underlying t = some (.slice el)) (hi : P.info? el = some it) (hz : it.zero = some z) (hzs : z.cells.size = it.size) (hc : constsOk z.cells.toList zero = true) (hb : it.bytes ≤ 268435456) (h0 : 0 ≤ n) (h1 : n ≤ 1048576) :
    Sound P I G H w a o (.arr H.length 0 n.toNat) (H ++ [.cells (List.replicate n.toNat zero).flatten]) := by
  generalize hux : a.eval x = ux at hx
  generalize huy : a.eval y = uy at hy
  cases hx
  cases hy
  have hbytes : (it.bytes : Int) * n ≤ 281474976710656 := by
    have h2 : it.bytes * n.toNat ≤ 268435456 * 1048576 := Nat.mul_le_mul hb (by omega)
    have h3 : ((it.bytes * n.toNat : Nat) : Int) ≤ 281474976710656 := by omega
    rw [Int.natCast_mul, Int.toNat_of_nonneg h0] at h3
    exact h3
  have hr := run_make (P := P) w t el it z ht hi hz k k n n h0 (Int.le_refl _) hbytes (by omega)
  have hcells : (madeCells z.cells (n.toNat * it.size)) = ((List.replicate n.toNat z.cells.toList).flatten).toArray := by
    apply Array.ext'
    rw [madeCells, Array.toList_map, Array.toList_range, ← hzs, range_mod]
  rw [hcells] at hr
  have hn := h.newBox ((constsOk_cr (I := I) (G := G) hc).flat n.toNat) el
  exact Sound.value (by simp [execOp, ho, hux, huy, hr]) hn (.arr (k := w.heap.size) (by rw [← h.len, List.getElem?_append_right (Nat.le_refl _), Nat.sub_self]; rfl) (Nat.le_refl _))
/-! ### A function of the library without a body -/
theorem idxByte_eq : ∀ (l : List UInt8) (c : UInt8), idxByte l c = Lib.indexByte l c
  | [], _ => rfl
  | b :: l, c => by simp only [idxByte, Lib.indexByte, idxByte_eq l c]
theorem look_generic : (Extern.allGenericRows.lookup "internal/bytealg.IndexByteString").isNone = true := by kernel_rfl
theorem look_typed : (Extern.allTypedRows.lookup "internal/bytealg.IndexByteString").isNone = true := by kernel_rfl
theorem look_rows : Extern.allRows.lookup "internal/bytealg.IndexByteString" = some Extern.BytealgIndexByte.indexByte := by kernel_rfl
def isIdxB (P : Program) (f : Nat) : Bool := match P.funcs[f]? with
  | some fn => fn.name == "internal/bytealg.IndexByteString" && fn.body.isNone && (Extern.findNext fn).isNone
  | none => false
theorem isIdxB_run {f : Nat} (h : isIdxB P f = true) (l : List UInt8) (c : Int) : (callFunc f #[.string ⟨l.toArray⟩, .int .u8 c]).run P w = .ok (.value (.int .i64 (idxByte l c.toNat.toUInt8))) w := by
  unfold isIdxB at h
  split at h
  · rename_i fn hf
    simp only [Bool.and_eq_true, beq_iff_eq] at h
    obtain ⟨⟨hn, hb⟩, hx⟩ := h
    have hfind : Extern.find fn = some Extern.BytealgIndexByte.indexByte := by
      unfold Extern.find
      dsimp only
      rw [hn, look_rows, Option.isNone_iff_eq_none.1 look_generic, Option.isNone_iff_eq_none.1 look_typed]
      rfl
    have hnn : (fn.name == "runtime.NumGoroutine") = false := by rw [hn]; decide
    have hr := Lib.run_indexByteString (P := P) ⟨l.toArray⟩ c w
    simp [callFunc, hf, hn, Option.isNone_iff_eq_none.1 hb, Option.isNone_iff_eq_none.1 hx, hfind, hr, idxByte_eq]
  · simp at h
theorem sound_idxB {o : Oper} {f : Nat} {x y : Operand} {ts : Array TypeId} {l : List UInt8} {n : Int} (h : Rel I G H w) (ho : o.op = .call { callee := .value (.func f), args := #[x, y], argTypes := ts }) (hf : isIdxB P f = true) (hx : CR I G (.str l) (a.eval x)) (hy : CR I G (.int .u8 n) (a.eval y)) :
    Sound P I G H w a o (.int .i64 (idxByte l n.toNat.toUInt8)) H := by
  have hxv : a.eval x = .string ⟨l.toArray⟩ := by generalize a.eval x = u at hx; cases hx; rfl
  have hyv : a.eval y = .int .u8 n := by generalize a.eval y = u at hy; cases hy; rfl
  have hfv : a.eval (.func f) = .func (.func f) #[] #[] := rfl
  exact Sound.same h (by simp [execOp, ho, resolve, Deferred.ofValue, hfv, invoke, hxv, hyv, isIdxB_run hf]) (.int _ _)
end
end Go.Proofs.Ytncnpgakflmibaa.Ai
