/- Operations, one by one. Third part: literals, slices, appends, bytes, structs compared. -/
import Derived.Test.YtncnpgakflmibaaAi7
import Derived.Great.BuildSlice
set_option linter.unusedSimpArgs false
set_option linter.unusedVariables false
namespace Go.Proofs.Ytncnpgakflmibaa.Ai
open Go.RowKit
section
variable {P : Program} {I : Imm} {G : List Gh} {H : List Box} {w : World} {a : Act}
theorem foldl_set (off : Nat) : ∀ (vs : List Value) (j : Nat) (cs : Array Value), off + j + vs.length ≤ cs.size →
    ((vs.zipIdx j).foldl (fun cs (x : Value × Nat) => cs.setIfInBounds (off + x.2) x.1) cs).toList = cs.toList.take (off + j) ++ vs ++ cs.toList.drop (off + j + vs.length)
  | [], j, cs, _ => by simp
  | v :: vs, j, cs, h => by
    simp only [List.length_cons] at h
    simp only [List.zipIdx_cons, List.foldl_cons]
    rw [foldl_set off vs (j + 1) _ (by simp; omega)]
    simp only [Array.toList_setIfInBounds, List.length_cons]
    have hlt : off + j < cs.toList.length := by simp; omega
    rw [show off + (j + 1) = off + j + 1 by omega, List.take_succ_eq_append_getElem (by simpa using hlt), List.take_set, List.drop_set]
    rw [if_pos (by omega)]
    simp only [List.getElem_set_self, List.append_assoc, List.singleton_append]
    congr 1
    · rw [List.set_eq_of_length_le (by simp; omega)]
    · rw [show off + j + 1 + vs.length = off + j + (vs.length + 1) by omega]
def okParts (place : Nat → Option (Nat × Nat)) : List (Nat × Operand) → List (Nat × Nat × AO) → Bool
  | [], [] => true
  | (i, x) :: ps, (off, s, y) :: aps => decide (place i = some (off, s)) && okO x y && okParts place ps aps
  | _, _ => false
theorem fill_ok {place : Nat → Option (Nat × Nat)} {e : AO → AV} (he : ∀ x y, okO x y = true → CR I G (e y) (a.eval x)) : ∀ (ps : List (Nat × Operand)) (aps : List (Nat × Nat × AO)) {l l' : List AV} {us : Array Value}, okParts place ps aps = true → CRs I G l us.toList → fill e aps l = some l' →
    ∃ us' : Array Value, Instr.fill place us (ps.map fun p => (p.1, a.eval p.2)) = some us' ∧ CRs I G l' us'.toList
  | [], [], l, l', us, _, hc, hf => by simp only [fill, Option.some.injEq] at hf; subst hf; exact ⟨us, rfl, hc⟩
  | [], _ :: _, _, _, _, h, _, _ => by simp [okParts] at h
  | _ :: _, [], _, _, _, h, _, _ => by simp [okParts] at h
  | (i, x) :: ps, (off, s, y) :: aps, l, l', us, h, hc, hf => by
    simp only [okParts, Bool.and_eq_true, decide_eq_true_eq] at h
    obtain ⟨⟨h1, h2⟩, h3⟩ := h
    simp only [fill] at hf
    obtain ⟨cs, hcs, hf⟩ := Option.bind_eq_some_iff.1 hf
    split at hf
    · rename_i hfit
      have hv := cellsOf_cr (he x y h2) hcs
      have hsz : (a.eval x).cells.size = s := by rw [← hfit.1, hv.length, Array.length_toList]
      have hl := hc.length
      simp only [Array.length_toList] at hl
      have hlen : off + 0 + (a.eval x).cells.toList.length ≤ us.size := by simp only [Array.length_toList, hsz]; omega
      have hfold := foldl_set off (a.eval x).cells.toList 0 us hlen
      simp only [Nat.add_zero] at hfold
      have hsp := splice_cr (off := off) hv hc
      rw [← hfold] at hsp
      obtain ⟨us', hr, hcr⟩ := fill_ok he ps aps h3 hsp hf
      refine ⟨us', ?_, hcr⟩
      simp only [List.map_cons, Instr.fill, h1]
      rw [if_neg (by simp [hsz]; omega)]
      rw [← hr]
      congr 1
      rw [← Array.foldl_toList, Array.toList_zipIdx]
    · simp at hf
theorem eval_parts (parts : Array (Nat × Operand)) : (parts.map fun (p : Nat × Operand) => (p.1, a.eval p.2)).toList = parts.toList.map fun p => (p.1, a.eval p.2) := Array.toList_map ..
/-- Where the parts of a struct, or an array, lie. -/
def structPlaces (P : Program) (fs : Array Field) : Option (List (Nat × Nat)) := fs.toList.mapM fun f => (P.info? f.type).map fun i => (f.offset, i.size)
theorem sound_build {o : Oper} {t : TypeId} {parts : Array (Nat × Operand)} {aps : List (Nat × Nat × AO)} {e : AO → AV} {it : TypeInfo} {z : Value} {zero l' : List AV} {place : Nat → Option (Nat × Nat)} (h : Rel I G H w) (ho : o.op = .build t parts)
    (he : ∀ x y, okO x y = true → CR I G (e y) (a.eval x)) (hi : P.info? t = some it) (hz : it.zero = some z) (hc : constsOk z.cells.toList zero = true)
    (hp : (∃ fs places, P.underlying t = some (.struct fs) ∧ structPlaces P fs = some places ∧ place = fun i => places.toArray[i]?) ∨ ∃ n el s, P.underlying t = some (.array n el) ∧ TySize P el s ∧ place = fun i => some (i * s, s))
    (hok : okParts place parts.toList aps = true) (hf : fill e aps zero = some l') : Sound P I G H w a o (.agg l') H := by
  obtain ⟨us', hr, hcr⟩ := fill_ok he parts.toList aps hok (constsOk_cr hc) hf
  refine Sound.same h (u := .agg us') ?_ (by have := CR.agg hcr; simpa using this)
  have hmap : (parts.map fun (x : Nat × Operand) => match x with | (i, x) => (i, a.eval x)).toList = parts.toList.map fun p => (p.1, a.eval p.2) := eval_parts parts
  rcases hp with ⟨fs, places, hu, hpl, rfl⟩ | ⟨n, el, s, hu, hs, rfl⟩
  · have : P.built t (parts.map fun (x : Nat × Operand) => match x with | (i, x) => (i, a.eval x)).toList = some us' := by
      rw [hmap]
      simp only [Program.built, hi, hz, hu]
      unfold structPlaces at hpl
      simp only [hpl]
      exact hr
    simp [execOp, ho, run_build w t _ us' this]
  · have : P.built t (parts.map fun (x : Nat × Operand) => match x with | (i, x) => (i, a.eval x)).toList = some us' := by
      rw [hmap]
      obtain ⟨ie, hie, hs⟩ := hs
      simp only [Program.built, hi, hz, hu, hie, hs]
      exact hr
    simp [execOp, ho, run_build w t _ us' this]
theorem range_mod (z : Array Value) : ∀ n, ((List.range (n * z.size)).map fun i => z[i % z.size]!) = (List.replicate n z.toList).flatten
  | 0 => by simp
  | n + 1 => by
    rw [Nat.add_mul, Nat.one_mul, List.range_add, List.map_append, range_mod z n, List.replicate_succ', List.flatten_append]
    congr 1
    simp only [List.flatten_cons, List.flatten_nil, List.append_nil, List.map_map]
    apply List.ext_getElem
    · simp
    · intro i h1 h2
      simp only [List.length_map, List.length_range] at h1
      simp only [List.getElem_map, List.getElem_range, Function.comp, Nat.mul_add_mod_self_right, Nat.mod_eq_of_lt h1]
      rw [getElem!_pos z i h1]
      simp
theorem sound_lit {o : Oper} {t el : TypeId} {n : Nat} {parts : Array (Nat × Operand)} {aps : List (Nat × Nat × AO)} {e : AO → AV} {it : TypeInfo} {z : Value} {zero l' : List AV} (h : Rel I G H w) (ho : o.op = .buildSlice t n parts)
    (he : ∀ x y, okO x y = true → CR I G (e y) (a.eval x)) (ht : P.underlying t = some (.slice el)) (hi : P.info? el = some it) (hz : it.zero = some z) (hzs : z.cells.size = it.size) (hc : constsOk z.cells.toList zero = true) (hsm : n * it.size ≤ 2 ^ 24)
    (hok : okParts (fun i => some (i * it.size, it.size)) parts.toList aps = true) (hf : fill e aps (List.replicate n zero).flatten = some l') : Sound P I G H w a o (.sl n l' none) H := by
  have hcr0 := (constsOk_cr (I := I) (G := G) hc).flat n
  have key : ∃ us0 : Array Value, us0.toList = (List.replicate n z.cells.toList).flatten ∧ ∀ us', Instr.fill (fun i => some (i * it.size, it.size)) us0 (parts.toList.map fun p => (p.1, a.eval p.2)) = some us' → (execOp a.eval o).run P w = .ok (.value (.slice (some ⟨w.heap.size, 0, none⟩) n n)) (w.alloc (.cells us' el)) := by
    by_cases h0 : n * it.size = 0
    · refine ⟨#[], ?_, fun us' hr => ?_⟩
      · rcases Nat.mul_eq_zero.1 h0 with h0 | h0
        · subst h0; simp
        · have : z.cells.toList = [] := List.eq_nil_of_length_eq_zero (by simp [hzs, h0])
          rw [this]
          simp
      · have e0 : ∀ f : Nat → Value, (Array.range (n * it.size)).map f = #[] := fun f => by rw [h0]; simp
        have hr' : Instr.fill (fun i => some (i * it.size, it.size)) #[] (parts.map fun (x : Nat × Operand) => match x with | (i, x) => (i, a.eval x)).toList = some us' := by rw [← hr]; congr 1; exact eval_parts parts
        have hb : (Instr.buildSlice t n (parts.map fun (x : Nat × Operand) => match x with | (i, x) => (i, a.eval x))).run P w = .ok (.slice (some ⟨w.heap.size, 0, none⟩) n n) (w.alloc (.cells us' el)) := by
          have hgt : ¬ (n * it.size > 2 ^ 24) := by omega
          have hsz : (sizeOf el).run P w = .ok it.size w := by simp [sizeOf, typeInfo, hi]
          generalize (parts.map fun (x : Nat × Operand) => match x with | (i, x) => (i, a.eval x)) = ps at hr' ⊢
          have hgt' : ¬ (16777216 < n * it.size) := by omega
          have e1 : (Array.range 0).map (fun x => (default : Value)) = #[] := by simp
          have e2 : Instr.fill (fun i => some (i * it.size, it.size)) ((Array.range 0).map (fun x => (default : Value))) ps.toList = some us' := by rw [e1]; exact hr'
          simp only [Instr.buildSlice, Sem.run_bind, run_underlying ht, Result.andThen_ok, hsz]
          simp [h0, e2, newRow]
        simp [execOp, ho, hb]
    · refine ⟨((Array.range (n * it.size)).map (z.cells[· % z.cells.size]!)), ?_, fun us' hr => ?_⟩
      · rw [Array.toList_map, Array.toList_range, ← hzs, range_mod]
      · have hr' : Instr.fill (fun i => some (i * it.size, it.size)) ((Array.range (n * it.size)).map (z.cells[· % z.cells.size]!)) (parts.map fun (x : Nat × Operand) => match x with | (i, x) => (i, a.eval x)).toList = some us' := by rw [← hr]; congr 1; exact eval_parts parts
        have := run_buildSlice (P := P) w t el n _ us' it z ht hi hz (by omega) h0 hr'
        simp [execOp, ho, this]
  obtain ⟨us0, hus0, hrun⟩ := key
  rw [← hus0] at hcr0
  obtain ⟨us', hr, hcr⟩ := fill_ok he parts.toList aps hok hcr0 hf
  obtain ⟨I', hn, hI⟩ := h.newRow us' el
  refine Sound.value (hrun us' hr) hn (.sl (hcr.ext hn.ext) (.inr ⟨_, 0, rfl, fun j u hj => by rw [Nat.zero_add]; exact hI j u (by simpa using hj)⟩) (Nat.le_refl _) (fun t ht => by simp at ht))
/-! ### Parts of texts and slices -/
theorem bound_run {e : AO → AV} {d n : Nat} {x : Option AO} {y : Option Operand} (hb : bound e d x = some n) (hxy : (x = none ∧ y = none) ∨ ∃ x' y', x = some x' ∧ y = some y' ∧ CR I G (e x') (a.eval y')) : (x = none ∧ y = none ∧ n = d) ∨ ∃ y' k i, y = some y' ∧ a.eval y' = .int k i ∧ 0 ≤ i ∧ i.toNat = n := by
  rcases hxy with ⟨rfl, rfl⟩ | ⟨x', y', rfl, rfl, hc⟩
  · simp only [bound, Option.some.injEq] at hb
    exact .inl ⟨rfl, rfl, hb.symm⟩
  · simp only [bound] at hb
    split at hb
    · rename_i k i hk
      split at hb
      · rename_i h0
        refine .inr ⟨y', k, i, rfl, ?_, h0, Option.some.inj hb⟩
        rw [hk] at hc
        generalize a.eval y' = u at hc
        cases hc
        rfl
      · simp at hb
    · simp at hb
theorem run_sliceBounds {isSlice : Bool} {len cap l m : Nat} {lo hi : Option Value} (hlo : (lo = none ∧ l = 0) ∨ ∃ k i, lo = some (.int k i) ∧ 0 ≤ i ∧ i.toNat = l) (hhi : (hi = none ∧ m = len) ∨ ∃ k i, hi = some (.int k i) ∧ 0 ≤ i ∧ i.toNat = m) (h1 : l ≤ m) (h2 : m ≤ len) (h3 : len ≤ cap) :
    (Instr.sliceBounds isSlice len cap lo hi none).run P w = .ok (l, m, cap) w := by
  rcases hlo with ⟨rfl, rfl⟩ | ⟨k, i, rfl, i0, rfl⟩ <;> rcases hhi with ⟨rfl, rfl⟩ | ⟨k', i', rfl, i0', rfl⟩
  · simp [Instr.sliceBounds]
  · have : i' ≤ (cap : Int) := by omega
    simp [Instr.sliceBounds, Instr.sliceBound, asIntOf, i0', this]
  · have : i ≤ (m : Int) := by omega
    simp [Instr.sliceBounds, Instr.sliceBound, asIntOf, i0, this]
  · have e1 : i' ≤ (cap : Int) := by omega
    have e2 : i ≤ i' := by omega
    have e3 : 0 ≤ i' := i0'
    simp [Instr.sliceBounds, Instr.sliceBound, asIntOf, i0, i0', e1, e2, Int.toNat_of_nonneg e3]
def okOO : Option Operand → Option AO → Bool
  | none, none => true
  | some x, some y => okO x y
  | _, _ => false
theorem okOO_cases {e : AO → AV} (he : ∀ x y, okO x y = true → CR I G (e y) (a.eval x)) {x : Option Operand} {y : Option AO} (h : okOO x y = true) : (y = none ∧ x = none) ∨ ∃ y' x', y = some y' ∧ x = some x' ∧ CR I G (e y') (a.eval x') := by
  unfold okOO at h
  split at h
  · exact .inl ⟨rfl, rfl⟩
  · exact .inr ⟨_, _, rfl, rfl, he _ _ h⟩
  · simp at h
theorem bound_val {e : AO → AV} (he : ∀ x y, okO x y = true → CR I G (e y) (a.eval x)) {d n : Nat} {x : Option Operand} {y : Option AO} (h : okOO x y = true) (hb : bound e d y = some n) : (x.map a.eval = none ∧ n = d) ∨ ∃ k i, x.map a.eval = some (.int k i) ∧ 0 ≤ i ∧ i.toNat = n := by
  rcases bound_run (a := a) hb (okOO_cases he h) with ⟨_, rfl, rfl⟩ | ⟨y', k, i, rfl, hv, h0, hn⟩
  · exact .inl ⟨rfl, rfl⟩
  · exact .inr ⟨k, i, by simp [hv], h0, hn⟩
theorem extract_str (s : List UInt8) (l m : Nat) : (⟨s.toArray⟩ : ByteArray).extract l m = ⟨((s.drop l).take (m - l)).toArray⟩ := by
  apply ByteArray.ext
  rw [ByteArray.data_extract]
  simp [List.extract_eq_take_drop]
theorem sound_sliceS {o : Oper} {t : TypeId} {x : Operand} {lo hi : Option Operand} {lo' hi' : Option AO} {e : AO → AV} {s : List UInt8} {l m : Nat} (h : Rel I G H w) (ho : o.op = .slice t x lo hi none) (he : ∀ x y, okO x y = true → CR I G (e y) (a.eval x)) (ht : P.underlying t = some .string)
    (hlo : okOO lo lo' = true) (hhi : okOO hi hi' = true) (hx : CR I G (.str s) (a.eval x)) (h1 : bound e 0 lo' = some l) (h2 : bound e s.length hi' = some m) (hlm : l ≤ m ∧ m ≤ s.length) : Sound P I G H w a o (.str ((s.drop l).take (m - l))) H := by
  have hxv : a.eval x = .string ⟨s.toArray⟩ := by generalize a.eval x = u at hx; cases hx; rfl
  refine Sound.same h ?_ (.str _)
  have hr := run_sliceBounds (P := P) (w := w) (isSlice := false) (bound_val he hlo h1) (bound_val he hhi h2) hlm.1 hlm.2 (Nat.le_refl _)
  rw [← str_size s] at hr
  simp [execOp, ho, hxv, Instr.sliceAt, run_underlying ht, Instr.slice, hr, extract_str]
theorem sound_slice {o : Oper} {t el : TypeId} {x : Operand} {lo hi : Option Operand} {lo' hi' : Option AO} {e : AO → AV} {es n l m : Nat} {v r : AV} (h : Rel I G H w) (ho : o.op = .slice t x lo hi none) (he : ∀ x y, okO x y = true → CR I G (e y) (a.eval x)) (ht : P.underlying t = some (.slice el)) (hs : TySize P el es)
    (hlo : okOO lo lo' = true) (hhi : okOO hi hi' = true) (hx : CR I G v (a.eval x)) (h1 : bound e 0 lo' = some l) (h2 : bound e n hi' = some m) (hlm : l ≤ m ∧ m ≤ n)
    (hv : (∃ cs tok, v = .sl n cs tok ∧ r = .sl (m - l) ((cs.drop (l * es)).take ((m - l) * es)) none) ∨ (v = .nils ∧ n = 0 ∧ r = .nils) ∨ ∃ b off, v = .arr b off n ∧ ((m = l ∧ r = .sl 0 [] none) ∨ (m ≠ l ∧ r = .arr b (off + l * es) (m - l)))) : Sound P I G H w a o r H := by
  have hrun : ∀ (A : Option Addr) (cap : Nat), a.eval x = .slice A n cap → n ≤ cap → (execOp a.eval o).run P w = .ok (.value (.slice (if cap = l then A else A.map (·.add (l * es))) (m - l) (cap - l))) w := by
    intro A cap hxv hcap
    have hr := run_sliceBounds (P := P) (w := w) (isSlice := true) (bound_val he hlo h1) (bound_val he hhi h2) hlm.1 hlm.2 hcap
    simp [execOp, ho, hxv, Instr.sliceAt, run_underlying ht, Instr.slice, hr, hs.run]
  generalize hu : a.eval x = u at *
  rcases hv with ⟨cs, tok, rfl, rfl⟩ | ⟨rfl, rfl, rfl⟩ | ⟨b, off, rfl, hr⟩
  · cases hx with
    | sl hc hb hn htok =>
      rename_i us A cap
      refine Sound.same h (hrun A cap rfl hn) (.sl ((hc.drop (l * es)).takeN _) ?_ (by omega) (fun t ht => by simp at ht))
      rcases hb with hb | ⟨k, o', rfl, hat⟩
      · exact .inl (by simp [hb])
      · by_cases hcl : cap = l
        · refine .inl ?_
          have : m - l = 0 := by omega
          rw [this, Nat.zero_mul, List.take_zero]
        · rw [if_neg hcl]
          exact .inr ⟨k, o' + l * es, by simp [add_lit], (hat.drop _).take _⟩
  · cases hx
    have hl : l = 0 := by omega
    have hm : m = 0 := by omega
    subst hl
    subst hm
    have := hrun none 0 rfl (Nat.le_refl _)
    simp only [if_true, Nat.sub_self] at this
    exact Sound.same h this .nils
  · cases hx with
    | arr hg hn =>
      rename_i k cap
      have := hrun _ cap rfl hn
      rcases hr with ⟨rfl, rfl⟩ | ⟨hne, rfl⟩
      · rw [Nat.sub_self] at this
        exact Sound.same h this (.sl .nil (.inl rfl) (Nat.zero_le _) (fun t ht => by simp at ht))
      · rw [if_neg (by omega)] at this
        simp only [Option.map_some, add_lit] at this
        exact Sound.same h this (.arr hg (by omega))
/-! ### Bytes -/
theorem sound_s2b {o : Oper} {s d el : TypeId} {x : Operand} {l : List UInt8} {u : TypeDesc} (h : Rel I G H w) (ho : o.op = .convert s d x) (hs : P.underlying s = some u) (hd : P.underlying d = some (.slice el)) (hel : P.underlying el = some (.int .u8)) (hx : CR I G (.str l) (a.eval x)) : Sound P I G H w a o (.sl l.length (byteCells l) none) H := by
  have hxv : a.eval x = .string ⟨l.toArray⟩ := by generalize a.eval x = u at hx; cases hx; rfl
  have hr := Lib.run_convert_string_bytes (P := P) w s d el ⟨l.toArray⟩ hs hd hel
  rw [str_size] at hr
  have hnx := h.world (I' := fun k o => if k = w.heap.size then ((l.map fun b => Value.int .u8 (b.toNat : Int))[o]?) else I k o) (w' := Lib.bytesWorld w el ⟨l.toArray⟩) rfl rfl rfl (by rw [Lib.bytesWorld_size]; omega) (fun k hk => Lib.bytesWorld_at_old w el _ k hk) (fun k o hk => if_neg (by omega)) (fun k o v hk hv => by
    split at hv
    · rename_i ek
      subst ek
      have ho : o < l.length := by have := (List.getElem?_eq_some_iff.1 hv).1; simpa using this
      rw [Lib.bytesWorld_cell w el _ o (by rw [str_size]; exact ho)]
      rw [← hv]
      simp [ho]
    · rw [h.fresh hk] at hv; simp at hv)
  refine Sound.value (u := .slice (some ⟨w.heap.size, 0, none⟩) l.length (grownCap w l.length 0 el)) (by simp [execOp, ho, hxv, hr]) hnx (.sl (us := l.map fun b => Value.int .u8 (b.toNat : Int)) ?_ (.inr ⟨_, 0, rfl, fun j u hj => ?_⟩) (grownCap_ge w _ _ _) (fun t ht => by simp at ht))
  · have : ∀ l : List UInt8, CRs (fun k o => if k = w.heap.size then ((l.map fun b => Value.int .u8 (b.toNat : Int))[o]?) else I k o) G (byteCells l) (l.map fun b => Value.int .u8 (b.toNat : Int)) → True := fun _ _ => trivial
    have key : ∀ (I1 : Imm) (l : List UInt8), CRs I1 G (byteCells l) (l.map fun b => Value.int .u8 (b.toNat : Int)) := by
      intro I1 l
      induction l with
      | nil => exact .nil
      | cons b l ih => exact .cons (.int _ _) rfl ih
    exact key _ l
  · rw [Nat.zero_add]
    show (if _ then _ else _) = _
    rw [if_pos rfl]
    exact hj
theorem bytesOf_cr : ∀ {cs : List AV} {us : List Value} {s : List UInt8}, CRs I G cs us → bytesOf cs = some s → ∃ ns : List Int, us = ns.map (Value.int .u8) ∧ s = ns.map fun n => UInt8.ofNat n.toNat
  | [], _, s, .nil, h => by simp only [bytesOf, Option.some.injEq] at h; subst h; exact ⟨[], rfl, rfl⟩
  | c :: cs, _, s, .cons hc h1 hs, h => by
    unfold bytesOf at h
    split at h
    · rename_i he; simp at he
    · rename_i n l he
      obtain ⟨rfl, rfl⟩ := List.cons.inj he
      simp only [Option.map_eq_some_iff] at h
      obtain ⟨s', hs', rfl⟩ := h
      obtain ⟨ns, rfl, rfl⟩ := bytesOf_cr hs hs'
      cases hc
      exact ⟨n :: ns, rfl, rfl⟩
    · simp at h
theorem foldl_push (ns : List Int) (s : List UInt8) : ns.foldl (fun (r : ByteArray) n => r.push (UInt8.ofNat n.toNat)) ⟨s.toArray⟩ = ⟨(s ++ ns.map fun n => UInt8.ofNat n.toNat).toArray⟩ := by
  induction ns generalizing s with
  | nil => simp
  | cons n ns ih =>
    have : (⟨s.toArray⟩ : ByteArray).push (UInt8.ofNat n.toNat) = ⟨(s ++ [UInt8.ofNat n.toNat]).toArray⟩ := by
      apply ByteArray.ext
      simp [ByteArray.push]
    rw [List.foldl_cons, this, ih]
    simp
theorem sound_b2s {o : Oper} {s d el : TypeId} {x : Operand} {v : AV} {l : List UInt8} (h : Rel I G H w) (ho : o.op = .convert s d x) (hs : P.underlying s = some (.slice el)) (hel : P.underlying el = some (.int .u8)) (hd : P.underlying d = some .string) (hx : CR I G v (a.eval x))
    (hv : (v = .nils ∧ l = []) ∨ ∃ n cs tok, v = .sl n cs tok ∧ cs.length = n ∧ bytesOf cs = some l) : Sound P I G H w a o (.str l) H := by
  rcases hv with ⟨rfl, rfl⟩ | ⟨n, cs, tok, rfl, hn, hb⟩
  · have hxv : a.eval x = .slice none 0 0 := by generalize a.eval x = u at hx; cases hx; rfl
    refine Sound.same h (u := .string ⟨#[]⟩) ?_ (.str [])
    have := run_convert_bytes_string (P := P) w s d el none 0 0 hs hel hd
    simp only [Conv.bytesToString, Sem.run_pure] at this
    simp [execOp, ho, hxv, this]
    rfl
  · generalize hu : a.eval x = u at *
    cases hx with
    | sl hc hback hcap htok =>
      rename_i us A cap
      obtain ⟨ns, rfl, rfl⟩ := bytesOf_cr hc hb
      have hlen : ns.length = n := by rw [← hn, hc.length, List.length_map]
      have hr := run_convert_bytes_string (P := P) w s d el A n cap hs hel hd
      refine Sound.same h (u := .string ⟨(ns.map fun n => UInt8.ofNat n.toNat).toArray⟩) ?_ (.str _)
      cases A with
      | none =>
        rcases hback with hback | ⟨k, o', hA, _⟩
        · have : ns = [] := by simpa using hback
          subst this
          simp only [Conv.bytesToString, Sem.run_pure] at hr
          simp [execOp, ho, hu, hr]
          rfl
        · simp at hA
      | some ad =>
        have hload : (loadCells ad n).run P w = .ok (ns.map (Value.int .u8)).toArray w := by
          have := run_loadCells_list (P := P) w ad (ns.map (Value.int .u8)) (fun j y hj => by
            rcases hback with hback | ⟨k, o', hA, hat⟩
            · rw [hback] at hj; simp at hj
            · obtain rfl := Option.some.inj hA
              rw [add_lit]
              exact h.imm _ _ _ (hat j y hj))
          rwa [List.length_map, hlen] at this
        rw [run_bytesToString w ad n cap ns hload] at hr
        have hf := foldl_push ns []
        simp only [List.nil_append] at hf
        have he : (⟨([] : List UInt8).toArray⟩ : ByteArray) = ByteArray.empty := rfl
        rw [he] at hf
        rw [hf] at hr
        simp [execOp, ho, hu, hr]
end
end Go.Proofs.Ytncnpgakflmibaa.Ai
