/- Which operation of the interpreter stands for which of the program: a test that the kernel reckons, and what it gives. -/
import Derived.Test.YtncnpgakflmibaaAi9
set_option linter.unusedSimpArgs false
set_option linter.unusedVariables false
set_option linter.unusedSectionVars false
namespace Go.Proofs.Ytncnpgakflmibaa.Ai
open Go.RowKit

def szB (P : Program) (t : TypeId) (s : Nat) : Bool := match P.info? t with
  | some i => i.size == s
  | none => false
theorem szB_ok {P : Program} {t : TypeId} {s : Nat} (h : szB P t s = true) : TySize P t s := by
  unfold szB at h
  split at h
  · rename_i i hi; exact ⟨i, hi, by simpa using h⟩
  · simp at h
def agB (P : Program) (t : TypeId) (ag : Bool) (s : Nat) : Bool := match P.underlying t with
  | some d => isAggD d == ag && (ag || s == 1)
  | none => false
theorem agB_ok {P : Program} {t : TypeId} {s : Nat} {ag : Bool} (h : agB P t ag s = true) : TyAgg P t ag ∧ (ag = false → s = 1) := by
  unfold agB at h
  split at h
  · rename_i d hd
    simp only [Bool.and_eq_true, beq_iff_eq, Bool.or_eq_true] at h
    exact ⟨⟨d, hd, h.1⟩, fun e => by rcases h.2 with h2 | h2; rw [e] at h2; simp at h2; exact h2⟩
  · simp at h
def isStringT (P : Program) (t : TypeId) : Bool := match P.underlying t with
  | some .string => true
  | _ => false
theorem isStringT_ok {P : Program} {t : TypeId} (h : isStringT P t = true) : P.underlying t = some .string := by
  unfold isStringT at h
  split at h
  · assumption
  · simp at h
def isBoolT (P : Program) (t : TypeId) : Bool := match P.underlying t with
  | some .bool => true
  | _ => false
theorem isBoolT_ok {P : Program} {t : TypeId} (h : isBoolT P t = true) : P.underlying t = some .bool := by
  unfold isBoolT at h
  split at h
  · assumption
  · simp at h
def isPtrT (P : Program) (t : TypeId) : Bool := match P.underlying t with
  | some (.pointer _) => true
  | _ => false
theorem isPtrT_ok {P : Program} {t : TypeId} (h : isPtrT P t = true) : ∃ e, P.underlying t = some (.pointer e) := by
  unfold isPtrT at h
  split at h
  · exact ⟨_, by assumption⟩
  · simp at h
def intT (P : Program) (t : TypeId) (k : IntKind) : Bool := match P.underlying t with
  | some (.int k') => decide (k' = k)
  | _ => false
theorem intT_ok {P : Program} {t : TypeId} {k : IntKind} (h : intT P t k = true) : P.underlying t = some (.int k) := by
  unfold intT at h
  split at h
  · rename_i k' hk; rw [hk, of_decide_eq_true h]
  · simp at h
def elemT (P : Program) (t : TypeId) : Option TypeId := match P.underlying t with
  | some (.slice e) => some e
  | _ => none
theorem elemT_ok {P : Program} {t e : TypeId} (h : elemT P t = some e) : P.underlying t = some (.slice e) := by
  unfold elemT at h
  split at h
  · rename_i e' he; rw [he, Option.some.inj h]
  · simp at h
def arrT (P : Program) (t : TypeId) (n : Nat) : Option TypeId := match P.underlying t with
  | some (.array m e) => if m = n then some e else none
  | _ => none
theorem arrT_ok {P : Program} {t e : TypeId} {n : Nat} (h : arrT P t n = some e) : P.underlying t = some (.array n e) := by
  unfold arrT at h
  split at h
  · rename_i m e' he
    split at h
    · rename_i hm; rw [he, hm, Option.some.inj h]
    · simp at h
  · simp at h
def fieldT (P : Program) (t : TypeId) (f : Nat) : Option Field := match P.underlying t with
  | some (.struct fs) => fs[f]?
  | _ => none
theorem fieldT_ok {P : Program} {t : TypeId} {f : Nat} {fd : Field} (h : fieldT P t f = some fd) : ∃ fs, P.underlying t = some (.struct fs) ∧ fs[f]? = some fd := by
  unfold fieldT at h
  split at h
  · exact ⟨_, by assumption, h⟩
  · simp at h
def zeroT (P : Program) (t : TypeId) (zero : List AV) : Bool := match P.info? t with
  | some i => match i.zero with
    | some z => constsOk z.cells.toList zero
    | none => false
  | none => false
theorem zeroT_ok {P : Program} {t : TypeId} {zero : List AV} (h : zeroT P t zero = true) : ∃ i z, P.info? t = some i ∧ i.zero = some z ∧ constsOk z.cells.toList zero = true := by
  unfold zeroT at h
  split at h
  · rename_i i hi
    split at h
    · rename_i z hz; exact ⟨i, z, hi, hz, h⟩
    · simp at h
  · simp at h
/-- A type whose size is its zero value's. -/
def fullT (P : Program) (t : TypeId) (zero : List AV) (es n : Nat) : Bool := match P.info? t with
  | some i => match i.zero with
    | some z => constsOk z.cells.toList zero && i.size == es && z.cells.size == es && decide (i.bytes ≤ 268435456) && decide (n * es ≤ 2 ^ 24)
    | none => false
  | none => false
theorem fullT_ok {P : Program} {t : TypeId} {zero : List AV} {es n : Nat} (h : fullT P t zero es n = true) : ∃ i z, P.info? t = some i ∧ i.zero = some z ∧ constsOk z.cells.toList zero = true ∧ i.size = es ∧ z.cells.size = es ∧ i.bytes ≤ 268435456 ∧ n * es ≤ 2 ^ 24 := by
  unfold fullT at h
  split at h
  · rename_i i hi
    split at h
    · rename_i z hz
      simp only [Bool.and_eq_true, beq_iff_eq, decide_eq_true_eq] at h
      exact ⟨i, z, hi, hz, h.1.1.1.1, h.1.1.1.2, h.1.1.2, h.1.2, h.2⟩
    · simp at h
  · simp at h
def buildT (P : Program) (t : TypeId) (parts : Array (Nat × Operand)) (aps : List (Nat × Nat × AO)) : Bool := match P.underlying t with
  | some (.struct fs) => match structPlaces P fs with
    | some places => okParts (fun i => places.toArray[i]?) parts.toList aps
    | none => false
  | some (.array _ el) => match P.info? el with
    | some i => okParts (fun j => some (j * i.size, i.size)) parts.toList aps
    | none => false
  | _ => false
theorem buildT_ok {P : Program} {t : TypeId} {parts : Array (Nat × Operand)} {aps : List (Nat × Nat × AO)} (h : buildT P t parts aps = true) :
    ∃ place, ((∃ fs places, P.underlying t = some (.struct fs) ∧ structPlaces P fs = some places ∧ place = fun i => places.toArray[i]?) ∨ ∃ n el s, P.underlying t = some (.array n el) ∧ TySize P el s ∧ place = fun i => some (i * s, s)) ∧ okParts place parts.toList aps = true := by
  unfold buildT at h
  split at h
  · rename_i fs hfs
    split at h
    · rename_i places hp; exact ⟨_, .inl ⟨fs, places, hfs, hp, rfl⟩, h⟩
    · simp at h
  · rename_i n el ht
    split at h
    · rename_i i hi; exact ⟨_, .inr ⟨n, el, i.size, ht, ⟨i, hi, rfl⟩, rfl⟩, h⟩
    · simp at h
  · simp at h
def allOne (z : Value) : Bool := z.cells.toList.all fun y => y.oneCell'
def appT (P : Program) (t u : TypeId) (es bytes : Nat) : Bool := match P.underlying t with
  | some (.slice e) => (match P.underlying u with
    | some (.slice e') => decide (e' = e)
    | some .string => true
    | _ => false) && match P.info? e with
    | some i => match i.zero with
      | some z => i.size == es && z.cells.size == es && decide (0 < es) && allOne z && i.bytes == bytes
      | none => false
    | none => false
  | _ => false
theorem appT_ok {P : Program} {t u : TypeId} {es bytes : Nat} (h : appT P t u es bytes = true) : ∃ e i z, P.underlying t = some (.slice e) ∧ (P.underlying u = some (.slice e) ∨ P.underlying u = some .string) ∧ P.info? e = some i ∧ i.zero = some z ∧ i.size = es ∧ z.cells.size = es ∧ 0 < es ∧ (∀ y ∈ z.cells.toList, y.oneCell' = true) ∧ i.bytes = bytes := by
  unfold appT at h
  split at h
  · rename_i e he
    simp only [Bool.and_eq_true] at h
    obtain ⟨h1, h2⟩ := h
    have hu : P.underlying u = some (.slice e) ∨ P.underlying u = some .string := by
      split at h1
      · rename_i e' he'; rw [of_decide_eq_true h1] at he'; exact .inl he'
      · exact .inr (by assumption)
      · simp at h1
    split at h2
    · rename_i i hi
      split at h2
      · rename_i z hz
        simp only [Bool.and_eq_true, beq_iff_eq, decide_eq_true_eq, allOne, List.all_eq_true] at h2
        exact ⟨e, i, z, he, hu, hi, hz, h2.1.1.1.1, h2.1.1.1.2, h2.1.1.2, h2.1.2, h2.2⟩
      · simp at h2
    · simp at h2
  · simp at h

/-- The test, for all but calls of functions. -/
def okP (P : Program) (o : Op) (op : AOp) : Bool :=
  match op with
  | .mov x => match o with
    | .move y => okO y x
    | .assign y => okO y x
    | _ => false
  | .nilck x => match o with
    | .nilCheck y => okO y x
    | _ => false
  | .pick c x y => match o with
    | .pick c' x' y' => okO c' c && okO x' x && okO y' y
    | _ => false
  | .alloc zero => match o with
    | .alloc t => zeroT P t zero
    | _ => false
  | .box x => match o with
    | .box _ y => okO y x
    | _ => false
  | .newtok _ => match o with
    | .assign (.const (.slice none 0 0)) => true
    | _ => false
  | .build zero aps => match o with
    | .build t parts => zeroT P t zero && buildT P t parts aps
    | _ => false
  | .lit n zero aps => match o with
    | .buildSlice t m parts => match elemT P t with
      | some el => decide (m = n) && fullT P el zero zero.length n && okParts (fun i => some (i * zero.length, zero.length)) parts.toList aps
      | none => false
    | _ => false
  | .load s ag x => match o with
    | .load t y => szB P t s && agB P t ag s && okO y x
    | _ => false
  | .loadI s ag x => match o with
    | .load t y => szB P t s && agB P t ag s && okO y x
    | _ => false
  | .store s x v => match o with
    | .store t y u => szB P t s && okO y x && okO u v
    | _ => false
  | .bin op x y => match o with
    | .binOp op' _ x' y' _ => decide (op' = op) && okO x' x && okO y' y
    | _ => false
  | .beq ne x y => match o with
    | .binOp op' t x' y' _ => decide (op' = if ne then .neq else .eql) && isBoolT P t && okO x' x && okO y' y
    | _ => false
  | .peq ne x => match o with
    | .binOp op' t x' (.const (.pointer none)) _ => decide (op' = if ne then .neq else .eql) && isPtrT P t && okO x' x
    | _ => false
  | .un op x => match o with
    | .unOp op' _ x' => decide (op' = op) && okO x' x
    | _ => false
  | .conv k x => match o with
    | .convert s d y => (P.underlying s).isSome && intT P d k && okO y x
    | _ => false
  | .s2b x => match o with
    | .convert s d y => match elemT P d with
      | some el => (P.underlying s).isSome && intT P el .u8 && okO y x
      | none => false
    | _ => false
  | .b2s x => match o with
    | .convert s d y => match elemT P s with
      | some el => isStringT P d && intT P el .u8 && okO y x
      | none => false
    | _ => false
  | .mkarr es zero x => match o with
    | .makeSlice t y z => match elemT P t with
      | some el => fullT P el zero zero.length 0 && okO y x && okO z x
      | none => false
    | _ => false
  | .slice es x lo hi => match o with
    | .slice t y lo' hi' none => (if es = 0 then isStringT P t else match elemT P t with
      | some el => szB P el es
      | none => false) && okO y x && okOO lo' lo && okOO hi' hi
    | _ => false
  | .faddr off x => match o with
    | .fieldAddr t y f => match fieldT P t f with
      | some fd => fd.offset == off && (match P.info? fd.type with
        | some i => decide (i.size ≠ 0)
        | none => false) && okO y x
      | none => false
    | _ => false
  | .field off s ag x => match o with
    | .field t y f => match fieldT P t f with
      | some fd => fd.offset == off && szB P fd.type s && agB P fd.type ag s && okO y x
      | none => false
    | _ => false
  | .iaddrA len es x i => match o with
    | .indexAddr t y j => match arrT P t len with
      | some el => szB P el es && okO y x && okO j i
      | none => false
    | _ => false
  | .iaddr es x i => match o with
    | .indexAddr t y j => match elemT P t with
      | some el => szB P el es && okO y x && okO j i
      | none => false
    | _ => false
  | .idxA len es ag x i => match o with
    | .index t y j => match arrT P t len with
      | some el => szB P el es && agB P el ag es && okO y x && okO j i
      | none => false
    | _ => false
  | .idxS x i => match o with
    | .index t y j => isStringT P t && okO y x && okO j i
    | _ => false
  | .extr x i => match o with
    | .extract y j => okO y x && j == i
    | _ => false
  | .len str x => match o with
    | .call ⟨.builtin .len, ⟨[y]⟩, ⟨[t]⟩⟩ => (if str then isStringT P t else (elemT P t).isSome) && okO y x
    | _ => false
  | .mx l => match o with
    | .call ⟨.builtin .max, args, _⟩ => okOs args.toList l
    | _ => false
  | .mn l => match o with
    | .call ⟨.builtin .min, args, _⟩ => okOs args.toList l
    | _ => false
  | .append es bytes s x => match o with
    | .call ⟨.builtin .append, ⟨[y, z]⟩, ⟨[t, u]⟩⟩ => appT P t u es bytes && okO y s && okO z x
    | _ => false
  | .mkfn f cap => match o with
    | .makeFunc (.func g) ⟨[]⟩ caps => f == g && okOs caps.toList cap
    | _ => false
  | .idxB x c => match o with
    | .call ⟨.value (.func f), ⟨[y, z]⟩, _⟩ => isIdxB P f && okO y x && okO z c
    | _ => false
  | _ => false
section
variable {P : Program} {I : Imm} {G : List Gh} {H : List Box} {w : World} {a : Act}
theorem pure3_some {H : List Box} {x : Option AV} {r : An} (h : pure3 H x = some r) : ∃ v, x = some v ∧ r = ⟨v, H, false, false⟩ := by
  unfold pure3 at h
  obtain ⟨v, hv, h⟩ := Option.bind_eq_some_iff.1 h
  exact ⟨v, hv, (Option.some.inj h).symm⟩
theorem an_inj {v v' : AV} {H H' : List Box} {a a' b b' : Bool} (h : some (⟨v, H, a, b⟩ : An) = some ⟨v', H', a', b'⟩) : v = v' ∧ H = H' ∧ a = a' ∧ b = b' := by
  have := Option.some.inj h
  exact ⟨congrArg An.v this, congrArg An.H this, congrArg An.esc this, congrArg An.wr this⟩
set_option maxHeartbeats 1600000 in
theorem stepP_sound {o : Oper} {op : AOp} {e : AO → AV} {base : Nat} {r : An} (hok : okP P o.op op = true) (h : Rel I G H w) (he : ∀ x y, okO x y = true → CR I G (e y) (a.eval x)) (hs : stepP op e H base = some r) : Sound P I G H w a o r.v r.H := by
  generalize ho : o.op = oo at hok
  cases op with
  | mov x =>
    simp only [okP] at hok
    simp only [stepP, Option.some.injEq] at hs
    subst hs
    split at hok
    · exact sound_mov h (.inl ho) (he _ _ hok)
    · exact sound_mov h (.inr ho) (he _ _ hok)
    · simp at hok
  | nilck x =>
    simp only [okP] at hok
    split at hok
    · have hx := he _ _ hok
      simp only [stepP] at hs
      split at hs <;> first | (cases hs; done) | (rename_i ex; rw [ex] at hx; obtain rfl := Option.some.inj hs)
      · exact sound_nilck h ho hx (.inl ⟨_, _, rfl⟩)
      · exact sound_nilck h ho hx (.inr (.inl ⟨_, rfl⟩))
      · exact sound_nilck h ho hx (.inr (.inr ⟨_, _, rfl⟩))
    · simp at hok
  | pick c x y =>
    simp only [okP] at hok
    split at hok
    · simp only [Bool.and_eq_true] at hok
      have hc := he _ _ hok.1.1
      have hx := he _ _ hok.1.2
      have hy := he _ _ hok.2
      simp only [stepP] at hs
      split at hs
      · rename_i t ec
        rw [ec] at hc
        have := sound_pick (P := P) h ho hc hx hy
        cases t
        · obtain rfl := Option.some.inj hs; exact this
        · obtain rfl := Option.some.inj hs; exact this
      · simp at hs
    · simp at hok
  | alloc zero =>
    simp only [okP] at hok
    split at hok
    · obtain ⟨i, z, hi, hz, hc⟩ := zeroT_ok hok
      simp only [stepP, Option.some.injEq] at hs
      subst hs
      exact sound_alloc h ho hi hz hc
    · simp at hok
  | box x =>
    simp only [okP] at hok
    split at hok
    · simp only [stepP, Option.bind_eq_some_iff] at hs
      obtain ⟨cs, hc, hs⟩ := hs
      obtain rfl := Option.some.inj hs
      exact sound_box h ho (he _ _ hok) hc
    · simp at hok
  | newtok es =>
    simp only [okP] at hok
    split at hok
    · simp only [stepP, Option.some.injEq] at hs
      subst hs
      exact sound_newtok es h ho
    · simp at hok
  | build zero aps =>
    simp only [okP] at hok
    split at hok
    · simp only [Bool.and_eq_true] at hok
      obtain ⟨i, z, hi, hz, hc⟩ := zeroT_ok hok.1
      obtain ⟨place, hp, hop⟩ := buildT_ok hok.2
      simp only [stepP] at hs
      obtain ⟨v, hv, rfl⟩ := pure3_some hs
      obtain ⟨cs, hcs, hv⟩ := Option.bind_eq_some_iff.1 hv
      obtain rfl := Option.some.inj hv
      exact sound_build h ho he hi hz hc hp hop hcs
    · simp at hok
  | lit n zero aps =>
    simp only [okP] at hok
    split at hok
    · split at hok
      · rename_i el hel
        simp only [Bool.and_eq_true, decide_eq_true_eq] at hok
        obtain ⟨⟨rfl, hf⟩, hop⟩ := hok
        obtain ⟨i, z, hi, hz, hc, hsz, hzs, -, hn⟩ := fullT_ok hf
        simp only [stepP] at hs
        obtain ⟨v, hv, rfl⟩ := pure3_some hs
        obtain ⟨cs, hcs, hv⟩ := Option.bind_eq_some_iff.1 hv
        obtain rfl := Option.some.inj hv
        rw [← hsz] at hop hn
        exact sound_lit h ho (e := fun x => (e x).bare) (fun x y hxy => (he x y hxy).bare) (elemT_ok hel) hi hz (by rw [hzs, hsz]) hc hn hop hcs
      · simp at hok
    · simp at hok
  | load s ag x =>
    simp only [okP] at hok
    split at hok
    · simp only [Bool.and_eq_true] at hok
      have hx := he _ _ hok.2
      have hag := agB_ok hok.1.2
      simp only [stepP] at hs
      split at hs
      · rename_i b off ex
        rw [ex] at hx
        split at hs
        · rename_i cs hH
          obtain ⟨v, hv, rfl⟩ := pure3_some hs
          exact sound_load h ho (szB_ok hok.1.1) hag.1 hag.2 hx (.inl ⟨b, off, cs, rfl, hH, hv⟩)
        · simp at hs
      · rename_i cs ex
        rw [ex] at hx
        obtain ⟨v, hv, rfl⟩ := pure3_some hs
        exact sound_load h ho (szB_ok hok.1.1) hag.1 hag.2 hx (.inr ⟨cs, rfl, hv⟩)
      · simp at hs
    · simp at hok
  | loadI s ag x =>
    simp only [okP] at hok
    split at hok
    · simp only [Bool.and_eq_true] at hok
      have hx := he _ _ hok.2
      have hag := agB_ok hok.1.2
      simp only [stepP] at hs
      split at hs
      · rename_i cs ex
        rw [ex] at hx
        obtain ⟨v, hv, rfl⟩ := pure3_some hs
        exact sound_load h ho (szB_ok hok.1.1) hag.1 hag.2 hx (.inr ⟨cs, rfl, hv⟩)
      · simp at hs
    · simp at hok
  | store s x v =>
    simp only [okP] at hok
    split at hok
    · simp only [Bool.and_eq_true] at hok
      have hx := he _ _ hok.1.2
      have hv := he _ _ hok.2
      simp only [stepP] at hs
      split at hs
      · rename_i b off ex
        rw [ex] at hx
        split at hs
        · rename_i cs hH
          obtain ⟨vs, hvs, hs⟩ := Option.bind_eq_some_iff.1 hs
          split at hs
          · rename_i hl
            obtain rfl := Option.some.inj hs
            exact sound_store h ho (szB_ok hok.1.1) hx hv rfl hH hvs hl.1 hl.2
          · simp at hs
        · simp at hs
      · simp at hs
    · simp at hok
  | bin op x y =>
    simp only [okP] at hok
    split at hok
    · simp only [Bool.and_eq_true, decide_eq_true_eq] at hok
      obtain ⟨⟨rfl, hx⟩, hy⟩ := hok
      simp only [stepP] at hs
      obtain ⟨v, hv, rfl⟩ := pure3_some hs
      exact sound_bin h ho (he _ _ hx) (he _ _ hy) hv
    · simp at hok
  | beq ne x y =>
    simp only [okP] at hok
    split at hok
    · simp only [Bool.and_eq_true, decide_eq_true_eq] at hok
      obtain ⟨⟨⟨rfl, ht⟩, hx⟩, hy⟩ := hok
      have hx := he _ _ hx
      have hy := he _ _ hy
      simp only [stepP] at hs
      split at hs
      · rename_i b c eb ec
        rw [eb] at hx
        rw [ec] at hy
        obtain rfl := Option.some.inj hs
        exact sound_beq h ho (isBoolT_ok ht) hx hy
      · simp at hs
    · simp at hok
  | peq ne x =>
    simp only [okP] at hok
    split at hok
    · simp only [Bool.and_eq_true, decide_eq_true_eq] at hok
      obtain ⟨⟨rfl, ht⟩, hx⟩ := hok
      obtain ⟨e', ht⟩ := isPtrT_ok ht
      simp only [stepP, Option.bind_eq_some_iff] at hs
      obtain ⟨b, hb, hs⟩ := hs
      obtain rfl := Option.some.inj hs
      exact sound_peq h ho ht (he _ _ hx) hb
    · simp at hok
  | un op x =>
    simp only [okP] at hok
    split at hok
    · simp only [Bool.and_eq_true, decide_eq_true_eq] at hok
      obtain ⟨rfl, hx⟩ := hok
      simp only [stepP] at hs
      obtain ⟨v, hv, rfl⟩ := pure3_some hs
      exact sound_un h ho (he _ _ hx) hv
    · simp at hok
  | conv k x =>
    simp only [okP] at hok
    split at hok
    · simp only [Bool.and_eq_true] at hok
      have hx := he _ _ hok.2
      obtain ⟨u, hu⟩ := Option.isSome_iff_exists.1 hok.1.1
      simp only [stepP] at hs
      split at hs
      · rename_i n ex
        rw [ex] at hx
        obtain rfl := Option.some.inj hs
        exact sound_conv h ho hu (intT_ok hok.1.2) hx
      · simp at hs
    · simp at hok
  | s2b x =>
    simp only [okP] at hok
    split at hok
    · split at hok
      · rename_i el hel
        simp only [Bool.and_eq_true] at hok
        have hx := he _ _ hok.2
        obtain ⟨u, hu⟩ := Option.isSome_iff_exists.1 hok.1.1
        simp only [stepP] at hs
        split at hs
        · rename_i s ex
          rw [ex] at hx
          obtain rfl := Option.some.inj hs
          exact sound_s2b h ho hu (elemT_ok hel) (intT_ok hok.1.2) hx
        · simp at hs
      · simp at hok
    · simp at hok
  | b2s x =>
    simp only [okP] at hok
    split at hok
    · split at hok
      · rename_i el hel
        simp only [Bool.and_eq_true] at hok
        have hx := he _ _ hok.2
        simp only [stepP] at hs
        split at hs
        · rename_i n cs tok ex
          rw [ex] at hx
          split at hs
          · rename_i hl
            obtain ⟨v, hv, rfl⟩ := pure3_some hs
            obtain ⟨s, hs', hv⟩ := Option.bind_eq_some_iff.1 hv
            obtain rfl := Option.some.inj hv
            exact sound_b2s h ho (elemT_ok hel) (intT_ok hok.1.2) (isStringT_ok hok.1.1) hx (.inr ⟨n, cs, tok, rfl, hl, hs'⟩)
          · simp at hs
        · rename_i ex
          rw [ex] at hx
          obtain rfl := Option.some.inj hs
          exact sound_b2s h ho (elemT_ok hel) (intT_ok hok.1.2) (isStringT_ok hok.1.1) hx (.inl ⟨rfl, rfl⟩)
        · simp at hs
      · simp at hok
    · simp at hok
  | mkarr es zero x =>
    simp only [okP] at hok
    split at hok
    · split at hok
      · rename_i el hel
        simp only [Bool.and_eq_true] at hok
        obtain ⟨i, z, hi, hz, hc, hsz, hzs, hb, -⟩ := fullT_ok hok.1.1
        have hx := he _ _ hok.1.2
        have hy := he _ _ hok.2
        simp only [stepP] at hs
        split at hs
        · rename_i k n ex
          rw [ex] at hx hy
          split at hs
          · rename_i hn
            obtain rfl := Option.some.inj hs
            exact sound_mkarr h ho hx hy (elemT_ok hel) hi hz (by rw [hzs, hsz]) hc hb hn.1 hn.2
          · simp at hs
        · simp at hs
      · simp at hok
    · simp at hok
  | slice es x lo hi =>
    simp only [okP] at hok
    split at hok
    · simp only [Bool.and_eq_true] at hok
      obtain ⟨⟨⟨ht, hx⟩, hlo⟩, hhi⟩ := hok
      have hx := he _ _ hx
      simp only [stepP] at hs
      split at hs
      · rename_i e0
        rw [if_pos e0] at ht
        split at hs
        · rename_i s ex
          rw [ex] at hx
          obtain ⟨l, h1, hs⟩ := Option.bind_eq_some_iff.1 hs
          obtain ⟨m, h2, hs⟩ := Option.bind_eq_some_iff.1 hs
          split at hs
          · rename_i hlm
            obtain rfl := Option.some.inj hs
            exact sound_sliceS h ho he (isStringT_ok ht) hlo hhi hx h1 h2 hlm
          · simp at hs
        · simp at hs
      · rename_i e0
        rw [if_neg e0] at ht
        split at ht
        · rename_i el hel
          split at hs
          · rename_i n cs tok ex
            rw [ex] at hx
            obtain ⟨l, h1, hs⟩ := Option.bind_eq_some_iff.1 hs
            obtain ⟨m, h2, hs⟩ := Option.bind_eq_some_iff.1 hs
            split at hs
            · rename_i hlm
              obtain rfl := Option.some.inj hs
              exact sound_slice h ho he (elemT_ok hel) (szB_ok ht) hlo hhi hx h1 h2 hlm (.inl ⟨cs, tok, rfl, rfl⟩)
            · simp at hs
          · rename_i ex
            rw [ex] at hx
            obtain ⟨l, h1, hs⟩ := Option.bind_eq_some_iff.1 hs
            obtain ⟨m, h2, hs⟩ := Option.bind_eq_some_iff.1 hs
            split at hs
            · rename_i hlm
              obtain rfl := Option.some.inj hs
              exact sound_slice h ho he (elemT_ok hel) (szB_ok ht) hlo hhi hx h1 h2 (by omega) (.inr (.inl ⟨rfl, rfl, rfl⟩))
            · simp at hs
          · rename_i b off n ex
            rw [ex] at hx
            obtain ⟨l, h1, hs⟩ := Option.bind_eq_some_iff.1 hs
            obtain ⟨m, h2, hs⟩ := Option.bind_eq_some_iff.1 hs
            split at hs
            · rename_i hlm
              split at hs
              · rename_i hml
                obtain rfl := Option.some.inj hs
                exact sound_slice h ho he (elemT_ok hel) (szB_ok ht) hlo hhi hx h1 h2 hlm (.inr (.inr ⟨b, off, rfl, .inl ⟨hml, rfl⟩⟩))
              · rename_i hml
                obtain rfl := Option.some.inj hs
                exact sound_slice h ho he (elemT_ok hel) (szB_ok ht) hlo hhi hx h1 h2 hlm (.inr (.inr ⟨b, off, rfl, .inr ⟨hml, rfl⟩⟩))
            · simp at hs
          · simp at hs
        · simp at ht
    · simp at hok
  | faddr off x =>
    simp only [okP] at hok
    split at hok
    · split at hok
      · rename_i fd hfd
        simp only [Bool.and_eq_true, beq_iff_eq] at hok
        obtain ⟨⟨hoff, hsz⟩, hx⟩ := hok
        obtain ⟨fs, hu, hf⟩ := fieldT_ok hfd
        split at hsz
        · rename_i i hi
          have hx := he _ _ hx
          simp only [stepP] at hs
          split at hs
          · rename_i b o' ex
            rw [ex] at hx
            obtain rfl := Option.some.inj hs
            exact sound_faddr h ho hu hf hoff ⟨i, hi, rfl⟩ (of_decide_eq_true hsz) hx (.inl ⟨b, o', rfl, rfl⟩)
          · rename_i cs ex
            rw [ex] at hx
            obtain rfl := Option.some.inj hs
            exact sound_faddr h ho hu hf hoff ⟨i, hi, rfl⟩ (of_decide_eq_true hsz) hx (.inr ⟨cs, rfl, rfl⟩)
          · simp at hs
        · simp at hsz
      · simp at hok
    · simp at hok
  | field off s ag x =>
    simp only [okP] at hok
    split at hok
    · split at hok
      · rename_i fd hfd
        simp only [Bool.and_eq_true, beq_iff_eq] at hok
        obtain ⟨⟨⟨hoff, hsz⟩, hag⟩, hx⟩ := hok
        obtain ⟨fs, hu, hf⟩ := fieldT_ok hfd
        have hx := he _ _ hx
        have hag := agB_ok hag
        simp only [stepP] at hs
        split at hs
        · rename_i cs ex
          rw [ex] at hx
          obtain ⟨v, hv, rfl⟩ := pure3_some hs
          exact sound_field h ho hu hf hoff (szB_ok hsz) hag.1 hag.2 hx hv
        · simp at hs
      · simp at hok
    · simp at hok
  | iaddrA len es x i =>
    simp only [okP] at hok
    split at hok
    · split at hok
      · rename_i el hel
        simp only [Bool.and_eq_true] at hok
        have hx := he _ _ hok.1.2
        have hy := he _ _ hok.2
        simp only [stepP] at hs
        split at hs
        · rename_i k n ei
          rw [ei] at hy
          split at hs
          · rename_i hin
            split at hs
            · rename_i b o' ex
              rw [ex] at hx
              obtain rfl := Option.some.inj hs
              exact sound_iaddrA h ho (arrT_ok hel) (szB_ok hok.1.1) hx hy hin (.inl ⟨b, o', rfl, rfl⟩)
            · rename_i cs ex
              rw [ex] at hx
              obtain rfl := Option.some.inj hs
              exact sound_iaddrA h ho (arrT_ok hel) (szB_ok hok.1.1) hx hy hin (.inr ⟨cs, rfl, rfl⟩)
            · simp at hs
          · simp at hs
        · simp at hs
      · simp at hok
    · simp at hok
  | iaddr es x i =>
    simp only [okP] at hok
    split at hok
    · split at hok
      · rename_i el hel
        simp only [Bool.and_eq_true] at hok
        have hx := he _ _ hok.1.2
        have hy := he _ _ hok.2
        simp only [stepP] at hs
        split at hs
        · rename_i k n ei
          rw [ei] at hy
          split at hs
          · rename_i m cs tok ex
            rw [ex] at hx
            split at hs
            · rename_i hin
              simp only [Bool.and_eq_true, decide_eq_true_eq] at hin
              obtain rfl := Option.some.inj hs
              exact sound_iaddr h ho (elemT_ok hel) (szB_ok hok.1.1) hx hy (.inl ⟨m, cs, tok, rfl, hin.1, hin.2, rfl⟩)
            · simp at hs
          · rename_i b o' m ex
            rw [ex] at hx
            split at hs
            · rename_i hin
              obtain rfl := Option.some.inj hs
              exact sound_iaddr h ho (elemT_ok hel) (szB_ok hok.1.1) hx hy (.inr ⟨b, o', m, rfl, hin, rfl⟩)
            · simp at hs
          · simp at hs
        · simp at hs
      · simp at hok
    · simp at hok
  | idxA len es ag x i =>
    simp only [okP] at hok
    split at hok
    · split at hok
      · rename_i el hel
        simp only [Bool.and_eq_true] at hok
        have hx := he _ _ hok.1.2
        have hy := he _ _ hok.2
        have hag := agB_ok hok.1.1.2
        simp only [stepP] at hs
        split at hs
        · rename_i k n ei
          rw [ei] at hy
          split at hs
          · rename_i hin
            split at hs
            · rename_i cs ex
              rw [ex] at hx
              obtain ⟨v, hv, rfl⟩ := pure3_some hs
              exact sound_idxA h ho (arrT_ok hel) (szB_ok hok.1.1.1) hag.1 hag.2 hx hy hin hv
            · simp at hs
          · simp at hs
        · simp at hs
      · simp at hok
    · simp at hok
  | idxS x i =>
    simp only [okP] at hok
    split at hok
    · simp only [Bool.and_eq_true] at hok
      have hx := he _ _ hok.1.2
      have hy := he _ _ hok.2
      simp only [stepP] at hs
      split at hs
      · rename_i s k n ex ei
        rw [ex] at hx
        rw [ei] at hy
        split at hs
        · rename_i h0
          obtain ⟨v, hv, rfl⟩ := pure3_some hs
          obtain ⟨b, hb, hv⟩ := Option.bind_eq_some_iff.1 hv
          obtain rfl := Option.some.inj hv
          exact sound_idxS h ho (isStringT_ok hok.1.1) hx hy h0 hb
        · simp at hs
      · simp at hs
    · simp at hok
  | extr x i =>
    simp only [okP] at hok
    split at hok
    · simp only [Bool.and_eq_true, beq_iff_eq] at hok
      obtain ⟨hx, rfl⟩ := hok
      have hx := he _ _ hx
      simp only [stepP] at hs
      split at hs
      · rename_i vs ex
        rw [ex] at hx
        obtain ⟨v, hv, rfl⟩ := pure3_some hs
        exact sound_extr h ho hx hv
      · simp at hs
    · simp at hok
  | len str x =>
    simp only [okP] at hok
    split at hok
    · rename_i y t
      simp only [Bool.and_eq_true] at hok
      have hx := he _ _ hok.2
      simp only [stepP] at hs
      split at hs
      · rename_i hst
        obtain ⟨v, hv, rfl⟩ := pure3_some hs
        obtain ⟨n, hn, hv⟩ := Option.bind_eq_some_iff.1 hv
        obtain rfl := Option.some.inj hv
        cases str with
        | true =>
          have ht := isStringT_ok (by simpa using hok.1)
          refine sound_len h ho (.inl ht) hx ⟨fun _ => ht, fun _ => ?_⟩ hn
          unfold isStr at hst
          split at hst
          · exact ⟨_, by assumption⟩
          · simp at hst
        | false =>
          obtain ⟨el, hel⟩ := Option.isSome_iff_exists.1 (show (elemT P t).isSome = true by simpa using hok.1)
          have ht := elemT_ok hel
          refine sound_len h ho (.inr ⟨el, ht⟩) hx ⟨fun ⟨s, hs⟩ => ?_, fun h' => ?_⟩ hn
          · rw [hs] at hst; simp [isStr] at hst
          · rw [ht] at h'; simp at h'
      · simp at hs
    · simp at hok
  | mx l =>
    simp only [okP] at hok
    split at hok
    · simp only [stepP] at hs
      obtain ⟨v, hv, rfl⟩ := pure3_some hs
      exact sound_max h ho he hok hv
    · simp at hok
  | mn l =>
    simp only [okP] at hok
    split at hok
    · simp only [stepP] at hs
      obtain ⟨v, hv, rfl⟩ := pure3_some hs
      exact sound_min h ho he hok hv
    · simp at hok
  | append es bytes s x =>
    simp only [okP] at hok
    split at hok
    · simp only [Bool.and_eq_true] at hok
      obtain ⟨⟨ht, hy⟩, hx⟩ := hok
      obtain ⟨e', i, z, h1, h2, h3, h4, h5, h6, h7, h8, rfl⟩ := appT_ok ht
      have hy := he _ _ hy
      have hx := he _ _ hx
      simp only [stepP] at hs
      obtain ⟨⟨m, xs⟩, hsrc, hs⟩ := Option.bind_eq_some_iff.1 hs
      split at hs
      · rename_i n cs t' es'
        rw [es'] at hy
        split at hs
        · rename_i n' es2 hH
          split at hs
          · rename_i hc
            obtain ⟨rfl, rfl, hcs, hb⟩ := hc
            obtain rfl := Option.some.inj hs
            exact sound_append h ho h1 h2 h3 h4 h5 h6 h7 h8 hy hx hsrc (.inl ⟨_, cs, t', rfl, hH, hcs, hb, rfl, rfl⟩)
          · simp at hs
        · simp at hs
      · rename_i es'
        rw [es'] at hy
        split at hs
        · rename_i hb
          obtain rfl := Option.some.inj hs
          exact sound_append h ho h1 h2 h3 h4 h5 h6 h7 h8 hy hx hsrc (.inr ⟨rfl, hb, rfl, rfl⟩)
        · simp at hs
      · simp at hs
    · simp at hok
  | mkfn f cap =>
    simp only [okP] at hok
    split at hok
    · simp only [Bool.and_eq_true, beq_iff_eq] at hok
      obtain ⟨rfl, hc⟩ := hok
      simp only [stepP, Option.some.injEq] at hs
      subst hs
      exact sound_mkfn h ho (okOs_crt he hc)
    · simp at hok
  | idxB x c =>
    simp only [okP] at hok
    split at hok
    · simp only [Bool.and_eq_true] at hok
      have hx := he _ _ hok.1.2
      have hy := he _ _ hok.2
      simp only [stepP] at hs
      split at hs
      · rename_i s n ex ec
        rw [ex] at hx
        rw [ec] at hy
        obtain rfl := Option.some.inj hs
        exact sound_idxB h ho hok.1.1 hx hy
      · simp at hs
    · simp at hok
  | eqs ne x y => simp [okP] at hok
  | callC f args => simp [okP] at hok
  | callR f args => simp [okP] at hok
  | callS f args => simp [okP] at hok
  | callVC f args => simp [okP] at hok
  | callVR f args => simp [okP] at hok
  | callVS f args => simp [okP] at hok
end
end Go.Proofs.Ytncnpgakflmibaa.Ai
