/- Code and functions: what the interpreter answers, the program does. -/
import Derived.Test.YtncnpgakflmibaaAi14
import Derived.LoopN
set_option linter.unusedSimpArgs false
set_option linter.unusedVariables false
set_option linter.unusedSectionVars false
namespace Go.Proofs.Ytncnpgakflmibaa.Ai
open Go.RowKit

def okCode (P : Program) (N : Nat) : Code → ACode → Bool
  | .skip, c => match c with
    | .skip => true
    | _ => false
  | .region _ ops draw, c => match c with
    | .ops l d _ => d == draw && if draw then okDraw P N ops l else match okItems P N ops none [] l ops.toList with
      | some [] => true
      | _ => false
    | _ => false
  | .seq x y, c => match c with
    | .seq x' y' => okCode P N x x' && okCode P N y y'
    | _ => false
  | .cond o x y, c => match c with
    | .cond o' x' y' => okO o o' && okCode P N x x' && okCode P N y y'
    | _ => false
  | .block i x, c => match c with
    | .block i' _ x' => i == i' && okCode P N x x'
    | _ => false
  | .loop x, c => match c with
    | .loop _ x' => okCode P N x x'
    | _ => false
  | .exit i, c => match c with
    | .exit i' => i == i'
    | _ => false
  | .ret, c => match c with
    | .ret => true
    | _ => false
  | _, _ => false
def okRes (P : Program) : List ResultVar → List ARes → Bool
  | [], [] => true
  | .tmp t :: rs, .tmp t' :: as => t == t' && okRes P rs as
  | .cell t ty :: rs, .cell t' s ag :: as => t == t' && szB P ty s && agB P ty ag s && okRes P rs as
  | _, _ => false
def okFun (P : Program) (f : Nat) (af : AFun) : Bool := match P.funcs[f]? with
  | some fn => match fn.body with
    | some c => !(fn.name == "runtime.NumGoroutine") && okCode P fn.ntmps c af.body && okRes P fn.results.toList af.res
    | none => false
  | none => false
def conv : Ex → Exit
  | .nrm => .normal
  | .exit i => .exit i
  | .ret => .ret

/-! ### Boxes let go -/
section
variable {I I' : Imm} {G G' : List Gh} {H H' : List Box} {w w' : World}
theorem Nx.take (h : Nx I G H w I' G' H' w') {n : Nat} (hn : H.length ≤ n) (hord : ∀ (i : Nat) bx, i < n → H'[i]? = some bx → under n bx.names = true) (hl : G.length = H.length) : Nx I G H w I' (G'.take n) (H'.take n) w' := by
  refine ⟨⟨h.ext.1, fun i g hg => ?_⟩, h.rel.take n hord, ⟨h.tr.os, h.tr.tape, h.tr.output, h.tr.size, h.tr.keep, fun k ho => h.tr.own k ho.take⟩, h.fr⟩
  obtain ⟨g', hg', hle⟩ := h.ext.2 i g hg
  have hi : i < G.length := (List.getElem?_eq_some_iff.1 hg).1
  exact ⟨g', by rw [List.getElem?_take_of_lt (by omega)]; exact hg', hle⟩
theorem Ord.under {base n i : Nat} {bx : Box} {H : List Box} (h : Ord base H) (hb : base ≤ n) (hi : i < n) (hx : H[i]? = some bx) : under n bx.names = true :=
  under_iff.2 fun c hc => by have := under_iff.1 (h i bx hx) c hc; omega
theorem mem_frNames {fr : Fr} {t b : Nat} (h : b ∈ (fget fr t).names) : b ∈ frNames fr := by
  induction fr with
  | nil => simp [fget, AV.names] at h
  | cons p fr ih =>
    simp only [fget] at h
    simp only [frNames, List.map_cons, List.flatten_cons, List.mem_append]
    split at h
    · exact .inl h
    · exact .inr (ih h)
end
section
variable {P : Program} {H0 : List Box} {N : Nat} {I : Imm} {G : List Gh} {w : World} {a : Act} {s : St}
theorem SR.clean (h : SR H0 N I G w a s) (live : List Nat) : SR H0 N I G w a { s with fr := clean live s.fr } := ⟨h.rel, h.fr.clean live, h.defers, h.size, ⟨h.inv.base, h.inv.le, h.inv.esc, h.inv.wr⟩⟩
/-- What is made since is let go. -/
theorem SR.trunc {I1 : Imm} {G1 : List Gh} {H1 : List Box} {w1 : World} (h : SR H0 N I G w a s) (hn : Nx I1 G1 H1 w1 I G s.H w) (hl : G1.length = H1.length) (h0 : H0.length ≤ H1.length) (live : List Nat) :
    ∃ G', Nx I1 G1 H1 w1 I G' (Ai.trunc H1.length live s).H w ∧ SR H0 N I G' w a (Ai.trunc H1.length live s) := by
  have cut : (∀ (i : Nat) bx, i < H1.length → s.H[i]? = some bx → under H1.length bx.names = true) → under H1.length (frNames (Ai.clean live s.fr)) = true →
      ∃ G', Nx I1 G1 H1 w1 I G' (s.H.take H1.length) w ∧ SR H0 N I G' w a { s with fr := Ai.clean live s.fr, H := s.H.take H1.length } := fun hord hu => by
    have hx := hn.take (Nat.le_refl _) hord hl
    refine ⟨G.take H1.length, hx, hx.rel, fun t => ?_, h.defers, h.size, ⟨h.inv.base, ?_, fun he i bx hi => ?_, fun hw i hi => ?_⟩⟩
    · exact (h.fr.clean live t).take (under_iff.2 fun b hb => under_iff.1 hu b (mem_frNames hb))
    · have := h.inv.le
      simp only [List.length_take]
      omega
    · dsimp only at hi
      rw [List.getElem?_take] at hi
      split at hi
      · exact h.inv.esc he i bx hi
      · simp at hi
    · dsimp only
      rw [List.getElem?_take_of_lt (by omega)]
      exact h.inv.wr hw i hi
  unfold Ai.trunc
  dsimp only
  split
  · rename_i hc
    split
    · rename_i hu
      exact cut (fun i bx hi hx => (h.inv.esc hc).under (by rw [h.inv.base]; exact h0) hi hx) hu
    · exact ⟨G, hn, h.clean live⟩
  · split
    · rename_i hc
      refine cut (fun i bx hi hx => ?_) hc.2
      have := hc.1
      unfold closedB at this
      rw [List.all_eq_true] at this
      exact this bx (List.mem_of_getElem? (i := i) (by rw [List.getElem?_take_of_lt hi]; exact hx))
    · exact ⟨G, hn, h.clean live⟩

/-! ### Results -/
theorem results_one {vs : List AV} {us : List Value} {v : AV} (hc : CRt I G vs us) (hv : retL vs = v) : CR I G v (if h : us.length = 1 then us[0] else .tuple us.toArray) := by
  subst hv
  cases hc with
  | nil => exact .tup .nil
  | cons h hs =>
    cases hs with
    | nil => exact h.bare
    | cons h2 hs2 => exact .tup (CRt.bareL (.cons h (.cons h2 hs2)))
def resVal (tmps : Array Value) : ResultVar → Sem Value
  | .tmp t => pure (tmps.getD t undef)
  | .cell b t => do loadVar t (← asAddr (tmps.getD b undef))
theorem results_eq (fn : Func) (tmps : Array Value) : results fn tmps = (do
    let vs ← fn.results.mapM (resVal tmps)
    pure (if h : vs.size = 1 then vs[0] else .tuple vs)) := by
  unfold results
  congr 1
theorem res_run (h : SR H0 N I G w a s) : ∀ {rs : List ResultVar} {as : List ARes} {vs : List AV}, okRes P rs as = true → optAll (as.map (resV s)) = some vs → ∃ us, (rs.mapM (resVal a.tmps)).run P w = .ok us w ∧ CRt I G vs us
  | [], [], vs, _, hv => by
    simp only [List.map_nil, optAll, Option.some.injEq] at hv
    subst hv
    exact ⟨[], by simp [List.mapM_nil], .nil⟩
  | .tmp t :: rs, .tmp t' :: as, vs, hok, hv => by
    simp only [okRes, Bool.and_eq_true, beq_iff_eq] at hok
    obtain ⟨rfl, hok⟩ := hok
    simp only [List.map_cons, resV, optAll, Option.map_eq_some_iff] at hv
    obtain ⟨vs', hv, rfl⟩ := hv
    obtain ⟨us, hr, hc⟩ := res_run h hok hv
    refine ⟨_ :: us, ?_, .cons (h.fr t) hc⟩
    rw [List.mapM_cons]
    simp only [Sem.run_bind, resVal, Sem.run_pure, Result.andThen_ok, hr]
  | .cell t ty :: rs, .cell t' sz ag :: as, vs, hok, hv => by
    simp only [okRes, Bool.and_eq_true, beq_iff_eq] at hok
    obtain ⟨⟨⟨rfl, hsz⟩, hag⟩, hok⟩ := hok
    have hsz := szB_ok hsz
    have hag := agB_ok hag
    simp only [List.map_cons, resV] at hv
    cases hg : fget s.fr t <;> rw [hg] at hv <;> simp only [optAll] at hv <;> try (simp at hv; done)
    rename_i b o
    have hx := h.fr t
    rw [hg] at hx
    cases hH : s.H[b]? with
    | none => rw [hH] at hv; simp [optAll] at hv
    | some bx =>
      rw [hH] at hv
      cases bx <;> simp only [optAll] at hv <;> try (simp at hv; done)
      rename_i cs
      cases hrd : rd sz ag (cs.drop o) with
      | none => rw [hrd] at hv; simp [optAll] at hv
      | some v =>
        rw [hrd] at hv
        simp only [optAll, Option.map_eq_some_iff] at hv
        obtain ⟨vs', hv, rfl⟩ := hv
        obtain ⟨us, hr, hc⟩ := res_run h hok hv
        obtain ⟨k, us0, t', hu, hgk, hh, hcs⟩ := (h.rel.cells hx).1 b o cs rfl hH
        obtain ⟨hl, hcr⟩ := rd_cells (hcs.drop o) hrd hag.2
        have hload := run_loadVar (P := P) (w := w) hsz hag.1 hag.2 (k := k) (o := o) hl (fun j y hj => by
          rw [cell_of_block hh]
          rw [List.getElem?_drop] at hj
          simpa using hj)
        refine ⟨_ :: us, ?_, .cons hcr hc⟩
        rw [List.mapM_cons]
        simp only [Sem.run_bind, resVal, hu, asAddr, Sem.run_pure, Result.andThen_ok, hload, hr]
  | [], _ :: _, vs, hok, _ => by simp [okRes] at hok
  | .tmp _ :: _, [], vs, hok, _ => by simp [okRes] at hok
  | .cell _ _ :: _, [], vs, hok, _ => by simp [okRes] at hok
  | .tmp _ :: _, .cell _ _ _ :: _, vs, hok, _ => by simp [okRes] at hok
  | .cell _ _ :: _, .tmp _ :: _, vs, hok, _ => by simp [okRes] at hok
theorem results_run {fn : Func} {as : List ARes} {vs : List AV} (h : SR H0 N I G w a s) (hok : okRes P fn.results.toList as = true) (hv : optAll (as.map (resV s)) = some vs) : ∃ u, (results fn a.tmps).run P w = .ok u w ∧ CR I G (retL vs) u := by
  obtain ⟨us, hr, hc⟩ := res_run h hok hv
  refine ⟨_, ?_, results_one hc rfl⟩
  rw [results_eq, Sem.run_bind, Array.mapM_eq_mapM_toList]
  simp [hr]
end

/-! ### Code -/
section
variable {P : Program} {env : Nat → Option AFun}
def CodeOk (P : Program) (env : Nat → Option AFun) (k : Nat) : Prop := ∀ (N : Nat) (c : Code) (ac : ACode) (s : St) (e : Ex) (s' : St), exec env k ac s = some (e, s') → okCode P N c ac = true → ∀ (H0 : List Box) (I : Imm) (G : List Gh) (w : World) (a : Act) (Q : Exit → Act → World → Prop), SR H0 N I G w a s →
  (∀ I' G' a' w', Nx I G s.H w I' G' s'.H w' → SR H0 N I' G' w' a' s' → Q (conv e) a' w') → c.wp P Q a w
def RoundsOk (P : Program) (env : Nat → Option AFun) (k : Nat) : Prop := ∀ (N : Nat) (c : Code) (live : List Nat) (ac : ACode) (s : St) (e : Ex) (s' : St), exec env k (.loop live ac) s = some (e, s') → okCode P N c ac = true → ∀ (H0 : List Box) (I : Imm) (G : List Gh) (w : World) (a : Act) (Q : Exit → Act → World → Prop), SR H0 N I G w a s →
  (∀ I' G' a' w', Nx I G s.H w I' G' s'.H w' → SR H0 N I' G' w' a' s' → Q (conv e) a' w') → Code.rounds P c Q k a w
theorem conv_then {e : Ex} {K : Act → World → Prop} {Q : Exit → Act → World → Prop} {a : Act} {w : World} (he : e ≠ .nrm) (h : Q (conv e) a w) : Exit.then K Q (conv e) a w := by
  cases e with
  | nrm => exact absurd rfl he
  | exit i => exact h
  | ret => exact h
theorem thenDo_cases {x : Option (Ex × St)} {f : St → Option (Ex × St)} {r : Ex × St} (h : x.bind (thenDo f) = some r) : (∃ t, x = some (.nrm, t) ∧ f t = some r) ∨ (x = some r ∧ r.1 ≠ .nrm) := by
  obtain ⟨⟨e, t⟩, hx, h⟩ := Option.bind_eq_some_iff.1 h
  cases e with
  | nrm => exact .inl ⟨t, hx, h⟩
  | exit i =>
    simp only [thenDo, Option.some.injEq] at h
    subst h
    exact .inr ⟨hx, by simp⟩
  | ret =>
    simp only [thenDo, Option.some.injEq] at h
    subst h
    exact .inr ⟨hx, by simp⟩
theorem rounds_step {k : Nat} (hB : CodeOk P env k) (hR : RoundsOk P env k) : RoundsOk P env (k + 1) := by
  intro N c live ac s e s' hx hok H0 I G w a Q hs hQ
  rw [exec] at hx
  rw [rounds_succ]
  rcases thenDo_cases hx with ⟨t, h1, h2⟩ | ⟨h1, h2⟩
  · refine hB N c ac _ _ _ h1 hok H0 I G w a _ (hs.clean live) fun I1 G1 a1 w1 hn1 hs1 => ?_
    obtain ⟨G2, hn2, hs2⟩ := hs1.trunc hn1 hs.rel.len hs.inv.le live
    exact hR N c live ac _ _ _ h2 hok H0 I1 G2 w1 a1 Q hs2 fun I3 G3 a3 w3 hn3 hs3 => hQ I3 G3 a3 w3 (hn2.trans hn3) hs3
  · exact hB N c ac _ _ _ h1 hok H0 I G w a _ (hs.clean live) fun I1 G1 a1 w1 hn1 hs1 => conv_then h2 (hQ I1 G1 a1 w1 hn1 hs1)
theorem code_step {k : Nat} (hA : CallOk P (runFun (exec env k) env)) (hB : CodeOk P env k) (hR : RoundsOk P env (k + 1)) : CodeOk P env (k + 1) := by
  intro N c ac s e s' hx hok H0 I G w a Q hs hQ
  cases c with
  | skip =>
    simp only [okCode] at hok
    split at hok
    · rw [exec] at hx
      obtain ⟨rfl, rfl⟩ := Prod.mk.inj (Option.some.inj hx)
      exact wp_skip (hQ I G a w (Nx.refl hs.rel) hs)
    · simp at hok
  | region id ops draw =>
    simp only [okCode] at hok
    split at hok
    · rename_i l d live
      simp only [Bool.and_eq_true, beq_iff_eq] at hok
      obtain ⟨rfl, hok⟩ := hok
      rw [exec] at hx
      obtain ⟨t, ht, hx⟩ := Option.bind_eq_some_iff.1 hx
      obtain ⟨rfl, rfl⟩ := Prod.mk.inj (Option.some.inj hx)
      cases d with
      | true =>
        simp only [if_true] at hok
        exact draw_sound hA hok hs ht fun I' G' a' w' hn hs' => hQ I' G' a' w' hn (hs'.clean live)
      | false =>
        simp only [Bool.false_eq_true, if_false] at hok
        split at hok
        · rename_i hl
          exact wp_region_list (items_sound hA l hl ht hs (fun j b hj => by simp at hj) fun I' G' a' w' hn hs' _ => wpList_nil (hQ I' G' a' w' hn (hs'.clean live)))
        · simp at hok
    · simp at hok
  | seq x y =>
    simp only [okCode] at hok
    split at hok
    · simp only [Bool.and_eq_true] at hok
      rw [exec] at hx
      refine wp_seq ?_
      rcases thenDo_cases hx with ⟨t, h1, h2⟩ | ⟨h1, h2⟩
      · exact hB N x _ _ _ _ h1 hok.1 H0 I G w a _ hs fun I1 G1 a1 w1 hn1 hs1 => hB N y _ _ _ _ h2 hok.2 H0 I1 G1 w1 a1 Q hs1 fun I2 G2 a2 w2 hn2 hs2 => hQ I2 G2 a2 w2 (hn1.trans hn2) hs2
      · exact hB N x _ _ _ _ h1 hok.1 H0 I G w a _ hs fun I1 G1 a1 w1 hn1 hs1 => conv_then h2 (hQ I1 G1 a1 w1 hn1 hs1)
    · simp at hok
  | cond o x y =>
    simp only [okCode] at hok
    split at hok
    · simp only [Bool.and_eq_true] at hok
      obtain ⟨⟨ho, hx1⟩, hy1⟩ := hok
      rw [exec] at hx
      have hc := hs.fr.ev ho
      split at hx
      · rename_i t hev
        rw [hev] at hc
        have hv : a.eval o = .bool t := by generalize a.eval o = u at hc; cases hc; rfl
        refine wp_cond hv ?_
        cases t with
        | true => exact hB N x _ _ _ _ hx hx1 H0 I G w a Q hs hQ
        | false => exact hB N y _ _ _ _ hx hy1 H0 I G w a Q hs hQ
      · simp at hx
    · simp at hok
  | block i x =>
    simp only [okCode] at hok
    split at hok
    · simp only [Bool.and_eq_true, beq_iff_eq] at hok
      obtain ⟨rfl, hok⟩ := hok
      rw [exec] at hx
      obtain ⟨⟨e1, t⟩, h1, hx⟩ := Option.bind_eq_some_iff.1 hx
      refine wp_block (hB N x _ _ _ _ h1 hok H0 I G w a _ hs fun I1 G1 a1 w1 hn1 hs1 => ?_)
      cases e1 with
      | nrm =>
        obtain ⟨rfl, rfl⟩ := Prod.mk.inj (Option.some.inj hx)
        obtain ⟨G2, hn2, hs2⟩ := hs1.trunc hn1 hs.rel.len hs.inv.le _
        exact hQ I1 G2 a1 w1 hn2 hs2
      | exit j =>
        simp only [atBlock] at hx
        show if j = i then Q .normal a1 w1 else Q (.exit j) a1 w1
        split at hx
        · rename_i hj
          rw [if_pos hj]
          obtain ⟨rfl, rfl⟩ := Prod.mk.inj (Option.some.inj hx)
          obtain ⟨G2, hn2, hs2⟩ := hs1.trunc hn1 hs.rel.len hs.inv.le _
          exact hQ I1 G2 a1 w1 hn2 hs2
        · rename_i hj
          rw [if_neg hj]
          obtain ⟨rfl, rfl⟩ := Prod.mk.inj (Option.some.inj hx)
          exact hQ I1 G1 a1 w1 hn1 hs1
      | ret =>
        obtain ⟨rfl, rfl⟩ := Prod.mk.inj (Option.some.inj hx)
        exact hQ I1 G1 a1 w1 hn1 hs1
    · simp at hok
  | loop x =>
    simp only [okCode] at hok
    split at hok
    · exact wp_loop_rounds (k + 1) (hR N x _ _ _ _ _ hx hok H0 I G w a Q hs hQ)
    · simp at hok
  | exit i =>
    simp only [okCode] at hok
    split at hok
    · rw [exec] at hx
      simp only [beq_iff_eq] at hok
      subst hok
      obtain ⟨rfl, rfl⟩ := Prod.mk.inj (Option.some.inj hx)
      exact wp_exit (hQ I G a w (Nx.refl hs.rel) hs)
    · simp at hok
  | ret =>
    simp only [okCode] at hok
    split at hok
    · rw [exec] at hx
      obtain ⟨rfl, rfl⟩ := Prod.mk.inj (Option.some.inj hx)
      exact wp_ret (hQ I G a w (Nx.refl hs.rel) hs)
    · simp at hok
  | _ => simp [okCode] at hok
/-- Every function of the table is the program's. -/
def EnvOk (P : Program) (env : Nat → Option AFun) : Prop := ∀ f af, env f = some af → okFun P f af = true
theorem fget_args {I : Imm} {G : List Gh} : ∀ {vs : List AV} {us : List Value} (i t : Nat), CRt I G vs us → i ≤ t → CR I G (fget (argsFr i vs) t) ((us[t - i]?).getD undef)
  | [], _, i, t, .nil, _ => by simp only [argsFr, fget]; exact .unk _
  | v :: vs, _, i, t, .cons (u := u) (us := us) h hs, hle => by
    simp only [argsFr, fget]
    split
    · rename_i e
      subst e
      simpa using h
    · rename_i e
      have := fget_args (i + 1) t hs (by omega)
      have e2 : t - i = (t - (i + 1)) + 1 := by omega
      rw [e2]
      simpa using this
theorem call_step {k : Nat} (hE : EnvOk P env) (hB : CodeOk P env k) : CallOk P (runFun (exec env k) env) := by
  intro f args H r hr
  unfold runFun at hr
  obtain ⟨af, haf, hr⟩ := Option.bind_eq_some_iff.1 hr
  obtain ⟨⟨e, s'⟩, hx, hr⟩ := Option.bind_eq_some_iff.1 hr
  have hf := hE f af haf
  unfold okFun at hf
  split at hf
  · rename_i fn hfn
    split at hf
    · rename_i c hc
      simp only [Bool.and_eq_true, Bool.not_eq_true', beq_eq_false_iff_ne] at hf
      obtain ⟨⟨hname, hcode⟩, hres⟩ := hf
      have hname' : (fn.name == "runtime.NumGoroutine") = false := by simpa using hname
      refine ⟨fun us w => by simp [callFunc, hfn, hname, hc], fun I G w us h ha => calls_of_wp hfn hc (hB fn.ntmps c af.body _ _ _ hx hcode H I G w _ _ ⟨h, fun t => ?_, rfl, ?_, ⟨rfl, Nat.le_refl _, fun _ i bx hi => ?_, fun _ i _ => rfl⟩⟩ fun I' G' a' w' hn hs' => ?_)⟩
      · have := fget_args 0 t ha (Nat.zero_le _)
        rw [Nat.sub_zero] at this
        show CR I G (fget (argsFr 0 args) t) ((us.toArray ++ Array.replicate (fn.ntmps - us.toArray.size) undef).getD t undef)
        rw [Array.getD_eq_getD_getElem?, Array.getElem?_append]
        split
        · simpa using this
        · rename_i hlt
          rw [List.getElem?_eq_none (by simpa using hlt)] at this
          rw [Array.getElem?_replicate]
          split
          · exact this
          · exact this
      · simp only [Array.size_append, List.size_toArray, Array.size_replicate]
        omega
      · -- all names of the boxes handed in are theirs
        refine under_iff.2 fun b hb => ?_
        have hi' : i < G.length := by rw [h.len]; exact (List.getElem?_eq_some_iff.1 hi).1
        have hB := h.box i bx _ hi (List.getElem?_eq_getElem hi')
        have : b < G.length := by
          cases bx with
          | cells cs =>
            cases hg : G[i] with
            | tok f => rw [hg] at hB; exact hB.elim
            | blk kk =>
              rw [hg] at hB
              obtain ⟨us0, t, _, hc0, _⟩ := hB
              exact hc0.names_lt b hb
          | tok n es => simp [Box.names] at hb
          | dead => simp [Box.names] at hb
        rw [h.len] at this
        show b < max (i + 1) H.length
        omega
      · -- leaving
        have hleave : leave H.length af.res s' = some r ∧ (e = .nrm ∨ e = .ret) := by
          cases e with
          | nrm => exact ⟨hr, .inl rfl⟩
          | exit j => simp [atRet] at hr
          | ret => exact ⟨hr, .inr rfl⟩
        obtain ⟨hl, he⟩ := hleave
        unfold leave at hl
        obtain ⟨vs, hvs, hl⟩ := Option.bind_eq_some_iff.1 hl
        obtain ⟨u, hrun, hcr⟩ := results_run hs' hres hvs
        have fin : ∀ (R : Ending → World → Prop), R (.returned u) w' → bodyPost P fn R (conv e) a' w' := fun R hR => by
          rcases he with rfl | rfl
          · exact ⟨hs'.defers, u, hrun, hR⟩
          · exact ⟨hs'.defers, u, hrun, hR⟩
        refine fin _ ?_
        split at hl
        · rename_i hcnd
          obtain rfl := Option.some.inj hl
          have hord : ∀ (i : Nat) bx, i < H.length → s'.H[i]? = some bx → under H.length bx.names = true := fun i bx hi hx => (hs'.inv.esc hcnd.1).under (by rw [hs'.inv.base]; exact Nat.le_refl _) hi hx
          refine ⟨⟨?_, fun hw i hi => ?_⟩, u, I', G'.take H.length, rfl, hn.take (Nat.le_refl _) hord h.len, hcr.take hcnd.2⟩
          · have := hs'.inv.le
            simp only [List.length_take]
            omega
          · dsimp only
            rw [List.getElem?_take_of_lt hi]
            exact hs'.inv.wr hw i hi
        · obtain rfl := Option.some.inj hl
          exact ⟨⟨hs'.inv.le, fun hw i hi => hs'.inv.wr hw i hi⟩, u, I', G', rfl, hn, hcr⟩
    · simp at hf
  · simp at hf
theorem all_ok (hE : EnvOk P env) : ∀ k, CodeOk P env k ∧ RoundsOk P env k
  | 0 => ⟨fun N c ac s e s' hx => by simp [exec] at hx, fun N c live ac s e s' hx => by simp [exec] at hx⟩
  | k + 1 => by
    obtain ⟨hB, hR⟩ := all_ok hE k
    have hR' := rounds_step hB hR
    exact ⟨code_step (call_step hE hB) hB hR', hR'⟩
/-- What the interpreter answers at a call, the program does. -/
theorem Call_ok (hE : EnvOk P env) : CallOk P (Call env) := fun f args H r hr => by
  obtain ⟨k, hk⟩ := Call_call hr
  exact call_step hE (all_ok hE k).1 f args H r hk
end
end Go.Proofs.Ytncnpgakflmibaa.Ai
