/- Calls; and every operation: what it does, and what of the boxes it leaves alone. -/
import Derived.Test.YtncnpgakflmibaaAi11
set_option linter.unusedSimpArgs false
set_option linter.unusedVariables false
set_option linter.unusedSectionVars false
namespace Go.Proofs.Ytncnpgakflmibaa.Ai
open Go.RowKit

def Enters (P : Program) (f : Nat) : Prop := ∀ (us : Array Value) (w : World), (callFunc f us).run P w = .ok (.enter f us) w
def Comes (P : Program) (I : Imm) (G : List Gh) (H : List Box) (w : World) (f : Nat) (us : List Value) (v : AV) (H' : List Box) : Prop :=
  Calls P f us.toArray w fun e w' => ∃ u I' G', e = .returned u ∧ Nx I G H w I' G' H' w' ∧ CR I' G' v u
structure CallSpec (P : Program) (f : Nat) (args : List AV) (H : List Box) (r : An) : Prop where
  enters : Enters P f
  run : ∀ I G w us, Rel I G H w → CRt I G args us → Calls P f us.toArray w fun e w' => (H.length ≤ r.H.length ∧ (r.wr = false → ∀ i, i < H.length → r.H[i]? = H[i]?)) ∧ ∃ u I' G', e = .returned u ∧ Nx I G H w I' G' r.H w' ∧ CR I' G' r.v u
theorem CallSpec.comes {P : Program} {f : Nat} {args : List AV} {H : List Box} {r : An} (sp : CallSpec P f args H r) {I : Imm} {G : List Gh} {w : World} {us : List Value} (h : Rel I G H w) (ha : CRt I G args us) : Comes P I G H w f us r.v r.H :=
  Calls.mono (sp.run I G w us h ha) fun _ _ h => h.2
theorem CallSpec.told {P : Program} {f : Nat} {args : List AV} {H : List Box} {r : An} (sp : CallSpec P f args H r) {I : Imm} {G : List Gh} {w : World} {us : List Value} (h : Rel I G H w) (ha : CRt I G args us) : H.length ≤ r.H.length ∧ (r.wr = false → ∀ i, i < H.length → r.H[i]? = H[i]?) := by
  obtain ⟨e, w', fr, hR, _⟩ := sp.run I G w us h ha []
  exact hR.1
def CallOk (P : Program) (call : CallFn) : Prop := ∀ f args H r, call f args H = some r → CallSpec P f args H r
section
variable {P : Program} {call : CallFn} {I : Imm} {G : List Gh} {H : List Box} {w : World} {a : Act} {f : Nat} {args : List AV} {us : List Value} {r : An}
theorem Rel.empty (h : Rel I G H w) : Rel I [] [] w := ⟨rfl, h.imm, fun i b g hb => by simp at hb, fun i j bi gi bj gj k _ hbi => by simp at hbi⟩
theorem not_owned_nil {k : Nat} : ¬ Owned [] [] k := fun ⟨i, b, g, hb, _⟩ => by simp at hb
theorem Rel.frame (h : Rel I G H w) {I' : Imm} {G' : List Gh} {H' : List Box} {w' : World} (hn : Nx I [] [] w I' G' H' w') : Nx I G H w I' G H w' :=
  h.world hn.tr.os hn.tr.tape hn.tr.output hn.tr.size (fun k hk => hn.tr.keep k hk not_owned_nil) (fun k o hk => hn.fr k o hk not_owned_nil) (fun k o v _ hv => hn.rel.imm k o v hv)
theorem Comes.mono {v v' : AV} {G2 : List Gh} {H2 H' H2' : List Box} (h : Comes P I G2 H2 w f us v H2') (hi : ∀ u I' G' w', Nx I G2 H2 w I' G' H2' w' → CR I' G' v u → ∃ I' G', Nx I G H w I' G' H' w' ∧ CR I' G' v' u) : Comes P I G H w f us v' H' :=
  Calls.mono h fun e w' ⟨u, I', G', he, hn, hv⟩ => by
    obtain ⟨I2, G2, h1, h2⟩ := hi u I' G' w' hn hv
    exact ⟨u, I2, G2, he, h1, h2⟩
theorem closed_calls (hC : CallOk P call) (h : Rel I G H w) (ha : CRt I G args us) (hs : callClosed call f args H = some r) : Enters P f ∧ Comes P I G H w f us r.v r.H := by
  unfold callClosed at hs
  split at hs
  · rename_i hn
    obtain ⟨r0, h0, hs⟩ := Option.bind_eq_some_iff.1 hs
    unfold onClosed at hs
    split at hs
    · rename_i hv0
      obtain rfl := Option.some.inj hs
      have sp := hC _ _ _ _ h0
      exact ⟨sp.enters, (sp.comes h.empty (ha.noNames hn)).mono fun u I' G' w' hnx hv => ⟨I', G, h.frame hnx, hv.noNames hv0⟩⟩
    · simp at hs
  · simp at hs
theorem idx_back {ns : List Nat} {m : Nat} : ∀ b b', idxOf ns b = some b' → backOf ns m b' = some b := fun b b' h => by
  have := idxOf_some h
  unfold backOf
  rw [if_pos (List.getElem?_eq_some_iff.1 this).1]
  exact this
theorem optAll_of {α : Type} : ∀ {l : List (Option α)}, (∀ (j : Nat) x, l[j]? = some x → ∃ y, x = some y) → ∃ r, optAll l = some r
  | [], _ => ⟨[], rfl⟩
  | none :: l, h => by obtain ⟨y, hy⟩ := h 0 none rfl; simp at hy
  | some a :: l, h => by
    obtain ⟨r, hr⟩ := optAll_of (l := l) fun j x hj => h (j + 1) x (by simpa using hj)
    exact ⟨a :: r, by simp [optAll, hr]⟩
theorem read_calls (hC : CallOk P call) (h : Rel I G H w) (ha : CRt I G args us) (hs : callRead call f args H = some r) : Enters P f ∧ Comes P I G H w f us r.v r.H := by
  unfold callRead at hs
  obtain ⟨⟨ns, args0, H0⟩, ho, hs⟩ := Option.bind_eq_some_iff.1 hs
  obtain ⟨r0, h0, hs⟩ := Option.bind_eq_some_iff.1 hs
  obtain ⟨G0, p, hargs⟩ := offHeap_part h ho
  unfold onRead at hs
  split at hs
  · rename_i hw
    obtain ⟨v, hv, hs⟩ := Option.bind_eq_some_iff.1 hs
    obtain rfl := Option.some.inj hs
    have sp := hC _ _ _ _ h0
    have hlen : r0.H.length = ns.length := hw.2
    have hH : r0.H = H0 := by
      apply List.ext_getElem?
      intro i
      by_cases hi : i < H0.length
      · exact (sp.told (p.rel h) (ha.renL (fun _ _ _ h => h) p.renOk hargs)).2 hw.1 i hi
      · have hi' : H0.length ≤ i := by omega
        have hi2 : r0.H.length ≤ i := by rw [hlen, ← p.len]; omega
        rw [List.getElem?_eq_none hi', List.getElem?_eq_none hi2]
    obtain ⟨H2, h2⟩ := optAll_of (l := r0.H.map (Box.ren (backOf ns H.length))) (fun j x hj => by
      rw [List.getElem?_map, hH] at hj
      obtain ⟨bx0, hb, rfl⟩ := Option.map_eq_some_iff.1 hj
      obtain ⟨b, bx, _, _, hr⟩ := p.at hb
      exact ⟨bx, Box.ren_ren idx_back hr⟩)
    have hback : mergeL H ns H2 = H := by
      obtain ⟨hl2, hg2⟩ := optAll_get h2
      rw [List.length_map, hlen] at hl2
      apply List.ext_getElem?
      intro i
      by_cases hi : i < H.length
      · by_cases hin : i ∈ ns
        · obtain ⟨j, hj, he⟩ := List.mem_iff_getElem.1 hin
          have hb : ns[j]? = some i := by rw [List.getElem?_eq_getElem hj, he]
          obtain ⟨bx, bx0, e1, e2, e3⟩ := p.h j i hb
          obtain ⟨y, hy, hy2⟩ := hg2 j _ (by rw [List.getElem?_map, hH, e3]; rfl)
          rw [Box.ren_ren idx_back e2] at hy
          obtain rfl := Option.some.inj hy
          rw [mergeL_at p.nd p.lt hb hy2, e1]
        · exact mergeL_other hi hin
      · rw [List.getElem?_eq_none (by rw [mergeL_length]; omega), List.getElem?_eq_none (by omega)]
    refine ⟨sp.enters, (sp.comes (p.rel h) (ha.renL (fun _ _ _ h => h) p.renOk hargs)).mono fun u I' G' w' hnx hv' => ?_⟩
    obtain ⟨hm, hren⟩ := p.merge h hnx h2 (by rw [hlen]; exact Nat.le_refl _)
    rw [hback] at hm
    exact ⟨I', _, hm, hv'.ren (fun _ _ _ h => h) hren hv⟩
  · simp at hs
theorem on_calls (hC : CallOk P call) {base : Nat} (h : Rel I G H w) (ha : CRt I G args us) (hs : callOn call f args H base = some r) : Enters P f ∧ Comes P I G H w f us r.v r.H := by
  unfold callOn at hs
  obtain ⟨⟨ns, args0, H0⟩, ho, hs⟩ := Option.bind_eq_some_iff.1 hs
  obtain ⟨r0, h0, hs⟩ := Option.bind_eq_some_iff.1 hs
  obtain ⟨G0, p, hargs⟩ := offHeap_part h ho
  unfold onHeap at hs
  obtain ⟨H2, h2, hs⟩ := Option.bind_eq_some_iff.1 hs
  obtain ⟨v, hv, hs⟩ := Option.bind_eq_some_iff.1 hs
  obtain rfl := Option.some.inj hs
  have sp := hC _ _ _ _ h0
  refine ⟨sp.enters, (sp.comes (p.rel h) (ha.renL (fun _ _ _ h => h) p.renOk hargs)).mono fun u I' G' w' hnx hv' => ?_⟩
  obtain ⟨hm, hren⟩ := p.merge h hnx h2 (by rw [← p.len]; exact (sp.told (p.rel h) (ha.renL (fun _ _ _ h => h) p.renOk hargs)).1)
  exact ⟨I', _, hm, hv'.ren (fun _ _ _ h => h) hren hv⟩
theorem sound_enter {o : Oper} {v : AV} {H' : List Box} (hr : (execOp a.eval o).run P w = .ok (.enter f us.toArray) w) (hc : Comes P I G H w f us v H') : Sound P I G H w a o v H' := by
  intro next Q hnext
  unfold Oper.wp
  rw [hr]
  refine Calls.mono hc fun e w' ⟨u, I', G', he, hn, hv⟩ => ?_
  subst he
  exact hnext I' G' u w' hn hv
theorem run_call {o : Oper} {args' : Array Operand} {ts : Array TypeId} (ho : o.op = .call { callee := .value (.func f), args := args', argTypes := ts }) (he : Enters P f) : (execOp a.eval o).run P w = .ok (.enter f (args'.map a.eval)) w := by
  simp [execOp, ho, resolve, Deferred.ofValue, Act.eval, invoke, he _ w]
theorem run_callV {o : Oper} {y : Operand} {args' : Array Operand} {ts : Array TypeId} {caps : Array Value} (ho : o.op = .call { callee := .value y, args := args', argTypes := ts }) (hy : a.eval y = .func (.func f) #[] caps) (he : Enters P f) : (execOp a.eval o).run P w = .ok (.enter f (args'.map a.eval ++ caps)) w := by
  simp [execOp, ho, resolve, Deferred.ofValue, hy, invoke, he _ w]

/-- The test of an operation. -/
def okCall (o : Op) (f : Nat) (args : List AO) : Bool := match o with
  | .call ⟨.value (.func g), args', _⟩ => g == f && okOs args'.toList args
  | _ => false
def okCallV (o : Op) (f : AO) (args : List AO) : Bool := match o with
  | .call ⟨.value y, args', _⟩ => okO y f && okOs args'.toList args
  | _ => false
def okOp (P : Program) (o : Op) (op : AOp) : Bool := match op with
  | .callC f args => okCall o f args
  | .callR f args => okCall o f args
  | .callS f args => okCall o f args
  | .callVC f args => okCallV o f args
  | .callVR f args => okCallV o f args
  | .callVS f args => okCallV o f args
  | op => okP P o op
def isCall : AOp → Bool
  | .callC _ _ => true
  | .callR _ _ => true
  | .callS _ _ => true
  | .callVC _ _ => true
  | .callVR _ _ => true
  | .callVS _ _ => true
  | _ => false
theorem notCall {P : Program} {o : Op} {op : AOp} {call : CallFn} {e : AO → AV} {H : List Box} {base : Nat} (h : isCall op = false) : okOp P o op = okP P o op ∧ stepOp call op e H base = stepP op e H base := by
  cases op <;> first | exact ⟨rfl, rfl⟩ | (simp [isCall] at h)
theorem sound_okCall {o : Oper} {e : AO → AV} {xs : List AO} {v : AV} {H' : List Box} (hok : okCall o.op f xs = true) (he : ∀ x y, okO x y = true → CR I G (e y) (a.eval x)) (hc : ∀ us, CRt I G (AV.bareL (xs.map e)) us → Enters P f ∧ Comes P I G H w f us v H') : Sound P I G H w a o v H' := by
  generalize ho : o.op = oo at hok
  unfold okCall at hok
  split at hok
  · simp only [Bool.and_eq_true, beq_iff_eq] at hok
    obtain ⟨rfl, hok⟩ := hok
    obtain ⟨h1, h2⟩ := hc _ (okOs_crt he hok).bareL
    refine sound_enter (us := _) ?_ h2
    rw [run_call ho h1]
    congr 2
    apply Array.ext'
    simp
  · simp at hok
theorem CRt.append : ∀ {v v' : List AV} {u u' : List Value}, CRt I G v u → CRt I G v' u' → CRt I G (v ++ v') (u ++ u')
  | [], _, _, _, .nil, h => h
  | _ :: _, _, _, _, .cons h hs, h' => .cons h (hs.append h')
theorem sound_okCallV {o : Oper} {e : AO → AV} {y : AO} {xs : List AO} {v : AV} {H' : List Box} {cap : List AV} (hok : okCallV o.op y xs = true) (he : ∀ x y, okO x y = true → CR I G (e y) (a.eval x)) (hf : e y = .fn f cap) (hc : ∀ us, CRt I G (AV.bareL (xs.map e) ++ cap) us → Enters P f ∧ Comes P I G H w f us v H') : Sound P I G H w a o v H' := by
  generalize ho : o.op = oo at hok
  unfold okCallV at hok
  split at hok
  · rename_i y' args' ts
    simp only [Bool.and_eq_true] at hok
    have hy := he _ _ hok.1
    rw [hf] at hy
    generalize hu : a.eval y' = u at hy
    cases hy with
    | fn hcap =>
      obtain ⟨h1, h2⟩ := hc _ ((okOs_crt he hok.2).bareL.append hcap)
      refine sound_enter (us := _) ?_ h2
      rw [run_callV ho hu h1]
      congr 2
      apply Array.ext'
      simp
  · simp at hok
theorem asFn_some {v : AV} {g : Nat × List AV} (h : asFn v = some g) : v = .fn g.1 g.2 := by
  unfold asFn at h
  split at h
  · obtain rfl := Option.some.inj h; rfl
  · simp at h
theorem stepOp_sound {o : Oper} {op : AOp} {e : AO → AV} {base : Nat} (hC : CallOk P call) (hok : okOp P o.op op = true) (h : Rel I G H w) (he : ∀ x y, okO x y = true → CR I G (e y) (a.eval x)) (hs : stepOp call op e H base = some r) : Sound P I G H w a o r.v r.H := by
  by_cases hc : isCall op = false
  · rw [(notCall (call := call) (e := e) (H := H) (base := base) hc).1] at hok
    rw [(notCall (P := P) (o := o.op) hc).2] at hs
    exact stepP_sound hok h he hs
  cases op with
  | callC f xs => exact sound_okCall hok he fun us ha => closed_calls hC h ha hs
  | callR f xs => exact sound_okCall hok he fun us ha => read_calls hC h ha hs
  | callS f xs => exact sound_okCall hok he fun us ha => on_calls hC h ha hs
  | callVC f xs =>
    obtain ⟨g, hg, hs⟩ := Option.bind_eq_some_iff.1 hs
    exact sound_okCallV hok he (asFn_some hg) fun us ha => closed_calls hC h ha hs
  | callVR f xs =>
    obtain ⟨g, hg, hs⟩ := Option.bind_eq_some_iff.1 hs
    exact sound_okCallV hok he (asFn_some hg) fun us ha => read_calls hC h ha hs
  | callVS f xs =>
    obtain ⟨g, hg, hs⟩ := Option.bind_eq_some_iff.1 hs
    exact sound_okCallV hok he (asFn_some hg) fun us ha => on_calls hC h ha hs
  | _ => exact absurd rfl hc
end

/-! ### Names -/
theorem mem_namesL {b : Nat} : ∀ {l : List AV}, b ∈ AV.namesL l ↔ ∃ v ∈ l, b ∈ v.names
  | [] => by simp [AV.namesL]
  | v :: l => by simp [AV.namesL, mem_namesL (l := l)]
theorem under_iff {n : Nat} {l : List Nat} : under n l = true ↔ ∀ b ∈ l, b < n := by simp [under]
theorem const_names {v : Value} {c : AV} (h : constOk v c = true) : c.names = [] := by
  unfold constOk at h
  split at h <;> first | rfl | simp at h
theorem consts_names : ∀ {vs : List Value} {cs : List AV}, constsOk vs cs = true → ∀ c ∈ cs, c.names = []
  | [], [], _, c, hc => by simp at hc
  | v :: vs, c :: cs, h, d, hd => by
    simp only [constsOk, Bool.and_eq_true] at h
    rcases List.mem_cons.1 hd with rfl | hd
    · exact const_names h.1
    · exact consts_names h.2 d hd
  | [], _ :: _, h, _, _ => by simp [constsOk] at h
  | _ :: _, [], h, _, _ => by simp [constsOk] at h
theorem cellsOf_names {v : AV} {cs : List AV} (h : cellsOf v = some cs) : ∀ b ∈ AV.namesL cs, b ∈ v.names := by
  unfold cellsOf at h
  split at h
  · obtain rfl := Option.some.inj h; intro b hb; exact hb
  · simp at h
  · simp at h
  · obtain rfl := Option.some.inj h; intro b hb; simpa [AV.namesL] using hb
/-- What an operation does to the boxes. -/
def Ord (base : Nat) (H : List Box) : Prop := ∀ (i : Nat) bx, H[i]? = some bx → under (max (i + 1) base) bx.names = true
/-- 0: nothing of the boxes is asked. 1: they are read. 2: they may turn. -/
def kind : AOp → Nat
  | .load _ _ _ => 1
  | .callR _ _ => 1
  | .callVR _ _ => 1
  | .alloc _ => 2
  | .box _ => 2
  | .newtok _ => 2
  | .store _ _ _ => 2
  | .mkarr _ _ _ => 2
  | .append _ _ _ _ => 2
  | .callS _ _ => 2
  | .callVS _ _ => 2
  | _ => 0
structure Grow (k base : Nat) (H : List Box) (r : An) : Prop where
  keep : k < 2 → r.H = H ∧ r.esc = false ∧ r.wr = false
  len : H.length ≤ r.H.length
  esc : r.esc = false → Ord base H → Ord base r.H
  wr : r.wr = false → ∀ i, i < base → r.H[i]? = H[i]?
section
variable {P : Program} {call : CallFn} {H : List Box} {base : Nat} {r : An}
theorem Grow.same {k : Nat} {v : AV} : Grow k base H ⟨v, H, false, false⟩ := ⟨fun _ => ⟨rfl, rfl, rfl⟩, Nat.le_refl _, fun _ h => h, fun _ _ _ => rfl⟩
theorem Grow.of_same {k : Nat} (h : r.H = H ∧ r.esc = false ∧ r.wr = false) : Grow k base H r := by
  refine ⟨fun _ => h, ?_, ?_, ?_⟩ <;> rw [h.1]
  · exact Nat.le_refl _
  · exact fun _ h => h
  · exact fun _ _ _ => rfl
theorem Grow.push {v : AV} {a b : Bool} {bx : Box} (hb : base ≤ H.length) (hn : ∀ c ∈ bx.names, c < H.length + 1) : Grow 2 base H ⟨v, H ++ [bx], a, b⟩ := by
  refine ⟨fun h => absurd h (by decide), by simp, fun _ ho i x hx => ?_, fun _ i hi => List.getElem?_append_left (by omega)⟩
  dsimp only at hx
  rw [List.getElem?_append] at hx
  split at hx
  · exact ho i x hx
  · have : i - H.length = 0 := by
      cases h : i - H.length with
      | zero => rfl
      | succ j => rw [h] at hx; simp at hx
    rw [this] at hx
    simp only [List.getElem?_cons_zero, Option.some.injEq] at hx
    subst hx
    exact under_iff.2 fun c hc => by have := hn c hc; omega
theorem Grow.set {v : AV} {esc : Bool} {b : Nat} {bx : Box} (hn : esc = false → Ord base H → under (max (b + 1) base) bx.names = true) : Grow 2 base H ⟨v, H.set b bx, esc, decide (b < base)⟩ := by
  refine ⟨fun h => absurd h (by decide), by simp, fun he ho i x hx => ?_, fun hw i hi => ?_⟩
  · dsimp only at hx
    rw [List.getElem?_set] at hx
    split at hx
    · rename_i e
      subst e
      split at hx
      · obtain rfl := Option.some.inj hx
        exact hn he ho
      · simp at hx
    · exact ho i x hx
  · have : ¬ b < base := by simpa using hw
    exact List.getElem?_set_ne (by omega)
theorem pure3_H {x : Option AV} (h : pure3 H x = some r) : r.H = H ∧ r.esc = false ∧ r.wr = false := by
  obtain ⟨v, _, rfl⟩ := pure3_some h
  exact ⟨rfl, rfl, rfl⟩
set_option maxHeartbeats 800000 in
theorem stepP_grow {o : Op} {op : AOp} {e : AO → AV} (hok : okP P o op = true) (hp : kind op < 2 ∨ base ≤ H.length ∧ ∀ x y, okO x y = true → ∀ b ∈ (e y).names, b < H.length) (hs : stepP op e H base = some r) : Grow (kind op) base H r := by
  cases op with
  | alloc zero =>
    simp only [okP] at hok
    split at hok
    · obtain ⟨i, z, _, _, hc⟩ := zeroT_ok hok
      simp only [stepP, Option.some.injEq] at hs
      subst hs
      refine Grow.push (hp.resolve_left (by simp [kind])).1 fun c hcm => ?_
      obtain ⟨v, hv, hcv⟩ := mem_namesL.1 hcm
      rw [consts_names hc v hv] at hcv
      simp at hcv
    · simp at hok
  | box x =>
    simp only [okP] at hok
    split at hok
    · simp only [stepP, Option.bind_eq_some_iff] at hs
      obtain ⟨cs, hc, hs⟩ := hs
      obtain rfl := Option.some.inj hs
      exact Grow.push (hp.resolve_left (by simp [kind])).1 fun c hcm => by have := (hp.resolve_left (by simp [kind])).2 _ _ hok c (cellsOf_names hc c hcm); omega
    · simp at hok
  | newtok es =>
    simp only [stepP, Option.some.injEq] at hs
    subst hs
    exact Grow.push (hp.resolve_left (by simp [kind])).1 fun c hcm => by simp [Box.names] at hcm
  | mkarr es zero x =>
    simp only [okP] at hok
    split at hok
    · split at hok
      · simp only [Bool.and_eq_true] at hok
        obtain ⟨i, z, _, _, hc, _⟩ := fullT_ok hok.1.1
        simp only [stepP] at hs
        split at hs
        · split at hs
          · obtain rfl := Option.some.inj hs
            refine Grow.push (hp.resolve_left (by simp [kind])).1 fun c hcm => ?_
            obtain ⟨v, hv, hcv⟩ := mem_namesL.1 hcm
            rw [List.mem_flatten] at hv
            obtain ⟨l, hl, hv⟩ := hv
            obtain rfl := (List.mem_replicate.1 hl).2
            rw [consts_names hc v hv] at hcv
            simp at hcv
          · simp at hs
        · simp at hs
      · simp at hok
    · simp at hok
  | store s x v =>
    simp only [stepP] at hs
    split at hs
    · rename_i b off ex
      split at hs
      · rename_i cs hH
        obtain ⟨vs, hvs, hs⟩ := Option.bind_eq_some_iff.1 hs
        split at hs
        · obtain rfl := Option.some.inj hs
          refine Grow.set fun he ho => under_iff.2 fun c hc => ?_
          simp only [Bool.not_eq_eq_eq_not, Bool.not_false] at he
          obtain ⟨u, hu, hcu⟩ := mem_namesL.1 hc
          unfold splice at hu
          simp only [List.mem_append] at hu
          rcases hu with (hu | hu) | hu
          · exact under_iff.1 (ho b _ hH) c (mem_namesL.2 ⟨u, List.mem_of_mem_take hu, hcu⟩)
          · exact under_iff.1 he c (mem_namesL.2 ⟨u, hu, hcu⟩)
          · exact under_iff.1 (ho b _ hH) c (mem_namesL.2 ⟨u, List.mem_of_mem_drop hu, hcu⟩)
        · simp at hs
      · simp at hs
    · simp at hs
  | append es bytes s x =>
    simp only [stepP] at hs
    obtain ⟨mx, _, hs⟩ := Option.bind_eq_some_iff.1 hs
    split at hs
    · split at hs
      · split at hs
        · obtain rfl := Option.some.inj hs
          exact Grow.set fun _ _ => under_iff.2 fun c hc => by simp [Box.names] at hc
        · simp at hs
      · simp at hs
    · split at hs
      · obtain rfl := Option.some.inj hs
        exact Grow.push (hp.resolve_left (by simp [kind])).1 fun c hcm => by simp [Box.names] at hcm
      · simp at hs
    · simp at hs
  | load s ag x =>
    simp only [stepP] at hs
    split at hs
    · split at hs
      · exact .of_same (pure3_H hs)
      · simp at hs
    · exact .of_same (pure3_H hs)
    · simp at hs
  | loadI s ag x =>
    simp only [stepP] at hs
    split at hs
    · exact .of_same (pure3_H hs)
    · simp at hs
  | build => exact .of_same (pure3_H hs)
  | lit => exact .of_same (pure3_H hs)
  | bin => exact .of_same (pure3_H hs)
  | un => exact .of_same (pure3_H hs)
  | mx => exact .of_same (pure3_H hs)
  | mn => exact .of_same (pure3_H hs)
  | mov => obtain rfl := Option.some.inj hs; exact .same
  | mkfn => obtain rfl := Option.some.inj hs; exact .same
  | nilck x => simp only [stepP] at hs; split at hs <;> first | (cases hs; done) | (obtain rfl := Option.some.inj hs; exact .same)
  | pick c x y =>
    simp only [stepP] at hs
    split at hs
    · split at hs <;> (obtain rfl := Option.some.inj hs; exact .same)
    · simp at hs
  | beq ne x y => simp only [stepP] at hs; split at hs <;> first | (cases hs; done) | (obtain rfl := Option.some.inj hs; exact .same)
  | peq ne x =>
    simp only [stepP] at hs
    obtain ⟨b, _, hs⟩ := Option.bind_eq_some_iff.1 hs
    obtain rfl := Option.some.inj hs; exact .same
  | eqs ne x y => simp [okP] at hok
  | idxB x c => simp only [stepP] at hs; split at hs <;> first | (cases hs; done) | (obtain rfl := Option.some.inj hs; exact .same)
  | conv k x => simp only [stepP] at hs; split at hs <;> first | (cases hs; done) | (obtain rfl := Option.some.inj hs; exact .same)
  | s2b x => simp only [stepP] at hs; split at hs <;> first | (cases hs; done) | (obtain rfl := Option.some.inj hs; exact .same)
  | b2s x =>
    simp only [stepP] at hs
    split at hs
    · split at hs
      · exact .of_same (pure3_H hs)
      · simp at hs
    · obtain rfl := Option.some.inj hs; exact .same
    · simp at hs
  | slice es x lo hi =>
    simp only [stepP] at hs
    split at hs
    · split at hs
      · obtain ⟨l, _, hs⟩ := Option.bind_eq_some_iff.1 hs
        obtain ⟨m, _, hs⟩ := Option.bind_eq_some_iff.1 hs
        split at hs <;> first | (cases hs; done) | (obtain rfl := Option.some.inj hs; exact .same)
      · simp at hs
    · split at hs
      · obtain ⟨l, _, hs⟩ := Option.bind_eq_some_iff.1 hs
        obtain ⟨m, _, hs⟩ := Option.bind_eq_some_iff.1 hs
        split at hs <;> first | (cases hs; done) | (obtain rfl := Option.some.inj hs; exact .same)
      · obtain ⟨l, _, hs⟩ := Option.bind_eq_some_iff.1 hs
        obtain ⟨m, _, hs⟩ := Option.bind_eq_some_iff.1 hs
        split at hs <;> first | (cases hs; done) | (obtain rfl := Option.some.inj hs; exact .same)
      · obtain ⟨l, _, hs⟩ := Option.bind_eq_some_iff.1 hs
        obtain ⟨m, _, hs⟩ := Option.bind_eq_some_iff.1 hs
        split at hs
        · split at hs <;> (obtain rfl := Option.some.inj hs; exact .same)
        · simp at hs
      · simp at hs
  | faddr off x => simp only [stepP] at hs; split at hs <;> first | (cases hs; done) | (obtain rfl := Option.some.inj hs; exact .same)
  | field off s ag x =>
    simp only [stepP] at hs
    split at hs
    · exact .of_same (pure3_H hs)
    · simp at hs
  | iaddrA len es x i =>
    simp only [stepP] at hs
    split at hs
    · split at hs
      · split at hs <;> first | (cases hs; done) | (obtain rfl := Option.some.inj hs; exact .same)
      · simp at hs
    · simp at hs
  | iaddr es x i =>
    simp only [stepP] at hs
    split at hs
    · split at hs
      · split at hs <;> first | (cases hs; done) | (obtain rfl := Option.some.inj hs; exact .same)
      · split at hs <;> first | (cases hs; done) | (obtain rfl := Option.some.inj hs; exact .same)
      · simp at hs
    · simp at hs
  | idxA len es ag x i =>
    simp only [stepP] at hs
    split at hs
    · split at hs
      · split at hs
        · exact .of_same (pure3_H hs)
        · simp at hs
      · simp at hs
    · simp at hs
  | idxS x i =>
    simp only [stepP] at hs
    split at hs
    · split at hs
      · exact .of_same (pure3_H hs)
      · simp at hs
    · simp at hs
  | extr x i =>
    simp only [stepP] at hs
    split at hs
    · exact .of_same (pure3_H hs)
    · simp at hs
  | len str x =>
    simp only [stepP] at hs
    split at hs
    · exact .of_same (pure3_H hs)
    · simp at hs
  | callC f args => simp [okP] at hok
  | callR f args => simp [okP] at hok
  | callS f args => simp [okP] at hok
  | callVC f args => simp [okP] at hok
  | callVR f args => simp [okP] at hok
  | callVS f args => simp [okP] at hok
theorem closed_grow {f : Nat} {args : List AV} {k : Nat} (hs : callClosed call f args H = some r) : Grow k base H r := by
  unfold callClosed at hs
  split at hs
  · obtain ⟨r0, _, hs⟩ := Option.bind_eq_some_iff.1 hs
    unfold onClosed at hs
    split at hs
    · obtain rfl := Option.some.inj hs; exact .same
    · simp at hs
  · simp at hs
theorem read_grow {f : Nat} {args : List AV} {k : Nat} (hs : callRead call f args H = some r) : Grow k base H r := by
  unfold callRead at hs
  obtain ⟨x, _, hs⟩ := Option.bind_eq_some_iff.1 hs
  obtain ⟨r0, _, hs⟩ := Option.bind_eq_some_iff.1 hs
  unfold onRead at hs
  split at hs
  · obtain ⟨v, _, hs⟩ := Option.bind_eq_some_iff.1 hs
    obtain rfl := Option.some.inj hs; exact .same
  · simp at hs
theorem on_grow {I : Imm} {G : List Gh} {w : World} {f : Nat} {args : List AV} (h : Rel I G H w) (hb : base ≤ H.length) (hs : callOn call f args H base = some r) : Grow 2 base H r := by
  unfold callOn at hs
  obtain ⟨⟨ns, args0, H0⟩, ho, hs⟩ := Option.bind_eq_some_iff.1 hs
  obtain ⟨r0, h0, hs⟩ := Option.bind_eq_some_iff.1 hs
  obtain ⟨G0, p, hargs⟩ := offHeap_part h ho
  unfold onHeap at hs
  obtain ⟨H2, h2, hs⟩ := Option.bind_eq_some_iff.1 hs
  obtain ⟨v, hv, hs⟩ := Option.bind_eq_some_iff.1 hs
  obtain rfl := Option.some.inj hs
  refine ⟨fun h => absurd h (by decide), ?_, fun he ho' i x hx => ?_, fun hw i hi => ?_⟩
  · show H.length ≤ (mergeL H ns H2).length
    rw [mergeL_length]; omega
  · change (mergeL H ns H2)[i]? = some x at hx
    by_cases hin : i ∈ ns ++ List.range' H.length (H2.length - ns.length)
    · change escaped base (mergeL H ns H2) (ns ++ List.range' H.length (H2.length - ns.length)) = false at he
      unfold escaped at he
      rw [List.any_eq_false] at he
      have := he i hin
      simp only [Bool.not_eq_true', Bool.not_eq_false] at this
      unfold boxNames at this
      rw [hx] at this
      exact this
    · simp only [List.mem_append, List.mem_range'_1, not_or] at hin
      have hi : i < H.length := by
        have hlt := (List.getElem?_eq_some_iff.1 hx).1
        rw [mergeL_length] at hlt
        have := hin.2
        omega
      rw [mergeL_other hi hin.1] at hx
      exact ho' i x hx
  · show (mergeL H ns H2)[i]? = H[i]?
    change (ns.any fun b => decide (b < base)) = false at hw
    rw [List.any_eq_false] at hw
    refine mergeL_other (by omega) fun hin => ?_
    have := hw i hin
    simp only [decide_eq_true_eq] at this
    omega
theorem stepOp_grow {I : Imm} {G : List Gh} {w : World} {o : Op} {op : AOp} {e : AO → AV} (hok : okOp P o op = true) (h : Rel I G H w) (hb : base ≤ H.length) (hn : ∀ x y, okO x y = true → ∀ b ∈ (e y).names, b < H.length) (hs : stepOp call op e H base = some r) : Grow (kind op) base H r := by
  by_cases hc : isCall op = false
  · rw [(notCall (call := call) (e := e) (H := H) (base := base) hc).1] at hok
    rw [(notCall (P := P) (o := o) hc).2] at hs
    exact stepP_grow hok (.inr ⟨hb, hn⟩) hs
  cases op with
  | callC f xs => exact closed_grow hs
  | callR f xs => exact read_grow hs
  | callS f xs => exact on_grow h hb hs
  | callVC f xs =>
    obtain ⟨g, hg, hs⟩ := Option.bind_eq_some_iff.1 hs
    exact closed_grow hs
  | callVR f xs =>
    obtain ⟨g, hg, hs⟩ := Option.bind_eq_some_iff.1 hs
    exact read_grow hs
  | callVS f xs =>
    obtain ⟨g, hg, hs⟩ := Option.bind_eq_some_iff.1 hs
    exact on_grow h hb hs
  | _ => exact absurd rfl hc
theorem stepOp_keep {o : Op} {op : AOp} {e : AO → AV} (hok : okOp P o op = true) (hk : kind op < 2) (hs : stepOp call op e H base = some r) : r.H = H ∧ r.esc = false ∧ r.wr = false := by
  by_cases hc : isCall op = false
  · rw [(notCall (call := call) (e := e) (H := H) (base := base) hc).1] at hok
    rw [(notCall (P := P) (o := o) hc).2] at hs
    exact (stepP_grow hok (.inl hk) hs).keep hk
  cases op with
  | callC f xs => exact (closed_grow (k := 0) (base := base) hs).keep (by decide)
  | callR f xs => exact (read_grow (k := 0) (base := base) hs).keep (by decide)
  | callS f xs => exact absurd hk (by simp [kind])
  | callVC f xs =>
    obtain ⟨g, hg, hs⟩ := Option.bind_eq_some_iff.1 hs
    exact (closed_grow (k := 0) (base := base) hs).keep (by decide)
  | callVR f xs =>
    obtain ⟨g, hg, hs⟩ := Option.bind_eq_some_iff.1 hs
    exact (read_grow (k := 0) (base := base) hs).keep (by decide)
  | callVS f xs => exact absurd hk (by simp [kind])
  | _ => exact absurd rfl hc
end
end Go.Proofs.Ytncnpgakflmibaa.Ai
