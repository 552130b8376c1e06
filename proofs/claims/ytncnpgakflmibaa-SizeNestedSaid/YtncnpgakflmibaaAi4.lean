/- What abstract boxes say of the model's memory, and how memory may turn. -/
import Derived.Test.YtncnpgakflmibaaAi3
set_option linter.unusedSimpArgs false
set_option linter.unusedVariables false
namespace Go.Proofs.Ytncnpgakflmibaa.Ai
open Go.RowKit

/-- A slice of the call's own whose first n elements are there for good, and whose room behind them may still be written. -/
def TokAt (I : Imm) (w : World) (v : Value) (n es : Nat) : Prop :=
  (v = .slice none 0 0 ∧ n = 0) ∨ ∃ (k cap : Nat) (us : Array Value) (t : TypeId), v = .slice (some ⟨k, 0, none⟩) n cap ∧ n ≤ cap ∧ cap ≤ maxLen ∧ w.heap[k]? = some (.cells us t (0, 0)) ∧ us.size = cap * es ∧
    (∀ o, o < n * es → I k o = us[o]?) ∧ (∀ o, n * es ≤ o → I k o = none) ∧ ∀ x ∈ us.toList, x.oneCell' = true
def BoxOk (I : Imm) (G : List Gh) (w : World) : Box → Gh → Prop
  | .cells cs, .blk k => ∃ (us : Array Value) (t : TypeId), w.heap[k]? = some (.cells us t (0, 0)) ∧ CRs I G cs us.toList ∧ ∀ o, I k o = none
  | .tok n es, .tok f => ∃ v, f n = some v ∧ (∀ m, n < m → f m = none) ∧ TokAt I w v n es
  | .dead, _ => True
  | _, _ => False
def own : Box → Gh → Option Nat
  | .cells _, .blk k => some k
  | .tok n _, .tok f => (f n).bind Value.ownBlock
  | _, _ => none
structure Rel (I : Imm) (G : List Gh) (H : List Box) (w : World) : Prop where
  len : G.length = H.length
  imm : ∀ k o v, I k o = some v → w.cell? ⟨k, o, none⟩ = some v
  box : ∀ (i : Nat) bx g, H[i]? = some bx → G[i]? = some g → BoxOk I G w bx g
  sep : ∀ (i j : Nat) bi gi bj gj k, i ≠ j → H[i]? = some bi → G[i]? = some gi → H[j]? = some bj → G[j]? = some gj → own bi gi = some k → own bj gj ≠ some k
def Owned (G : List Gh) (H : List Box) (k : Nat) : Prop := ∃ (i : Nat) (b : Box) (g : Gh), H[i]? = some b ∧ G[i]? = some g ∧ own b g = some k
/-- How memory may turn: what was there and is nobody's stays; what is somebody's was so, or is new. -/
structure Tr (G : List Gh) (H : List Box) (w : World) (G' : List Gh) (H' : List Box) (w' : World) : Prop where
  os : w'.os = w.os
  tape : w'.tape = w.tape
  output : w'.output = w.output
  size : w.heap.size ≤ w'.heap.size
  keep : ∀ k, k < w.heap.size → ¬ Owned G H k → w'.heap[k]? = w.heap[k]?
  own : ∀ k, Owned G' H' k → Owned G H k ∨ w.heap.size ≤ k
theorem Tr.refl (G : List Gh) (H : List Box) (w : World) : Tr G H w G H w := ⟨rfl, rfl, rfl, Nat.le_refl _, fun _ _ _ => rfl, fun _ h => .inl h⟩
theorem Tr.trans {G G1 G2 : List Gh} {H H1 H2 : List Box} {w w1 w2 : World} (h : Tr G H w G1 H1 w1) (h' : Tr G1 H1 w1 G2 H2 w2) : Tr G H w G2 H2 w2 :=
  ⟨h'.os.trans h.os, h'.tape.trans h.tape, h'.output.trans h.output, Nat.le_trans h.size h'.size,
   fun k hk hn => (h'.keep k (Nat.lt_of_lt_of_le hk h.size) (fun ho => by rcases h.own k ho with ho | ho; exact hn ho; omega)).trans (h.keep k hk hn),
   fun k ho => by
    rcases h'.own k ho with ho | ho
    · exact h.own k ho
    · exact .inr (Nat.le_trans h.size ho)⟩
/-- A step of the abstract state that memory follows. -/
structure Nx (I : Imm) (G : List Gh) (H : List Box) (w : World) (I' : Imm) (G' : List Gh) (H' : List Box) (w' : World) : Prop where
  ext : Ext I G I' G'
  rel : Rel I' G' H' w'
  tr : Tr G H w G' H' w'
  fr : ∀ k o, k < w.heap.size → ¬ Owned G H k → I' k o = I k o
theorem Nx.refl {I : Imm} {G : List Gh} {H : List Box} {w : World} (h : Rel I G H w) : Nx I G H w I G H w := ⟨Ext.refl _ _, h, Tr.refl _ _ _, fun _ _ _ _ => rfl⟩
theorem Nx.trans {I I1 I2 : Imm} {G G1 G2 : List Gh} {H H1 H2 : List Box} {w w1 w2 : World} (h : Nx I G H w I1 G1 H1 w1) (h' : Nx I1 G1 H1 w1 I2 G2 H2 w2) : Nx I G H w I2 G2 H2 w2 :=
  ⟨h.ext.trans h'.ext, h'.rel, h.tr.trans h'.tr, fun k o hk hn => (h'.fr k o (Nat.lt_of_lt_of_le hk h.tr.size) (fun ho => by rcases h.tr.own k ho with ho | ho; exact hn ho; omega)).trans (h.fr k o hk hn)⟩

section
variable {I : Imm} {G : List Gh} {H : List Box} {w : World}
theorem heap_lt {w : World} {k : Nat} {o : Obj} (h : w.heap[k]? = some o) : k < w.heap.size := (Array.getElem?_eq_some_iff.1 h).1
theorem Rel.fresh (h : Rel I G H w) {k o : Nat} (hk : w.heap.size ≤ k) : I k o = none := by
  cases hv : I k o with
  | none => rfl
  | some v =>
    have := World.block_lt_of_cell? w _ (h.imm k o v hv)
    simp only at this
    omega
theorem BoxOk.own_lt {b : Box} {g : Gh} {k : Nat} (h : BoxOk I G w b g) (ho : own b g = some k) : k < w.heap.size := by
  cases b <;> cases g <;> simp only [own, Option.some.injEq] at ho <;> try (exact absurd ho (by simp))
  · subst ho
    obtain ⟨us, t, hh, _⟩ := h
    exact heap_lt hh
  · obtain ⟨v, hv, _, ht⟩ := h
    rw [hv] at ho
    simp only [Option.bind_some] at ho
    rcases ht with ⟨rfl, _⟩ | ⟨k', cap, us, t, rfl, _, _, hh, _⟩
    · simp [Value.ownBlock] at ho
    · simp only [Value.ownBlock, Option.some.injEq] at ho
      subst ho
      exact heap_lt hh
theorem Rel.owned_lt (h : Rel I G H w) {k : Nat} (ho : Owned G H k) : k < w.heap.size := by
  obtain ⟨i, b, g, hb, hg, ho⟩ := ho
  exact (h.box i b g hb hg).own_lt ho
/-- A box says the same where its block stays, and more is known elsewhere. -/
theorem BoxOk.keep {I' : Imm} {G' : List Gh} {w' : World} {b : Box} {g : Gh} (h : BoxOk I G w b g) (he : Ext I G I' G') (hk : ∀ k, own b g = some k → w'.heap[k]? = w.heap[k]?) (hI : ∀ k o, own b g = some k → I' k o = I k o) : BoxOk I' G' w' b g := by
  cases b with
  | dead => trivial
  | cells cs =>
    cases g with
    | tok f => exact h.elim
    | blk k =>
      obtain ⟨us, t, hh, hc, hi⟩ := h
      exact ⟨us, t, (hk k rfl).trans hh, hc.ext he, fun o => (hI k o rfl).trans (hi o)⟩
  | tok n es =>
    cases g with
    | blk k => exact h.elim
    | tok f =>
      obtain ⟨v, hv, hm, ht⟩ := h
      refine ⟨v, hv, hm, ?_⟩
      rcases ht with ht | ⟨k, cap, us, t, rfl, h1, h2, h3, h4, h5, h6, h7⟩
      · exact .inl ht
      · have ho : own (.tok n es) (.tok f) = some k := by simp [own, hv, Value.ownBlock]
        exact .inr ⟨k, cap, us, t, rfl, h1, h2, (hk k ho).trans h3, h4, fun o hlt => (hI k o ho).trans (h5 o hlt), fun o hle => (hI k o ho).trans (h6 o hle), h7⟩
theorem cell_of_heap {w w' : World} {k o : Nat} (h : w'.heap[k]? = w.heap[k]?) : w'.cell? ⟨k, o, none⟩ = w.cell? ⟨k, o, none⟩ := by simp only [World.cell?, h]
/-- Memory turns nowhere where anything is said of it; cells of new blocks may come to be there for good. -/
theorem Rel.world (h : Rel I G H w) {I' : Imm} {w' : World} (hos : w'.os = w.os) (ht : w'.tape = w.tape) (ho : w'.output = w.output) (hs : w.heap.size ≤ w'.heap.size) (hk : ∀ k, k < w.heap.size → w'.heap[k]? = w.heap[k]?)
    (hI : ∀ k o, k < w.heap.size → I' k o = I k o) (hn : ∀ k o v, w.heap.size ≤ k → I' k o = some v → w'.cell? ⟨k, o, none⟩ = some v) : Nx I G H w I' G H w' := by
  have hle : ∀ k o v, I k o = some v → I' k o = some v := fun k o v hv => by
    have : k < w.heap.size := World.block_lt_of_cell? w _ (h.imm k o v hv)
    rw [hI k o this]; exact hv
  have he : Ext I G I' G := ⟨hle, fun _ g hg => ⟨g, hg, GLe.refl g⟩⟩
  refine ⟨he, ⟨h.len, fun k o v hv => ?_, fun i b g hb hg => (h.box i b g hb hg).keep he (fun k ho => hk k ((h.box i b g hb hg).own_lt ho)) (fun k o ho => hI k o ((h.box i b g hb hg).own_lt ho)), h.sep⟩, ⟨hos, ht, ho, hs, fun k hlt _ => hk k hlt, fun _ ho => .inl ho⟩, fun k o hlt _ => hI k o hlt⟩
  by_cases hlt : k < w.heap.size
  · rw [hI k o hlt] at hv
    rw [cell_of_heap (hk k hlt)]
    exact h.imm k o v hv
  · exact hn k o v (by omega) hv
theorem Rel.drew (h : Rel I G H w) : Nx I G H w I G H w.drew := h.world rfl rfl rfl (Nat.le_refl _) (fun _ _ => rfl) (fun _ _ _ => rfl) (fun k o v hk hv => by rw [h.fresh hk] at hv; simp at hv)
/-- A new row that stays as it is. -/
theorem Rel.newRow (h : Rel I G H w) (us : Array Value) (t : TypeId) : ∃ I', Nx I G H w I' G H (w.alloc (.cells us t)) ∧ ∀ (j : Nat) u, us[j]? = some u → I' w.heap.size j = some u := by
  refine ⟨fun k o => if k = w.heap.size then us[o]? else I k o, h.world rfl rfl rfl (by simp) (fun k hk => Below.heap_alloc w _ k hk) (fun k o hk => by rw [if_neg (by omega)]) (fun k o v hk hv => ?_), fun j u hj => by simp [hj]⟩
  split at hv
  · rename_i e
    subst e
    rw [World.cell?_alloc_new]
    exact hv
  · rw [h.fresh hk] at hv; simp at hv
/-- A new box. -/
theorem Rel.newBox (h : Rel I G H w) {cs : List AV} {us : List Value} (hc : CRs I G cs us) (t : TypeId) : Nx I G H w I (G ++ [.blk w.heap.size]) (H ++ [.cells cs]) (w.alloc (.cells us.toArray t)) := by
  have he : Ext I G I (G ++ [.blk w.heap.size]) := ⟨fun _ _ _ h => h, fun i g hg => ⟨g, by rw [List.getElem?_append_left (List.getElem?_eq_some_iff.1 hg).1]; exact hg, GLe.refl g⟩⟩
  have hnew : (w.alloc (.cells us.toArray t)).heap[w.heap.size]? = some (.cells us.toArray t (0, 0)) := heap_alloc_new w _
  have old : ∀ (i : Nat) b g, (H ++ [.cells cs])[i]? = some b → (G ++ [.blk w.heap.size])[i]? = some g → (H[i]? = some b ∧ G[i]? = some g) ∨ (i = H.length ∧ b = .cells cs ∧ g = .blk w.heap.size) := by
    intro i b g hb hg
    rcases Nat.lt_trichotomy i H.length with hi | hi | hi
    · rw [List.getElem?_append_left hi] at hb
      rw [List.getElem?_append_left (by rw [h.len]; exact hi)] at hg
      exact .inl ⟨hb, hg⟩
    · subst hi
      rw [List.getElem?_append_right (Nat.le_refl _)] at hb
      rw [List.getElem?_append_right (by rw [h.len]; exact Nat.le_refl _), h.len] at hg
      simp only [Nat.sub_self, List.getElem?_cons_zero, Option.some.injEq] at hb hg
      exact .inr ⟨rfl, hb.symm, hg.symm⟩
    · rw [List.getElem?_eq_none (by simp; omega)] at hb; simp at hb
  refine ⟨he, ⟨by simp [h.len], fun k o v hv => ?_, fun i b g hb hg => ?_, fun i j bi gi bj gj k hij hbi hgi hbj hgj hoi hoj => ?_⟩, ⟨rfl, rfl, rfl, by simp, fun k hk _ => Below.heap_alloc w _ k hk, fun k ho => ?_⟩, fun _ _ _ _ => rfl⟩
  · have : k < w.heap.size := World.block_lt_of_cell? w _ (h.imm k o v hv)
    rw [cell_of_heap (Below.heap_alloc w _ k this)]
    exact h.imm k o v hv
  · rcases old i b g hb hg with ⟨hb, hg⟩ | ⟨_, rfl, rfl⟩
    · exact (h.box i b g hb hg).keep he (fun k ho => Below.heap_alloc w _ k ((h.box i b g hb hg).own_lt ho)) (fun _ _ _ => rfl)
    · exact ⟨us.toArray, t, hnew, hc.ext he, fun o => h.fresh (Nat.le_refl _)⟩
  · rcases old i bi gi hbi hgi with ⟨hbi, hgi⟩ | ⟨ei, rfl, rfl⟩
    · rcases old j bj gj hbj hgj with ⟨hbj, hgj⟩ | ⟨ej, rfl, rfl⟩
      · exact h.sep i j bi gi bj gj k hij hbi hgi hbj hgj hoi hoj
      · simp only [own, Option.some.injEq] at hoj
        have := (h.box i bi gi hbi hgi).own_lt hoi
        omega
    · rcases old j bj gj hbj hgj with ⟨hbj, hgj⟩ | ⟨ej, rfl, rfl⟩
      · simp only [own, Option.some.injEq] at hoi
        have := (h.box j bj gj hbj hgj).own_lt hoj
        omega
      · omega
  · obtain ⟨i, b, g, hb, hg, ho⟩ := ho
    rcases old i b g hb hg with ⟨hb, hg⟩ | ⟨_, rfl, rfl⟩
    · exact .inl ⟨i, b, g, hb, hg, ho⟩
    · simp only [own, Option.some.injEq] at ho
      exact .inr (by omega)
/-- A leave to append, of what is nil. -/
theorem Rel.newTok (h : Rel I G H w) (es : Nat) : Nx I G H w I (G ++ [.tok fun n => if n = 0 then some (.slice none 0 0) else none]) (H ++ [.tok 0 es]) w := by
  have he : Ext I G I (G ++ [.tok fun n => if n = 0 then some (.slice none 0 0) else none]) := ⟨fun _ _ _ h => h, fun i g hg => ⟨g, by rw [List.getElem?_append_left (List.getElem?_eq_some_iff.1 hg).1]; exact hg, GLe.refl g⟩⟩
  have old : ∀ (i : Nat) b g, (H ++ [.tok 0 es])[i]? = some b → (G ++ [.tok fun n => if n = 0 then some (.slice none 0 0) else none])[i]? = some g → (H[i]? = some b ∧ G[i]? = some g) ∨ (i = H.length ∧ b = .tok 0 es ∧ g = .tok fun n => if n = 0 then some (.slice none 0 0) else none) := by
    intro i b g hb hg
    rcases Nat.lt_trichotomy i H.length with hi | hi | hi
    · rw [List.getElem?_append_left hi] at hb
      rw [List.getElem?_append_left (by rw [h.len]; exact hi)] at hg
      exact .inl ⟨hb, hg⟩
    · subst hi
      rw [List.getElem?_append_right (Nat.le_refl _)] at hb
      rw [List.getElem?_append_right (by rw [h.len]; exact Nat.le_refl _), h.len] at hg
      simp only [Nat.sub_self, List.getElem?_cons_zero, Option.some.injEq] at hb hg
      exact .inr ⟨rfl, hb.symm, hg.symm⟩
    · rw [List.getElem?_eq_none (by simp; omega)] at hb; simp at hb
  refine ⟨he, ⟨by simp [h.len], h.imm, fun i b g hb hg => ?_, fun i j bi gi bj gj k hij hbi hgi hbj hgj hoi hoj => ?_⟩, ⟨rfl, rfl, rfl, Nat.le_refl _, fun k hk _ => rfl, fun k ho => ?_⟩, fun _ _ _ _ => rfl⟩
  · rcases old i b g hb hg with ⟨hb, hg⟩ | ⟨_, rfl, rfl⟩
    · exact (h.box i b g hb hg).keep he (fun _ _ => rfl) (fun _ _ _ => rfl)
    · exact ⟨_, rfl, fun m hm => if_neg (by omega), .inl ⟨rfl, rfl⟩⟩
  · rcases old i bi gi hbi hgi with ⟨hbi, hgi⟩ | ⟨ei, rfl, rfl⟩
    · rcases old j bj gj hbj hgj with ⟨hbj, hgj⟩ | ⟨ej, rfl, rfl⟩
      · exact h.sep i j bi gi bj gj k hij hbi hgi hbj hgj hoi hoj
      · simp [own, Value.ownBlock] at hoj
    · simp [own, Value.ownBlock] at hoi
  · obtain ⟨i, b, g, hb, hg, ho⟩ := ho
    rcases old i b g hb hg with ⟨hb, hg⟩ | ⟨_, rfl, rfl⟩
    · exact .inl ⟨i, b, g, hb, hg, ho⟩
    · simp [own, Value.ownBlock] at ho
/-- Younger boxes are let go. -/
theorem Rel.take (h : Rel I G H w) (n : Nat) (hn : ∀ (i : Nat) bx, i < n → H[i]? = some bx → under n bx.names = true) : Rel I (G.take n) (H.take n) w := by
  refine ⟨by simp [h.len], h.imm, fun i b g hb hg => ?_, fun i j bi gi bj gj k hij hbi hgi hbj hgj => ?_⟩
  · rw [List.getElem?_take] at hb hg
    split at hb
    · rename_i hi
      rw [if_pos hi] at hg
      have hB := h.box i b g hb hg
      have hu := hn i b hi hb
      cases b with
      | dead => trivial
      | tok m es => cases g <;> exact hB
      | cells cs =>
        cases g with
        | tok f => exact hB.elim
        | blk k =>
          obtain ⟨us, t, hh, hc, hi⟩ := hB
          exact ⟨us, t, hh, hc.take hu, hi⟩
    · simp at hb
  · rw [List.getElem?_take] at hbi hgi hbj hgj
    split at hbi <;> split at hbj <;> simp_all
    exact h.sep i j bi gi bj gj k hij hbi hgi hbj hgj
/-- One box turns, and what it holds. -/
theorem Rel.update (h : Rel I G H w) {b : Nat} {bx : Box} {g : Gh} (hb : H[b]? = some bx) (hg : G[b]? = some g) {bx' : Box} {g' : Gh} {I' : Imm} {w' : World} (hle : GLe g g') (hII : ∀ k o v, I k o = some v → I' k o = some v)
    (hos : w'.os = w.os) (ht : w'.tape = w.tape) (hout : w'.output = w.output) (hs : w.heap.size ≤ w'.heap.size)
    (hheap : ∀ k, k < w.heap.size → own bx g ≠ some k → w'.heap[k]? = w.heap[k]?) (hIk : ∀ k o, k < w.heap.size → own bx g ≠ some k → I' k o = I k o)
    (himm : ∀ k o v, (own bx g = some k ∨ w.heap.size ≤ k) → I' k o = some v → w'.cell? ⟨k, o, none⟩ = some v)
    (hbox : BoxOk I' (G.set b g') w' bx' g') (hown : ∀ k, own bx' g' = some k → own bx g = some k ∨ w.heap.size ≤ k) : Nx I G H w I' (G.set b g') (H.set b bx') w' := by
  have hbl : b < H.length := (List.getElem?_eq_some_iff.1 hb).1
  have hgl : b < G.length := (List.getElem?_eq_some_iff.1 hg).1
  have he : Ext I G I' (G.set b g') := ⟨hII, fun i g1 h1 => by
    by_cases e : b = i
    · subst e
      rw [hg] at h1
      obtain rfl := Option.some.inj h1
      exact ⟨g', by rw [List.getElem?_set_self hgl], hle⟩
    · exact ⟨g1, by rw [List.getElem?_set_ne e]; exact h1, GLe.refl g1⟩⟩
  have old : ∀ (i : Nat) b1 g1, (H.set b bx')[i]? = some b1 → (G.set b g')[i]? = some g1 → (i ≠ b ∧ H[i]? = some b1 ∧ G[i]? = some g1) ∨ (i = b ∧ b1 = bx' ∧ g1 = g') := by
    intro i b1 g1 h1 h2
    by_cases e : b = i
    · subst e
      rw [List.getElem?_set_self hbl] at h1
      rw [List.getElem?_set_self hgl] at h2
      exact .inr ⟨rfl, (Option.some.inj h1).symm, (Option.some.inj h2).symm⟩
    · rw [List.getElem?_set_ne e] at h1 h2
      exact .inl ⟨Ne.symm e, h1, h2⟩
  refine ⟨he, ⟨by simp [h.len], fun k o v hv => ?_, fun i b1 g1 h1 h2 => ?_, fun i j bi gi bj gj k hij hbi hgi hbj hgj hoi hoj => ?_⟩, ⟨hos, ht, hout, hs, fun k hk hn => hheap k hk (fun ho => hn ⟨b, bx, g, hb, hg, ho⟩), fun k ho => ?_⟩, fun k o hk hn => hIk k o hk (fun ho => hn ⟨b, bx, g, hb, hg, ho⟩)⟩
  · by_cases hk : k < w.heap.size
    · by_cases ho : own bx g = some k
      · exact himm k o v (.inl ho) hv
      · rw [hIk k o hk ho] at hv
        rw [cell_of_heap (hheap k hk ho)]
        exact h.imm k o v hv
    · exact himm k o v (.inr (by omega)) hv
  · rcases old i b1 g1 h1 h2 with ⟨hne, h1, h2⟩ | ⟨_, rfl, rfl⟩
    · have hB := h.box i b1 g1 h1 h2
      exact hB.keep he (fun k ho => hheap k (hB.own_lt ho) (fun ho' => h.sep b i bx g b1 g1 k (Ne.symm hne) hb hg h1 h2 ho' ho)) (fun k o ho => hIk k o (hB.own_lt ho) (fun ho' => h.sep b i bx g b1 g1 k (Ne.symm hne) hb hg h1 h2 ho' ho))
    · exact hbox
  · rcases old i bi gi hbi hgi with ⟨ni, hb1, hg1⟩ | ⟨ei, eb, eg⟩
    · rcases old j bj gj hbj hgj with ⟨nj, hb2, hg2⟩ | ⟨ej, eb, eg⟩
      · exact h.sep i j bi gi bj gj k hij hb1 hg1 hb2 hg2 hoi hoj
      · rw [eb, eg] at hoj
        rcases hown k hoj with ho | ho
        · exact h.sep i b bi gi bx g k ni hb1 hg1 hb hg hoi ho
        · have := (h.box i bi gi hb1 hg1).own_lt hoi
          omega
    · rw [eb, eg] at hoi
      rcases old j bj gj hbj hgj with ⟨nj, hb2, hg2⟩ | ⟨ej, eb, eg⟩
      · rcases hown k hoi with ho | ho
        · exact h.sep j b bj gj bx g k nj hb2 hg2 hb hg hoj ho
        · have := (h.box j bj gj hb2 hg2).own_lt hoj
          omega
      · omega
  · obtain ⟨i, b1, g1, h1, h2, ho⟩ := ho
    rcases old i b1 g1 h1 h2 with ⟨_, h1, h2⟩ | ⟨_, rfl, rfl⟩
    · exact .inl ⟨i, b1, g1, h1, h2, ho⟩
    · rcases hown k ho with ho | ho
      · exact .inl ⟨b, bx, g, hb, hg, ho⟩
      · exact .inr ho
theorem set_self {α : Type} {l : List α} {b : Nat} {x : α} (h : l[b]? = some x) : l.set b x = l := by
  apply List.ext_getElem?
  intro i
  by_cases e : b = i
  · subst e
    rw [List.getElem?_set_self (List.getElem?_eq_some_iff.1 h).1, h]
  · rw [List.getElem?_set_ne e]
/-- A store. -/
theorem Rel.store (h : Rel I G H w) {b k : Nat} {cs : List AV} (hb : H[b]? = some (.cells cs)) (hg : G[b]? = some (.blk k)) {us : Array Value} {t : TypeId} (hh : w.heap[k]? = some (.cells us t (0, 0))) {cs' : List AV} {us' : List Value} (hc : CRs I G cs' us') :
    Nx I G H w I G (H.set b (.cells cs')) (w.setRow k us'.toArray) := by
  obtain ⟨us0, t0, hh0, _, hi⟩ := h.box _ _ _ hb hg
  have := h.update hb hg (bx' := .cells cs') (g' := .blk k) (I' := I) (w' := w.setRow k us'.toArray) (GLe.refl _) (fun _ _ _ h => h) rfl rfl rfl (by simp) (fun k' _ ho => setRow_other w k k' _ (fun e => ho (by rw [e]; rfl))) (fun _ _ _ _ => rfl)
    (fun k' o v ho hv => by
      rcases ho with ho | ho
      · simp only [own, Option.some.injEq] at ho
        subst ho
        rw [hi o] at hv; simp at hv
      · rw [h.fresh ho] at hv; simp at hv)
    ⟨us'.toArray, t, setRow_heap w k us _ t _ hh, by rw [set_self hg]; exact hc, hi⟩ (fun k' ho => .inl ho)
  rwa [set_self hg] at this
theorem Owned.take {n k : Nat} (h : Owned (G.take n) (H.take n) k) : Owned G H k := by
  obtain ⟨i, b, g, hb, hg, ho⟩ := h
  rw [List.getElem?_take] at hb hg
  split at hb
  · rename_i hi
    rw [if_pos hi] at hg
    exact ⟨i, b, g, hb, hg, ho⟩
  · simp at hb
end
end Go.Proofs.Ytncnpgakflmibaa.Ai
