/- append onto a slice of the call's own. -/
import Derived.Test.YtncnpgakflmibaaAi4
set_option linter.unusedSimpArgs false
set_option linter.unusedVariables false
namespace Go.Proofs.Ytncnpgakflmibaa.Ai
open Go.RowKit

/-- What is appended: m elements, their cells. -/
structure SrcOk (P : Program) (w : World) (x : Value) (size m : Nat) (ns : List Value) : Prop where
  len : ∀ w1, (Builtin.lenOf x).run P w1 = .ok m w1
  cells : ∀ w1 : World, w1.heap = w.heap → (Builtin.firstCells size m x).run P w1 = .ok ns.toArray w1
  count : ns.length = m * size
  one : ∀ u ∈ ns, u.oneCell' = true
section
variable {P : Program} {w : World}
theorem gen_nil {t u ty e : TypeId} {i : TypeInfo} {z : Value} (ht : P.underlying t = some (.slice e)) (hu : P.underlying u = some (.slice e) ∨ P.underlying u = some .string) (hi : P.info? e = some i) (hz : i.zero = some z)
    {x : Value} {m : Nat} {ns : List Value} (hx : SrcOk P w x i.size m ns) (h0 : 0 < m) (h63 : (m : Int) ≤ 9223372036854775807) (h48 : m * i.bytes ≤ 281474976710656) :
    (Builtin.append_ #[t, u] ty #[.slice none 0 0, x]).run P w =
      .ok (.slice (some ⟨w.heap.size, 0, none⟩) m (grownCap w m 0 e)) (w.drew.alloc (.cells (ns.toArray ++ Builtin.zeroCells z.cells (grownCap w m 0 e - m)) e)) := by
  have hn : m ≠ 0 := by omega
  have h63' : ¬ (9223372036854775807 < (m : Int)) := by omega
  have h48' : ¬ (281474976710656 < Builtin.nextslicecap m 0 * i.bytes) := by rw [nextslicecap_zero h0]; omega
  have hf := hx.cells w.drew rfl
  rcases hu with hu | hu <;> simp [Builtin.append_, run_underlying ht, run_underlying hu, sizeOf, typeInfo, zeroValue, hi, hz, hx.len, hn, h63', h48', Question.forced, run_firstCells_none, hf, newRow, grownCap]
theorem gen_grow {t u ty e : TypeId} {i : TypeInfo} {z : Value} (ht : P.underlying t = some (.slice e)) (hu : P.underlying u = some (.slice e) ∨ P.underlying u = some .string) (hi : P.info? e = some i) (hz : i.zero = some z)
    {b : Addr} {n c : Nat} {olds : List Value} (hlo : olds.length = n * i.size) (holds : ∀ j v, olds[j]? = some v → w.cell? (b.add j) = some v)
    {x : Value} {m : Nat} {ns : List Value} (hx : SrcOk P w x i.size m ns) (hg : c < n + m) (h63 : ((n + m : Nat) : Int) ≤ 9223372036854775807) (hfit : Builtin.nextslicecap (n + m) c * i.bytes ≤ 281474976710656) :
    (Builtin.append_ #[t, u] ty #[.slice (some b) n c, x]).run P w =
      .ok (.slice (some ⟨w.heap.size, 0, none⟩) (n + m) (grownCap w (n + m) c e)) (w.drew.alloc (.cells (olds.toArray ++ ns.toArray ++ Builtin.zeroCells z.cells (grownCap w (n + m) c e - (n + m))) e)) := by
  have hn : ¬ (n + m ≤ c) := by omega
  have h63' : ¬ (9223372036854775807 < ((n : Int) + (m : Int))) := by omega
  have h48' : ¬ (281474976710656 < Builtin.nextslicecap (n + m) c * i.bytes) := by omega
  have hf := hx.cells w.drew rfl
  have hfo := run_firstCells_some (P := P) w.drew i.size n b n c olds hlo (by simpa using holds)
  rcases hu with hu | hu
  all_goals
    simp [Builtin.append_, run_underlying ht, run_underlying hu, sizeOf, typeInfo, zeroValue, hi, hz, hx.len, hn, h63', h48', Question.forced, hf, hfo, newRow, grownCap]
    congr 2
    apply Array.ext'
    simp [List.append_assoc]
theorem gen_room {t u ty e e' : TypeId} {i : TypeInfo} (ht : P.underlying t = some (.slice e)) (hu : P.underlying u = some (.slice e) ∨ P.underlying u = some .string) (hi : P.info? e = some i)
    {g n c : Nat} {cur : Array Value} (hg : w.heap[g]? = some (.cells cur e' (0, 0))) {x : Value} {m : Nat} {ns : List Value} (hx : SrcOk P w x i.size m ns) (hroom : n + m ≤ c) (hfit : n * i.size + ns.length ≤ cur.size) :
    (Builtin.append_ #[t, u] ty #[.slice (some ⟨g, 0, none⟩) n c, x]).run P w =
      .ok (.slice (some ⟨g, 0, none⟩) (n + m) c) (w.setRow g (cur.toList.take (n * i.size) ++ ns ++ cur.toList.drop (n * i.size + ns.length)).toArray) := by
  have hf := hx.cells w rfl
  have hst := run_storeCells_at P g (n * i.size) e' ns 0 cur w hg (by simpa using hfit) hx.one
  simp only [Nat.add_zero] at hst
  rcases hu with hu | hu <;> simp [Builtin.append_, run_underlying ht, run_underlying hu, sizeOf, typeInfo, hi, hx.len, hroom, hf, Addr.add_lit, hst]
theorem gen_none {t u ty e : TypeId} {i : TypeInfo} (ht : P.underlying t = some (.slice e)) (hu : P.underlying u = some (.slice e) ∨ P.underlying u = some .string) (hi : P.info? e = some i)
    {x : Value} (hx : SrcOk P w x i.size 0 []) : (Builtin.append_ #[t, u] ty #[.slice none 0 0, x]).run P w = .ok (.slice none 0 0) w := by
  have hf := hx.cells w rfl
  rcases hu with hu | hu <;> simp [Builtin.append_, run_underlying ht, run_underlying hu, sizeOf, typeInfo, hi, hx.len, hf]

set_option maxHeartbeats 1000000 in
theorem Rel.append {I : Imm} {G : List Gh} {H : List Box} (h : Rel I G H w) {t' : Nat} {n es : Nat} (hb : H[t']? = some (.tok n es)) {t u ty e : TypeId} {i : TypeInfo} {z : Value}
    (ht : P.underlying t = some (.slice e)) (hu : P.underlying u = some (.slice e) ∨ P.underlying u = some .string) (hi : P.info? e = some i) (hz : i.zero = some z) (hes : i.size = es) (hzs : z.cells.size = es) (hes0 : 0 < es) (hz1 : ∀ y ∈ z.cells.toList, y.oneCell' = true)
    {v : Value} {cs : List AV} (hv : CR I G (.sl n cs (some t')) v) (hcs : cs.length = n * es) {x : Value} {m : Nat} {xs : List AV} {ns : List Value} (hx : SrcOk P w x es m ns) (hxs : CRs I G xs ns)
    (h63 : n + m ≤ maxLen) (hbytes : (n + m) * i.bytes ≤ 140737488355328) :
    ∃ v' w' I' G', (Builtin.append_ #[t, u] ty #[v, x]).run P w = .ok v' w' ∧ Nx I G H w I' G' (H.set t' (.tok (n + m) es)) w' ∧ CR I' G' (.sl (n + m) (cs ++ xs) (some t')) v' := by
  subst hes
  have hsmall : n + m ≤ 9223372036854775807 := by simp only [maxLen] at h63; omega
  cases hv with
  | sl hcr hback hnc htok =>
  rename_i olds A cap
  obtain ⟨f, hg, hfn⟩ := htok t' rfl
  have hB := h.box _ _ _ hb hg
  obtain ⟨v1, hv1, hmore, htok⟩ := hB
  rw [hfn] at hv1
  obtain rfl := Option.some.inj hv1
  have hlo : olds.length = n * i.size := by rw [← hcr.length]; exact hcs
  have hall : (olds ++ ns).length = (n + m) * i.size := by rw [List.length_append, hlo, hx.count, Nat.add_mul]
  have gle : ∀ v' : Value, (m = 0 → v' = .slice A n cap) → GLe (.tok f) (.tok fun j => if j = n + m then some v' else f j) := by
    intro v' hm0 j y hy
    dsimp only
    split
    · rename_i ej
      by_cases hm : m = 0
      · rw [hm0 hm]
        have : j = n := by omega
        rw [this, hfn] at hy
        exact hy
      · rw [hmore j (by omega)] at hy; simp at hy
    · exact hy
  have more : ∀ v' : Value, ∀ j, n + m < j → (fun j => if j = n + m then some v' else f j) j = none := by
    intro v' j hj
    dsimp only
    rw [if_neg (by omega)]
    exact hmore j (by omega)
  have hcsx : ∀ {I' : Imm} {G' : List Gh}, Ext I G I' G' → CRs I' G' (cs ++ xs) (olds ++ ns) := fun he => (hcr.ext he).append (hxs.ext he)
  have hone : ∀ y ∈ olds ++ ns, y.oneCell' = true := fun y hy => by
    rcases List.mem_append.1 hy with hy | hy
    · exact hcr.one y hy
    · exact hx.one y hy
  -- a new row
  have grown : ∀ (old : Nat), old < n + m → (m = 0 → False) → own (.tok n i.size) (.tok f) = Value.ownBlock (.slice A n cap) →
      ∃ I' G', Nx I G H w I' G' (H.set t' (.tok (n + m) i.size)) (w.drew.alloc (.cells (olds.toArray ++ ns.toArray ++ Builtin.zeroCells z.cells (grownCap w (n + m) old e - (n + m))) e)) ∧
        CR I' G' (.sl (n + m) (cs ++ xs) (some t')) (.slice (some ⟨w.heap.size, 0, none⟩) (n + m) (grownCap w (n + m) old e)) := by
    intro old ho hm0 hown
    have hge := grownCap_ge w (n + m) old e
    have hcm : grownCap w (n + m) old e ≤ maxLen := grownCap_le_maxLen w (n + m) old e h63
    have hsz : (olds.toArray ++ ns.toArray ++ Builtin.zeroCells z.cells (grownCap w (n + m) old e - (n + m))).size = grownCap w (n + m) old e * i.size := by
      simp only [Array.size_append, List.size_toArray, size_zeroCells, hzs, hlo, hx.count, ← Nat.add_mul]
      congr 1
      omega
    have hget : ∀ o, o < (n + m) * i.size → (olds ++ ns)[o]? = (olds.toArray ++ ns.toArray ++ Builtin.zeroCells z.cells (grownCap w (n + m) old e - (n + m)))[o]? := by
      intro o ho
      rw [Array.getElem?_append_left (by simp only [Array.size_append, List.size_toArray, ← List.length_append, hall]; exact ho)]
      simp
    have hnx := h.update hb hg (bx' := .tok (n + m) i.size) (g' := .tok fun j => if j = n + m then some (.slice (some ⟨w.heap.size, 0, none⟩) (n + m) (grownCap w (n + m) old e)) else f j) (I' := fun k o => if k = w.heap.size then (olds ++ ns)[o]? else I k o)
      (w' := w.drew.alloc (.cells (olds.toArray ++ ns.toArray ++ Builtin.zeroCells z.cells (grownCap w (n + m) old e - (n + m))) e)) (gle _ (fun hm => (hm0 hm).elim)) (fun k o y hy => by
        show (if k = w.heap.size then _ else _) = _
        rw [if_neg]
        · exact hy
        · have := World.block_lt_of_cell? w _ (h.imm k o y hy)
          simp only at this
          omega) rfl rfl rfl (by simp) (fun k hk _ => Below.heap_alloc w.drew _ k hk) (fun k o hk _ => if_neg (by omega)) (fun k o y hk hy => by
        split at hy
        · rename_i ek
          have ho : o < (n + m) * i.size := by rw [← hall]; exact (List.getElem?_eq_some_iff.1 hy).1
          subst ek
          have hh := heap_alloc_new w.drew (.cells (olds.toArray ++ ns.toArray ++ Builtin.zeroCells z.cells (grownCap w (n + m) old e - (n + m))) e)
          rw [World.size_drew] at hh
          simp only [World.cell?, hh]
          rw [hget o ho] at hy
          simpa using hy
        · have hlt := World.block_lt_of_cell? w _ (h.imm k o y hy)
          rw [cell_of_heap (w := w) (Below.heap_alloc w.drew _ k hlt)]
          exact h.imm k o y hy) ⟨_, if_pos rfl, more _, .inr ⟨w.heap.size, _, _, e, rfl, hge, hcm, heap_alloc_new w.drew _, hsz, fun o ho => by dsimp only; rw [if_pos rfl]; exact hget o ho, fun o ho => by dsimp only; rw [if_pos rfl, List.getElem?_eq_none (by rw [hall]; exact ho)], fun y hy => by
        simp only [Array.toList_append, List.mem_append] at hy
        rcases hy with (hy | hy) | hy
        · exact hcr.one y hy
        · exact hx.one y hy
        · simp only [Builtin.zeroCells, Array.toList_map, List.mem_map] at hy
          obtain ⟨j, hj, rfl⟩ := hy
          refine hz1 _ ?_
          have : j % z.cells.size < z.cells.size := Nat.mod_lt _ (by rw [hzs]; exact hes0)
          rw [getElem!_pos z.cells _ this]
          simp⟩⟩ (fun k hk => by
        simp only [own, Option.bind_some, Value.ownBlock, if_true, Option.some.injEq] at hk
        exact .inr (by omega))
    refine ⟨_, _, hnx, .sl (hcsx hnx.ext) (.inr ⟨w.heap.size, 0, rfl, fun j y hj => by dsimp only; rw [if_pos rfl, Nat.zero_add]; exact hj⟩) hge (fun t2 h2 => ?_)⟩
    obtain rfl := Option.some.inj h2
    exact ⟨_, List.getElem?_set_self (List.getElem?_eq_some_iff.1 hg).1, if_pos rfl⟩
  have hown : own (.tok n i.size) (.tok f) = Value.ownBlock (.slice A n cap) := by simp [own, hfn]
  rcases htok with ⟨hnil, hn0⟩ | ⟨k, cap', us, te, heq, hnc', hcm, hheap, hus, hI1, hI2, hus1⟩
  · obtain ⟨rfl, -, rfl⟩ := Value.slice.inj hnil
    subst hn0
    have ho : olds = [] := List.eq_nil_of_length_eq_zero (by simpa using hlo)
    by_cases hm : m = 0
    · subst hm
      have hn : ns = [] := List.eq_nil_of_length_eq_zero (by simpa using hx.count)
      subst hn
      refine ⟨_, w, I, G, gen_none ht hu hi hx, ?_, ?_⟩
      · rw [set_self hb]; exact Nx.refl h
      · exact .sl (hcsx (Ext.refl _ _)) (.inl (by simp [ho])) (Nat.le_refl _) (fun t2 h2 => by
          obtain rfl := Option.some.inj h2
          exact ⟨f, hg, hfn⟩)
    · obtain ⟨I', G', h1, h2⟩ := grown 0 (by omega) hm hown
      have hr := gen_nil (w := w) ht hu hi hz (ty := ty) hx (by omega) (by omega) (by have hb := hbytes; simp only [Nat.zero_add] at hb; omega)
      subst ho
      simp only [Nat.zero_add, Array.empty_append, List.nil_append] at h1 h2 ⊢
      exact ⟨_, _, I', G', hr, h1, h2⟩
  · obtain ⟨rfl, -, rfl⟩ := Value.slice.inj heq
    have holds : ∀ j y, olds[j]? = some y → I k j = some y := by
      intro j y hj
      rcases hback with hback | ⟨k', o', hA, hat⟩
      · rw [hback] at hj; simp at hj
      · obtain ⟨rfl, rfl, -⟩ := Addr.mk.inj (Option.some.inj hA)
        have := hat j y hj
        rwa [Nat.zero_add] at this
    by_cases hroom : n + m ≤ cap
    · have hfit : n * i.size + ns.length ≤ us.size := by rw [hx.count, hus, ← Nat.add_mul]; exact Nat.mul_le_mul_right _ hroom
      have hr := gen_room (w := w) ht hu hi (ty := ty) hheap (n := n) (c := cap) hx hroom hfit
      have hnew : (us.toList.take (n * i.size) ++ ns ++ us.toList.drop (n * i.size + ns.length)).toArray.size = cap * i.size := by
        simp only [List.size_toArray, List.length_append, List.length_take, List.length_drop, Array.length_toList]
        rw [← hus]
        omega
      have hlen : (us.toList.take (n * i.size) ++ ns).length = (n + m) * i.size := by
        rw [List.length_append, List.length_take, Array.length_toList, hx.count, Nat.add_mul]
        congr 1
        omega
      have hold : us.toList.take (n * i.size) = olds := by
        apply List.ext_getElem?
        intro j
        by_cases hj : j < n * i.size
        · rw [List.getElem?_take_of_lt hj, Array.getElem?_toList, ← hI1 j hj]
          have hj2 : j < olds.length := by rw [hlo]; exact hj
          rw [List.getElem?_eq_getElem hj2]
          exact holds j _ (List.getElem?_eq_getElem hj2)
        · rw [List.getElem?_eq_none (by simp; omega), List.getElem?_eq_none (by omega)]
      rw [hold] at hr hnew hlen
      have hget : ∀ o, o < (n + m) * i.size → (olds ++ ns ++ us.toList.drop (n * i.size + ns.length)).toArray[o]? = (olds ++ ns)[o]? := fun o ho => by
        rw [List.getElem?_toArray, List.getElem?_append_left (by rw [hall]; exact ho)]
      have hnx := h.update hb hg (bx' := .tok (n + m) i.size) (g' := .tok fun j => if j = n + m then some (.slice (some ⟨k, 0, none⟩) (n + m) cap) else f j)
        (I' := fun k' o => if k' = k then (olds ++ ns)[o]? else I k' o) (w' := w.setRow k (olds ++ ns ++ us.toList.drop (n * i.size + ns.length)).toArray) (gle _ (fun hm => by subst hm; rfl)) (fun k' o y hy => by
          show (if k' = k then _ else _) = _
          split
          · rename_i ek
            subst ek
            by_cases ho : o < n * i.size
            · rw [List.getElem?_append_left (by omega)]
              have : o < olds.length := by omega
              rw [List.getElem?_eq_getElem this]
              have h2 := holds o _ (List.getElem?_eq_getElem this)
              rw [h2] at hy
              exact hy
            · rw [hI2 o (by omega)] at hy; simp at hy
          · exact hy) rfl rfl rfl (by simp) (fun k' _ ho => setRow_other w k k' _ (fun e => ho (by rw [e, hown]; rfl))) (fun k' o _ ho => if_neg (fun e => ho (by rw [e, hown]; rfl))) (fun k' o y hk' hy => by
          split at hy
          · rename_i ek
            subst ek
            have ho : o < (n + m) * i.size := by rw [← hall]; exact (List.getElem?_eq_some_iff.1 hy).1
            rw [cell_setRow_same w k' o us _ te _ hheap, hget o ho]
            exact hy
          · rename_i ek
            rw [cell_of_heap (w := w) (setRow_other w k k' _ ek)]
            exact h.imm k' o y hy) ⟨_, if_pos rfl, more _, .inr ⟨k, cap, _, te, rfl, hroom, hcm, setRow_heap w k us _ te _ hheap, hnew, fun o ho => by dsimp only; rw [if_pos rfl]; exact (hget o ho).symm, fun o ho => by dsimp only; rw [if_pos rfl, List.getElem?_eq_none (by rw [hall]; exact ho)], fun y hy => by
          rcases List.mem_append.1 hy with hy | hy
          · exact hone y hy
          · exact hus1 y (List.mem_of_mem_drop hy)⟩⟩ (fun k' hk' => by
          simp only [own, Option.bind_some, Value.ownBlock, if_true, Option.some.injEq] at hk'
          exact .inl (by rw [hown]; simp [Value.ownBlock, hk']))
      refine ⟨_, _, _, _, hr, hnx, .sl (hcsx hnx.ext) (.inr ⟨k, 0, rfl, fun j y hj => by dsimp only; rw [if_pos rfl, Nat.zero_add]; exact hj⟩) hroom (fun t2 h2 => ?_)⟩
      obtain rfl := Option.some.inj h2
      exact ⟨_, List.getElem?_set_self (List.getElem?_eq_some_iff.1 hg).1, if_pos rfl⟩
    · have hcell : ∀ j y, olds[j]? = some y → w.cell? ((⟨k, 0, none⟩ : Addr).add j) = some y := fun j y hj => by
        have hadd : (⟨k, 0, none⟩ : Addr).add j = ⟨k, j, none⟩ := by unfold Addr.add; split <;> simp_all
        rw [hadd]
        exact h.imm k j y (holds j y hj)
      have hr := gen_grow (w := w) ht hu hi hz (ty := ty) hlo hcell hx (by omega) (by omega) (growslice_fits (need := n + m) (old := cap) (by omega) hbytes)
      obtain ⟨I', G', h1, h2⟩ := grown cap (by omega) (by omega) hown
      exact ⟨_, _, I', G', hr, h1, h2⟩
end
end Go.Proofs.Ytncnpgakflmibaa.Ai
