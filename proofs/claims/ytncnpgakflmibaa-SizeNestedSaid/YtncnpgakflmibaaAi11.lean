/- A call on a heap of its own: a part of the boxes is handed in, under other names, and put back. -/
import Derived.Test.YtncnpgakflmibaaAi10
set_option linter.unusedSimpArgs false
set_option linter.unusedVariables false
set_option linter.unusedSectionVars false
namespace Go.Proofs.Ytncnpgakflmibaa.Ai
open Go.RowKit

/-! ### Lists -/
theorem optAll_get {α : Type} : ∀ {l : List (Option α)} {r : List α}, optAll l = some r → r.length = l.length ∧ ∀ (j : Nat) x, l[j]? = some x → ∃ y, x = some y ∧ r[j]? = some y
  | [], r, h => by
    simp only [optAll, Option.some.injEq] at h
    subst h
    exact ⟨rfl, fun j x hj => by simp at hj⟩
  | none :: l, r, h => by simp [optAll] at h
  | some a :: l, r, h => by
    simp only [optAll, Option.map_eq_some_iff] at h
    obtain ⟨r', hr, rfl⟩ := h
    obtain ⟨h1, h2⟩ := optAll_get hr
    refine ⟨by simp [h1], fun j x hj => ?_⟩
    cases j with
    | zero => simp at hj; exact ⟨a, hj.symm, rfl⟩
    | succ j => exact h2 j x (by simpa using hj)
theorem setAll_length {α : Type} : ∀ (ns : List Nat) (L X : List α), (setAll L ns X).length = L.length
  | [], L, X => by simp [setAll]
  | _ :: _, L, [] => by simp [setAll]
  | b :: ns, L, x :: X => by rw [setAll, setAll_length ns]; simp
theorem setAll_other {α : Type} : ∀ (ns : List Nat) (L X : List α) (i : Nat), i ∉ ns → (setAll L ns X)[i]? = L[i]?
  | [], L, X, i, _ => by simp [setAll]
  | _ :: _, L, [], i, _ => by simp [setAll]
  | b :: ns, L, x :: X, i, h => by
    simp only [List.mem_cons, not_or] at h
    rw [setAll, setAll_other ns _ X i h.2, List.getElem?_set_ne (Ne.symm h.1)]
theorem setAll_at {α : Type} : ∀ (ns : List Nat) (L X : List α) (j b : Nat) (x : α), ns.Nodup → (∀ b ∈ ns, b < L.length) → ns[j]? = some b → X[j]? = some x → (setAll L ns X)[b]? = some x
  | [], L, X, j, b, x, _, _, h, _ => by simp at h
  | _ :: _, L, [], j, b, x, _, _, _, h => by simp at h
  | c :: ns, L, y :: X, 0, b, x, hd, hl, h, hx => by
    simp only [List.getElem?_cons_zero, Option.some.injEq] at h hx
    subst h
    subst hx
    rw [List.nodup_cons] at hd
    rw [setAll, setAll_other ns _ X c hd.1, List.getElem?_set_self (hl c (by simp))]
  | c :: ns, L, y :: X, j + 1, b, x, hd, hl, h, hx => by
    rw [List.nodup_cons] at hd
    rw [setAll]
    exact setAll_at ns _ X j b x hd.2 (fun b hb => by rw [List.length_set]; exact hl b (by simp [hb])) (by simpa using h) (by simpa using hx)
theorem reach_nodup (H : List Box) : ∀ (k : Nat) (l acc : List Nat), acc.Nodup → (reach H k l acc).Nodup
  | 0, _, acc, h => h
  | k + 1, [], acc, h => h
  | k + 1, b :: r, acc, h => by
    unfold reach
    split
    · exact reach_nodup H k r acc h
    · rename_i hc
      refine reach_nodup H k _ _ ?_
      rw [List.nodup_append]
      refine ⟨h, by simp, fun a ha c hc' e => ?_⟩
      simp only [List.mem_singleton] at hc'
      subst hc'
      subst e
      simp only [List.contains_iff_mem] at hc
      exact hc ha
theorem idxOf_some {ns : List Nat} {b j : Nat} (h : idxOf ns b = some j) : ns[j]? = some b := by
  unfold idxOf at h
  rw [List.findIdx?_eq_some_iff_getElem] at h
  obtain ⟨hj, he, -⟩ := h
  rw [List.getElem?_eq_getElem hj]
  simpa using he
theorem nodup_idx {ns : List Nat} (h : ns.Nodup) {i j b : Nat} (hi : ns[i]? = some b) (hj : ns[j]? = some b) : i = j := by
  obtain ⟨hi1, hi2⟩ := List.getElem?_eq_some_iff.1 hi
  obtain ⟨hj1, hj2⟩ := List.getElem?_eq_some_iff.1 hj
  exact (List.getElem_inj h).1 (hi2.trans hj2.symm)

/-! ### Putting together -/
def mergeL {α : Type} (L : List α) (ns : List Nat) (X : List α) : List α := setAll L ns (X.take ns.length) ++ X.drop ns.length
section
variable {α : Type} {L X : List α} {ns : List Nat}
theorem mergeL_length : (mergeL L ns X).length = L.length + (X.length - ns.length) := by
  unfold mergeL
  rw [List.length_append, setAll_length, List.length_drop]
theorem mergeL_at {j b : Nat} {x : α} (hd : ns.Nodup) (hl : ∀ b ∈ ns, b < L.length) (hb : ns[j]? = some b) (hx : X[j]? = some x) : (mergeL L ns X)[b]? = some x := by
  have hj : j < ns.length := (List.getElem?_eq_some_iff.1 hb).1
  have hbl := hl b (List.mem_of_getElem? hb)
  unfold mergeL
  rw [List.getElem?_append_left (by rw [setAll_length]; exact hbl)]
  exact setAll_at ns L _ j b x hd hl hb (by rw [List.getElem?_take_of_lt hj]; exact hx)
theorem mergeL_other {i : Nat} (hi : i < L.length) (hn : i ∉ ns) : (mergeL L ns X)[i]? = L[i]? := by
  unfold mergeL
  rw [List.getElem?_append_left (by rw [setAll_length]; exact hi), setAll_other _ _ _ _ hn]
theorem mergeL_new {j : Nat} (hj : ns.length ≤ j) : (mergeL L ns X)[L.length + (j - ns.length)]? = X[j]? := by
  unfold mergeL
  rw [List.getElem?_append_right (by rw [setAll_length]; omega), setAll_length, List.getElem?_drop]
  congr 1
  omega
theorem mergeL_back {j b : Nat} {x : α} (hd : ns.Nodup) (hl : ∀ b ∈ ns, b < L.length) (hb : backOf ns L.length j = some b) (hx : X[j]? = some x) : (mergeL L ns X)[b]? = some x := by
  unfold backOf at hb
  split at hb
  · exact mergeL_at hd hl hb hx
  · obtain rfl := Option.some.inj hb
    rw [mergeL_new (by omega)]
    exact hx
/-- Each place is one of the part's, or an old one. -/
theorem mergeL_cases {i : Nat} {x : α} (hd : ns.Nodup) (hl : ∀ b ∈ ns, b < L.length) (hlen : ns.length ≤ X.length) (h : (mergeL L ns X)[i]? = some x) : (∃ j, backOf ns L.length j = some i ∧ X[j]? = some x) ∨ (i < L.length ∧ i ∉ ns ∧ L[i]? = some x) := by
  by_cases hi : i < L.length
  · by_cases hn : i ∈ ns
    · obtain ⟨j, hj, he⟩ := List.mem_iff_getElem.1 hn
      have hb : ns[j]? = some i := by rw [List.getElem?_eq_getElem hj, he]
      have hjx : j < X.length := by omega
      have := mergeL_at (X := X) hd hl hb (List.getElem?_eq_getElem hjx)
      rw [this] at h
      exact .inl ⟨j, by unfold backOf; rw [if_pos hj]; exact hb, by rw [List.getElem?_eq_getElem hjx]; exact h⟩
    · rw [mergeL_other hi hn] at h
      exact .inr ⟨hi, hn, h⟩
  · have e : i = L.length + ((ns.length + (i - L.length)) - ns.length) := by omega
    have h2 := mergeL_new (L := L) (X := X) (ns := ns) (j := ns.length + (i - L.length)) (by omega)
    rw [← e, h] at h2
    refine .inl ⟨ns.length + (i - L.length), ?_, h2.symm⟩
    unfold backOf
    rw [if_neg (by omega)]
    exact congrArg some (by omega)
theorem backOf_inj {m i j b : Nat} (hd : ns.Nodup) (hl : ∀ b ∈ ns, b < m) (hi : backOf ns m i = some b) (hj : backOf ns m j = some b) : i = j := by
  unfold backOf at hi hj
  split at hi <;> split at hj
  · exact nodup_idx hd hi hj
  · have := hl b (List.mem_of_getElem? hi)
    obtain rfl := Option.some.inj hj
    omega
  · have := hl b (List.mem_of_getElem? hj)
    obtain rfl := Option.some.inj hi
    omega
  · have := Option.some.inj hi
    have := Option.some.inj hj
    omega
end

/-! ### Names turned and turned back -/
section
variable {f g : Nat → Option Nat} (hfg : ∀ b b', f b = some b' → g b' = some b)
include hfg
mutual
theorem AV.ren_ren : ∀ {v v' : AV}, v.ren f = some v' → v'.ren g = some v
  | .sl n cs tok, v', h => by
    simp only [AV.ren] at h
    cases hc : AV.renL f cs with
    | none => rw [hc] at h; simp at h
    | some cs' =>
      rw [hc] at h
      have hb := AV.renL_ren hc
      cases tok with
      | none => simp only [Option.some.injEq] at h; subst h; simp [AV.ren, hb]
      | some t =>
        simp only [Option.map_eq_some_iff] at h
        obtain ⟨t', ht, rfl⟩ := h
        simp [AV.ren, hb, hfg _ _ ht]
  | .ptr b o, v', h => by
    simp only [AV.ren, Option.map_eq_some_iff] at h
    obtain ⟨b', hb, rfl⟩ := h
    simp [AV.ren, hfg _ _ hb]
  | .arr b o n, v', h => by
    simp only [AV.ren, Option.map_eq_some_iff] at h
    obtain ⟨b', hb, rfl⟩ := h
    simp [AV.ren, hfg _ _ hb]
  | .eptr cs, v', h => by
    simp only [AV.ren, Option.map_eq_some_iff] at h
    obtain ⟨cs', hc, rfl⟩ := h
    simp [AV.ren, AV.renL_ren hc]
  | .agg cs, v', h => by
    simp only [AV.ren, Option.map_eq_some_iff] at h
    obtain ⟨cs', hc, rfl⟩ := h
    simp [AV.ren, AV.renL_ren hc]
  | .tup cs, v', h => by
    simp only [AV.ren, Option.map_eq_some_iff] at h
    obtain ⟨cs', hc, rfl⟩ := h
    simp [AV.ren, AV.renL_ren hc]
  | .fn k cs, v', h => by
    simp only [AV.ren, Option.map_eq_some_iff] at h
    obtain ⟨cs', hc, rfl⟩ := h
    simp [AV.ren, AV.renL_ren hc]
  | .int _ _, v', h => by simp only [AV.ren, Option.some.injEq] at h; subst h; rfl
  | .bool _, v', h => by simp only [AV.ren, Option.some.injEq] at h; subst h; rfl
  | .str _, v', h => by simp only [AV.ren, Option.some.injEq] at h; subst h; rfl
  | .nilp, v', h => by simp only [AV.ren, Option.some.injEq] at h; subst h; rfl
  | .nils, v', h => by simp only [AV.ren, Option.some.injEq] at h; subst h; rfl
  | .nilm, v', h => by simp only [AV.ren, Option.some.injEq] at h; subst h; rfl
  | .nilf, v', h => by simp only [AV.ren, Option.some.injEq] at h; subst h; rfl
  | .nili, v', h => by simp only [AV.ren, Option.some.injEq] at h; subst h; rfl
  | .unk, v', h => by simp only [AV.ren, Option.some.injEq] at h; subst h; rfl
theorem AV.renL_ren : ∀ {l l' : List AV}, AV.renL f l = some l' → AV.renL g l' = some l
  | [], l', h => by simp only [AV.renL, Option.some.injEq] at h; subst h; rfl
  | v :: l, l', h => by
    simp only [AV.renL] at h
    split at h
    · rename_i v' l2 hv hl
      obtain rfl := Option.some.inj h
      simp [AV.renL, AV.ren_ren hv, AV.renL_ren hl]
    · simp at h
end
theorem Box.ren_ren {b b' : Box} (h : b.ren f = some b') : b'.ren g = some b := by
  cases b with
  | cells cs =>
    simp only [Box.ren, Option.map_eq_some_iff] at h
    obtain ⟨cs', hc, rfl⟩ := h
    simp [Box.ren, AV.renL_ren hfg hc]
  | tok n es => simp only [Box.ren, Option.some.injEq] at h; subst h; rfl
  | dead => simp only [Box.ren, Option.some.injEq] at h; subst h; rfl
end
theorem own_ren {f : Nat → Option Nat} {b b' : Box} {g : Gh} (h : b.ren f = some b') : own b' g = own b g := by
  cases b with
  | cells cs =>
    simp only [Box.ren, Option.map_eq_some_iff] at h
    obtain ⟨cs', hc, rfl⟩ := h
    cases g <;> rfl
  | tok n es => simp only [Box.ren, Option.some.injEq] at h; subst h; rfl
  | dead => simp only [Box.ren, Option.some.injEq] at h; subst h; rfl
theorem BoxOk.ren {I : Imm} {G G' : List Gh} {w : World} {f : Nat → Option Nat} {b b' : Box} {g : Gh} (h : BoxOk I G w b g) (hb : b.ren f = some b') (hf : RenOk f G G') : BoxOk I G' w b' g := by
  cases b with
  | cells cs =>
    simp only [Box.ren, Option.map_eq_some_iff] at hb
    obtain ⟨cs', hc, rfl⟩ := hb
    cases g with
    | tok f => exact h.elim
    | blk k =>
      obtain ⟨us, t, hh, hcr, hi⟩ := h
      exact ⟨us, t, hh, hcr.renL (fun _ _ _ h => h) hf hc, hi⟩
  | tok n es => simp only [Box.ren, Option.some.injEq] at hb; subst hb; cases g <;> exact h
  | dead => simp only [Box.ren, Option.some.injEq] at hb; subst hb; trivial

section
variable {I I' : Imm} {G G0' : List Gh} {H H0 H1 H2 : List Box} {w w' : World} {ns : List Nat}
structure Part (ns : List Nat) (G G0 : List Gh) (H H0 : List Box) : Prop where
  nd : ns.Nodup
  lt : ∀ b ∈ ns, b < H.length
  len : H0.length = ns.length
  glen : G0.length = ns.length
  g : ∀ (j b : Nat), ns[j]? = some b → G0[j]? = G[b]?
  h : ∀ (j b : Nat), ns[j]? = some b → ∃ bx bx0, H[b]? = some bx ∧ bx.ren (idxOf ns) = some bx0 ∧ H0[j]? = some bx0
theorem Part.renOk {G0 : List Gh} (p : Part ns G G0 H H0) : RenOk (idxOf ns) G G0 := fun b b' g hb hg => ⟨g, by rw [p.g b' b (idxOf_some hb)]; exact hg, GLe.refl g⟩
theorem Part.at {G0 : List Gh} (p : Part ns G G0 H H0) {j : Nat} {bx0 : Box} (h : H0[j]? = some bx0) : ∃ b bx, ns[j]? = some b ∧ H[b]? = some bx ∧ bx.ren (idxOf ns) = some bx0 := by
  have hj : j < ns.length := by rw [← p.len]; exact (List.getElem?_eq_some_iff.1 h).1
  obtain ⟨bx, bx', h1, h2, h3⟩ := p.h j _ (List.getElem?_eq_getElem hj)
  rw [h] at h3
  obtain rfl := Option.some.inj h3
  exact ⟨_, bx, List.getElem?_eq_getElem hj, h1, h2⟩
theorem Part.rel {G0 : List Gh} (p : Part ns G G0 H H0) (h : Rel I G H w) : Rel I G0 H0 w := by
  refine ⟨by rw [p.len, p.glen], h.imm, fun j bx0 g hb hg => ?_, fun i j bi gi bj gj k hij hbi hgi hbj hgj hoi hoj => ?_⟩
  · obtain ⟨b, bx, hj, hx, hr⟩ := p.at hb
    rw [p.g j b hj] at hg
    exact (h.box b bx g hx hg).ren hr p.renOk
  · obtain ⟨b, bx, h1, h2, h3⟩ := p.at hbi
    obtain ⟨c, cx, h4, h5, h6⟩ := p.at hbj
    rw [p.g i b h1] at hgi
    rw [p.g j c h4] at hgj
    rw [own_ren h3] at hoi
    rw [own_ren h6] at hoj
    refine h.sep b c bx gi cx gj k (fun e => ?_) h2 hgi h5 hgj hoi hoj
    subst e
    exact hij (nodup_idx p.nd h1 h4)
theorem Part.owned {G0 : List Gh} (p : Part ns G G0 H H0) {k : Nat} (h : Owned G0 H0 k) : ∃ b bx g, b ∈ ns ∧ H[b]? = some bx ∧ G[b]? = some g ∧ own bx g = some k := by
  obtain ⟨j, bx0, g, hb, hg, ho⟩ := h
  obtain ⟨b, bx, h1, h2, h3⟩ := p.at hb
  rw [p.g j b h1] at hg
  rw [own_ren h3] at ho
  exact ⟨b, bx, g, List.mem_of_getElem? h1, h2, hg, ho⟩
/-- The part has turned; the whole turns with it. -/
theorem Part.merge {G0 : List Gh} (p : Part ns G G0 H H0) (h : Rel I G H w) (hn : Nx I G0 H0 w I' G0' H1 w') (h2 : optAll (H1.map (Box.ren (backOf ns H.length))) = some H2) (hl : ns.length ≤ H1.length) :
    Nx I G H w I' (mergeL G ns G0') (mergeL H ns H2) w' ∧ RenOk (backOf ns H.length) G0' (mergeL G ns G0') := by
  obtain ⟨hlen2, hget2⟩ := optAll_get h2
  rw [List.length_map] at hlen2
  have hglen : G0'.length = H1.length := hn.rel.len
  have hltG : ∀ b ∈ ns, b < G.length := fun b hb => by rw [h.len]; exact p.lt b hb
  have hren : RenOk (backOf ns H.length) G0' (mergeL G ns G0') := fun b b' g hb hg => ⟨g, mergeL_back p.nd hltG (by rw [h.len]; exact hb) hg, GLe.refl g⟩
  have hat2 : ∀ {j : Nat} {bx2 : Box}, H2[j]? = some bx2 → ∃ bx1, H1[j]? = some bx1 ∧ bx1.ren (backOf ns H.length) = some bx2 := fun {j bx2} hj => by
    have hj1 : j < H1.length := by rw [← hlen2]; exact (List.getElem?_eq_some_iff.1 hj).1
    obtain ⟨y, hy, hy2⟩ := hget2 j _ (by rw [List.getElem?_map, List.getElem?_eq_getElem hj1]; rfl)
    rw [hj] at hy2
    obtain rfl := Option.some.inj hy2
    exact ⟨_, List.getElem?_eq_getElem hj1, hy⟩
  have hext : Ext I G I' (mergeL G ns G0') := ⟨hn.ext.1, fun i g hg => by
    have hi : i < G.length := (List.getElem?_eq_some_iff.1 hg).1
    by_cases hin : i ∈ ns
    · obtain ⟨j, hj, he⟩ := List.mem_iff_getElem.1 hin
      have hb : ns[j]? = some i := by rw [List.getElem?_eq_getElem hj, he]
      obtain ⟨g', hg', hle⟩ := hn.ext.2 j g (by rw [p.g j i hb]; exact hg)
      exact ⟨g', mergeL_at p.nd hltG hb hg', hle⟩
    · exact ⟨g, by rw [mergeL_other hi hin]; exact hg, GLe.refl g⟩⟩
  -- where a place of the whole comes from
  have cases2 : ∀ {i : Nat} {b : Box} {g : Gh}, (mergeL H ns H2)[i]? = some b → (mergeL G ns G0')[i]? = some g →
      (∃ j bx1, backOf ns H.length j = some i ∧ H1[j]? = some bx1 ∧ bx1.ren (backOf ns H.length) = some b ∧ G0'[j]? = some g) ∨ (i ∉ ns ∧ H[i]? = some b ∧ G[i]? = some g) := fun {i b g} hb hg => by
    rcases mergeL_cases p.nd p.lt (by omega) hb with ⟨j, hj, hb⟩ | ⟨hi, hin, hb⟩
    · obtain ⟨bx1, h1, hr⟩ := hat2 hb
      rcases mergeL_cases p.nd hltG (by omega) hg with ⟨j', hj', hg⟩ | ⟨hi', hin', hg⟩
      · rw [h.len] at hj'
        obtain rfl := backOf_inj p.nd p.lt hj hj'
        exact .inl ⟨j, bx1, hj, h1, hr, hg⟩
      · unfold backOf at hj
        split at hj
        · exact absurd (List.mem_of_getElem? hj) hin'
        · have := Option.some.inj hj
          rw [h.len] at hi'
          omega
    · rw [mergeL_other (by rw [h.len]; exact hi) hin] at hg
      exact .inr ⟨hin, hb, hg⟩
  have notOwned : ∀ {i k : Nat} {b : Box} {g : Gh}, i ∉ ns → H[i]? = some b → G[i]? = some g → own b g = some k → ¬ Owned G0 H0 k := fun {i k b g} hin hb hg ho ho0 => by
    obtain ⟨c, cx, cg, hc, h1, h2, h3⟩ := p.owned ho0
    exact h.sep i c b g cx cg k (fun e => hin (e ▸ hc)) hb hg h1 h2 ho h3
  have keep : ∀ {i : Nat} {b : Box} {g : Gh}, i ∉ ns → H[i]? = some b → G[i]? = some g → BoxOk I' (mergeL G ns G0') w' b g := fun {i b g} hin hb hg =>
    (h.box i b g hb hg).keep hext (fun k ho => hn.tr.keep k ((h.box i b g hb hg).own_lt ho) (notOwned hin hb hg ho)) (fun k o ho => hn.fr k o ((h.box i b g hb hg).own_lt ho) (notOwned hin hb hg ho))
  have ownOld : ∀ {k : Nat}, Owned G0 H0 k → Owned G H k := fun {k} ho => by
    obtain ⟨c, cx, cg, hc, h1, h2, h3⟩ := p.owned ho
    exact ⟨c, cx, cg, h1, h2, h3⟩
  refine ⟨⟨hext, ⟨?_, hn.rel.imm, fun i b g hb hg => ?_, fun i j bi gi bj gj k hij hbi hgi hbj hgj hoi hoj => ?_⟩, ⟨hn.tr.os, hn.tr.tape, hn.tr.output, hn.tr.size, fun k hk ho => hn.tr.keep k hk (fun ho0 => ho (ownOld ho0)), fun k ho => ?_⟩, fun k o hk ho => hn.fr k o hk (fun ho0 => ho (ownOld ho0))⟩, hren⟩
  · rw [mergeL_length, mergeL_length, h.len, hglen, hlen2]
  · rcases cases2 hb hg with ⟨j, bx1, hj, h1, hr, hg0⟩ | ⟨hin, hb, hg⟩
    · exact (hn.rel.box j bx1 g h1 hg0).ren hr hren
    · exact keep hin hb hg
  · rcases cases2 hbi hgi with ⟨a, ax, ha, ha1, har, hag⟩ | ⟨hin, hb, hg⟩
    · rw [own_ren har] at hoi
      rcases cases2 hbj hgj with ⟨c, cx, hc, hc1, hcr, hcg⟩ | ⟨hin', hb', hg'⟩
      · rw [own_ren hcr] at hoj
        refine hn.rel.sep a c ax gi cx gj k (fun e => ?_) ha1 hag hc1 hcg hoi hoj
        subst e
        rw [ha] at hc
        exact hij (Option.some.inj hc)
      · have hk := (h.box j bj gj hb' hg').own_lt hoj
        rcases hn.tr.own k ⟨a, ax, gi, ha1, hag, hoi⟩ with ho | ho
        · exact notOwned hin' hb' hg' hoj ho
        · omega
    · rcases cases2 hbj hgj with ⟨c, cx, hc, hc1, hcr, hcg⟩ | ⟨hin', hb', hg'⟩
      · rw [own_ren hcr] at hoj
        have hk := (h.box i bi gi hb hg).own_lt hoi
        rcases hn.tr.own k ⟨c, cx, gj, hc1, hcg, hoj⟩ with ho | ho
        · exact notOwned hin hb hg hoi ho
        · omega
      · exact h.sep i j bi gi bj gj k hij hb hg hb' hg' hoi hoj
  · obtain ⟨i, b, g, hb, hg, ho⟩ := ho
    rcases cases2 hb hg with ⟨j, bx1, hj, h1, hr, hg0⟩ | ⟨hin, hb, hg⟩
    · rw [own_ren hr] at ho
      rcases hn.tr.own k ⟨j, bx1, g, h1, hg0, ho⟩ with ho | ho
      · exact .inl (ownOld ho)
      · exact .inr ho
    · exact .inl ⟨i, b, g, hb, hg, ho⟩
theorem offHeap_part {args args0 : List AV} (h : Rel I G H w) (ho : offHeap args H = some (ns, args0, H0)) : ∃ G0, Part ns G G0 H H0 ∧ AV.renL (idxOf ns) args = some args0 := by
  unfold offHeap at ho
  obtain ⟨H0', h1, ho⟩ := Option.bind_eq_some_iff.1 ho
  obtain ⟨a0, h2, ho⟩ := Option.bind_eq_some_iff.1 ho
  obtain ⟨rfl, rfl, rfl⟩ := Prod.mk.inj (Option.some.inj ho) |>.imp id Prod.mk.inj
  generalize hns : reach H 1000 (AV.namesL args) [] = ns at h1 h2
  have hnd : ns.Nodup := by rw [← hns]; exact reach_nodup H _ _ _ (by simp)
  obtain ⟨hl, hg⟩ := optAll_get h1
  rw [List.length_map] at hl
  have hat : ∀ (j b : Nat), ns[j]? = some b → ∃ bx bx0, H[b]? = some bx ∧ bx.ren (idxOf ns) = some bx0 ∧ H0'[j]? = some bx0 := fun j b hj => by
    obtain ⟨y, hy, hy2⟩ := hg j _ (by rw [List.getElem?_map, hj]; rfl)
    obtain ⟨bx, hbx, hr⟩ := Option.bind_eq_some_iff.1 hy
    exact ⟨bx, y, hbx, hr, hy2⟩
  have hlt : ∀ b ∈ ns, b < H.length := fun b hb => by
    obtain ⟨j, hj, he⟩ := List.mem_iff_getElem.1 hb
    obtain ⟨bx, _, hbx, _⟩ := hat j b (by rw [List.getElem?_eq_getElem hj, he])
    exact (List.getElem?_eq_some_iff.1 hbx).1
  refine ⟨ns.map fun b => (G[b]?).getD (.blk 0), ⟨hnd, hlt, hl, by simp, fun j b hj => ?_, hat⟩, h2⟩
  have hb : b < G.length := by rw [h.len]; exact hlt b (List.mem_of_getElem? hj)
  rw [List.getElem?_map, hj, List.getElem?_eq_getElem hb]
  simp [List.getElem?_eq_getElem hb]
end
end Go.Proofs.Ytncnpgakflmibaa.Ai
