/- What an abstract value says of a value of the model, and abstract boxes of its memory. I: cells that never turn again; G: what each box is. -/
import Derived.Test.YtncnpgakflmibaaAi2
import Derived.WalkKit
set_option linter.unusedSimpArgs false
set_option linter.unusedVariables false
set_option linter.unusedSectionVars false
namespace Go.Proofs.Ytncnpgakflmibaa.Ai
open Go.RowKit

abbrev Imm := Nat → Nat → Option Value
inductive Gh where
  | blk (k : Nat)
  | tok (f : Nat → Option Value)
def GLe : Gh → Gh → Prop
  | .blk k, .blk k' => k = k'
  | .tok f, .tok f' => ∀ n v, f n = some v → f' n = some v
  | _, _ => False
theorem GLe.refl (g : Gh) : GLe g g := by cases g <;> simp [GLe]
theorem GLe.trans {a b c : Gh} (h : GLe a b) (h' : GLe b c) : GLe a c := by
  cases a <;> cases b <;> cases c <;> simp_all [GLe]
def At (I : Imm) (k o : Nat) (us : List Value) : Prop := ∀ j u, us[j]? = some u → I k (o + j) = some u
def Back (I : Imm) (A : Option Addr) (us : List Value) : Prop := us = [] ∨ ∃ k o, A = some ⟨k, o, none⟩ ∧ At I k o us
def TokOk (G : List Gh) (tok : Option Nat) (n : Nat) (v : Value) : Prop := ∀ t, tok = some t → ∃ f, G[t]? = some (.tok f) ∧ f n = some v
mutual
inductive CR (I : Imm) (G : List Gh) : AV → Value → Prop
  | int (k : IntKind) (n : Int) : CR I G (.int k n) (.int k n)
  | bool (b : Bool) : CR I G (.bool b) (.bool b)
  | str (s : List UInt8) : CR I G (.str s) (.string ⟨s.toArray⟩)
  | nilp : CR I G .nilp (.pointer none)
  | nils : CR I G .nils (.slice none 0 0)
  | nilm : CR I G .nilm (.map none)
  | nilf : CR I G .nilf .nilFunc
  | nili : CR I G .nili .nilIface
  | sl {n : Nat} {cs : List AV} {us : List Value} {tok : Option Nat} {A : Option Addr} {cap : Nat} (h : CRs I G cs us) (hb : Back I A us) (hn : n ≤ cap) (ht : TokOk G tok n (.slice A n cap)) : CR I G (.sl n cs tok) (.slice A n cap)
  | ptr {b o k : Nat} (h : G[b]? = some (.blk k)) : CR I G (.ptr b o) (.pointer (some ⟨k, o, none⟩))
  | eptr {cs : List AV} {us : List Value} {k o : Nat} (h : CRs I G cs us) (hb : At I k o us) : CR I G (.eptr cs) (.pointer (some ⟨k, o, none⟩))
  | arr {b o n k cap : Nat} (h : G[b]? = some (.blk k)) (hn : n ≤ cap) : CR I G (.arr b o n) (.slice (some ⟨k, o, none⟩) n cap)
  | agg {cs : List AV} {us : List Value} (h : CRs I G cs us) : CR I G (.agg cs) (.agg us.toArray)
  | tup {cs : List AV} {us : List Value} (h : CRt I G cs us) : CR I G (.tup cs) (.tuple us.toArray)
  | fn {f : Nat} {cs : List AV} {us : List Value} (h : CRt I G cs us) : CR I G (.fn f cs) (.func (.func f) #[] us.toArray)
  | unk (v : Value) : CR I G .unk v
inductive CRs (I : Imm) (G : List Gh) : List AV → List Value → Prop
  | nil : CRs I G [] []
  | cons {c : AV} {u : Value} {cs : List AV} {us : List Value} (h : CR I G c u) (h1 : u.oneCell' = true) (hs : CRs I G cs us) : CRs I G (c :: cs) (u :: us)
inductive CRt (I : Imm) (G : List Gh) : List AV → List Value → Prop
  | nil : CRt I G [] []
  | cons {c : AV} {u : Value} {cs : List AV} {us : List Value} (h : CR I G c u) (hs : CRt I G cs us) : CRt I G (c :: cs) (u :: us)
end

/-! ### Names turned; more known -/
def RenOk (f : Nat → Option Nat) (G G' : List Gh) : Prop := ∀ (b b' : Nat) (g : Gh), f b = some b' → G[b]? = some g → ∃ g', G'[b']? = some g' ∧ GLe g g'
section
variable {I I' : Imm} {G G' : List Gh} {f : Nat → Option Nat} (hI : ∀ k o v, I k o = some v → I' k o = some v) (hf : RenOk f G G')
include hI hf
mutual
theorem CR.ren {v v' : AV} {u : Value} (h : CR I G v u) (hv : v.ren f = some v') : CR I' G' v' u := by
  match h with
  | .int k n => simp only [AV.ren, Option.some.injEq] at hv; subst hv; exact .int k n
  | .bool b => simp only [AV.ren, Option.some.injEq] at hv; subst hv; exact .bool b
  | .str s => simp only [AV.ren, Option.some.injEq] at hv; subst hv; exact .str s
  | .nilp => simp only [AV.ren, Option.some.injEq] at hv; subst hv; exact .nilp
  | .nils => simp only [AV.ren, Option.some.injEq] at hv; subst hv; exact .nils
  | .nilm => simp only [AV.ren, Option.some.injEq] at hv; subst hv; exact .nilm
  | .nilf => simp only [AV.ren, Option.some.injEq] at hv; subst hv; exact .nilf
  | .nili => simp only [AV.ren, Option.some.injEq] at hv; subst hv; exact .nili
  | .unk u => simp only [AV.ren, Option.some.injEq] at hv; subst hv; exact .unk u
  | .sl (tok := tok) (A := A) (cs := cs) (us := us) (n := n) (cap := cap) hs hb hn ht =>
    have hb' : Back I' A us := by
      rcases hb with hb | ⟨k, o, hA, ha⟩
      · exact .inl hb
      · exact .inr ⟨k, o, hA, fun j u hj => hI _ _ _ (ha j u hj)⟩
    simp only [AV.ren] at hv
    cases hc : AV.renL f cs with
    | none => rw [hc] at hv; simp at hv
    | some cs' =>
      rw [hc] at hv
      cases tok with
      | none =>
        simp only [Option.some.injEq] at hv
        subst hv
        exact .sl (hs.renL hc) hb' hn (fun t ht => by simp at ht)
      | some t =>
        simp only [Option.map_eq_some_iff] at hv
        obtain ⟨t', ht', rfl⟩ := hv
        refine .sl (hs.renL hc) hb' hn (fun t2 h2 => ?_)
        obtain rfl := Option.some.inj h2
        obtain ⟨g, hg, hgn⟩ := ht t rfl
        obtain ⟨g', hg', hle⟩ := hf _ _ _ ht' hg
        cases g' with
        | blk k => exact hle.elim
        | tok g' => exact ⟨g', hg', hle _ _ hgn⟩
  | .ptr (b := b) (o := o) hb =>
    simp only [AV.ren, Option.map_eq_some_iff] at hv
    obtain ⟨b', hb', rfl⟩ := hv
    obtain ⟨g', hg', hle⟩ := hf _ _ _ hb' hb
    cases g' with
    | tok g' => exact hle.elim
    | blk k' => cases hle; exact .ptr hg'
  | .arr (b := b) (o := o) hb hn =>
    simp only [AV.ren, Option.map_eq_some_iff] at hv
    obtain ⟨b', hb', rfl⟩ := hv
    obtain ⟨g', hg', hle⟩ := hf _ _ _ hb' hb
    cases g' with
    | tok g' => exact hle.elim
    | blk k' => cases hle; exact .arr hg' hn
  | .eptr hs hb =>
    simp only [AV.ren, Option.map_eq_some_iff] at hv
    obtain ⟨cs', hc, rfl⟩ := hv
    exact .eptr (hs.renL hc) (fun j u hj => hI _ _ _ (hb j u hj))
  | .agg hs =>
    simp only [AV.ren, Option.map_eq_some_iff] at hv
    obtain ⟨cs', hc, rfl⟩ := hv
    exact .agg (hs.renL hc)
  | .tup hs =>
    simp only [AV.ren, Option.map_eq_some_iff] at hv
    obtain ⟨cs', hc, rfl⟩ := hv
    exact .tup (hs.renL hc)
  | .fn hs =>
    simp only [AV.ren, Option.map_eq_some_iff] at hv
    obtain ⟨cs', hc, rfl⟩ := hv
    exact .fn (hs.renL hc)
theorem CRs.renL {cs cs' : List AV} {us : List Value} (h : CRs I G cs us) (hc : AV.renL f cs = some cs') : CRs I' G' cs' us := by
  match h with
  | .nil => simp only [AV.renL, Option.some.injEq] at hc; subst hc; exact .nil
  | .cons (c := c) (cs := cs) h1 h2 hs =>
    simp only [AV.renL] at hc
    split at hc
    · rename_i v vs hv hvs
      obtain rfl := Option.some.inj hc
      exact .cons (h1.ren hv) h2 (hs.renL hvs)
    · simp at hc
theorem CRt.renL {cs cs' : List AV} {us : List Value} (h : CRt I G cs us) (hc : AV.renL f cs = some cs') : CRt I' G' cs' us := by
  match h with
  | .nil => simp only [AV.renL, Option.some.injEq] at hc; subst hc; exact .nil
  | .cons (c := c) (cs := cs) h1 hs =>
    simp only [AV.renL] at hc
    split at hc
    · rename_i v vs hv hvs
      obtain rfl := Option.some.inj hc
      exact .cons (h1.ren hv) (hs.renL hvs)
    · simp at hc
end
end
mutual
theorem AV.ren_id {f : Nat → Option Nat} : ∀ (v : AV), (∀ b ∈ v.names, f b = some b) → v.ren f = some v
  | .sl n cs tok, h => by
    have hc := AV.renL_id cs (fun b hb => h b (by simp [AV.names, hb]))
    cases tok with
    | none => simp only [AV.ren, hc]
    | some t =>
      have := h t (by simp [AV.names])
      simp [AV.ren, hc, this]
  | .ptr b o, h => by simp [AV.ren, h b (by simp [AV.names])]
  | .arr b o n, h => by simp [AV.ren, h b (by simp [AV.names])]
  | .eptr cs, h => by simp [AV.ren, AV.renL_id cs (fun b hb => h b (by simp [AV.names, hb]))]
  | .agg cs, h => by simp [AV.ren, AV.renL_id cs (fun b hb => h b (by simp [AV.names, hb]))]
  | .tup cs, h => by simp [AV.ren, AV.renL_id cs (fun b hb => h b (by simp [AV.names, hb]))]
  | .fn g cs, h => by simp [AV.ren, AV.renL_id cs (fun b hb => h b (by simp [AV.names, hb]))]
  | .int k n, _ => rfl
  | .bool b, _ => rfl
  | .str s, _ => rfl
  | .nilp, _ => rfl
  | .nils, _ => rfl
  | .nilm, _ => rfl
  | .nilf, _ => rfl
  | .nili, _ => rfl
  | .unk, _ => rfl
theorem AV.renL_id {f : Nat → Option Nat} : ∀ (l : List AV), (∀ b ∈ AV.namesL l, f b = some b) → AV.renL f l = some l
  | [], _ => rfl
  | v :: vs, h => by
    simp only [AV.renL]
    rw [AV.ren_id v (fun b hb => h b (by simp [AV.namesL, hb])), AV.renL_id vs (fun b hb => h b (by simp [AV.namesL, hb]))]
end
/-- More is known. -/
def Ext (I : Imm) (G : List Gh) (I' : Imm) (G' : List Gh) : Prop := (∀ k o v, I k o = some v → I' k o = some v) ∧ ∀ (i : Nat) (g : Gh), G[i]? = some g → ∃ g', G'[i]? = some g' ∧ GLe g g'
theorem Ext.refl (I : Imm) (G : List Gh) : Ext I G I G := ⟨fun _ _ _ h => h, fun _ g h => ⟨g, h, GLe.refl g⟩⟩
theorem Ext.trans {I I1 I2 : Imm} {G G1 G2 : List Gh} (h : Ext I G I1 G1) (h' : Ext I1 G1 I2 G2) : Ext I G I2 G2 :=
  ⟨fun k o v hv => h'.1 _ _ _ (h.1 _ _ _ hv), fun i g hg => by
    obtain ⟨g1, h1, l1⟩ := h.2 i g hg
    obtain ⟨g2, h2, l2⟩ := h'.2 i g1 h1
    exact ⟨g2, h2, l1.trans l2⟩⟩
theorem Ext.renOk {I I' : Imm} {G G' : List Gh} (h : Ext I G I' G') : RenOk some G G' := fun b b' g hb hg => by
  obtain rfl := Option.some.inj hb
  exact h.2 _ _ hg
theorem CR.ext {I I' : Imm} {G G' : List Gh} {v : AV} {u : Value} (h : CR I G v u) (he : Ext I G I' G') : CR I' G' v u := h.ren he.1 he.renOk (AV.ren_id v fun _ _ => rfl)
theorem CRs.ext {I I' : Imm} {G G' : List Gh} {v : List AV} {u : List Value} (h : CRs I G v u) (he : Ext I G I' G') : CRs I' G' v u := h.renL he.1 he.renOk (AV.renL_id v fun _ _ => rfl)
theorem CRt.ext {I I' : Imm} {G G' : List Gh} {v : List AV} {u : List Value} (h : CRt I G v u) (he : Ext I G I' G') : CRt I' G' v u := h.renL he.1 he.renOk (AV.renL_id v fun _ _ => rfl)
theorem CR.take {I : Imm} {G : List Gh} {v : AV} {u : Value} {n : Nat} (h : CR I G v u) (hn : under n v.names = true) : CR I (G.take n) v u := by
  refine h.ren (f := fun b => if b < n then some b else none) (fun _ _ _ h => h) (fun b b' g hb hg => ?_) (AV.ren_id v fun b hb => ?_)
  · dsimp only at hb
    split at hb
    · obtain rfl := Option.some.inj hb
      exact ⟨g, by rw [List.getElem?_take_of_lt (by assumption)]; exact hg, GLe.refl g⟩
    · simp at hb
  · have := List.all_eq_true.1 hn b hb
    simp only [decide_eq_true_eq] at this
    simp [this]
theorem CRs.take {I : Imm} {G : List Gh} {v : List AV} {u : List Value} {n : Nat} (h : CRs I G v u) (hn : under n (AV.namesL v) = true) : CRs I (G.take n) v u := by
  refine h.renL (f := fun b => if b < n then some b else none) (fun _ _ _ h => h) (fun b b' g hb hg => ?_) (AV.renL_id v fun b hb => ?_)
  · dsimp only at hb
    split at hb
    · obtain rfl := Option.some.inj hb
      exact ⟨g, by rw [List.getElem?_take_of_lt (by assumption)]; exact hg, GLe.refl g⟩
    · simp at hb
  · have := List.all_eq_true.1 hn b hb
    simp only [decide_eq_true_eq] at this
    simp [this]
/-- Without names a value hangs on no box. -/
theorem CR.noNames {I : Imm} {G G' : List Gh} {v : AV} {u : Value} (h : CR I G v u) (hn : v.names = []) : CR I G' v u :=
  h.ren (f := fun _ => none) (fun _ _ _ h => h) (fun _ _ _ hb => by simp at hb) (AV.ren_id v fun b hb => by rw [hn] at hb; simp at hb)
theorem CRt.noNames {I : Imm} {G G' : List Gh} {v : List AV} {u : List Value} (h : CRt I G v u) (hn : AV.namesL v = []) : CRt I G' v u :=
  h.renL (f := fun _ => none) (fun _ _ _ h => h) (fun _ _ _ hb => by simp at hb) (AV.renL_id v fun b hb => by rw [hn] at hb; simp at hb)
mutual
theorem CR.names_lt {I : Imm} {G : List Gh} {v : AV} {u : Value} (h : CR I G v u) : ∀ b ∈ v.names, b < G.length := by
  match h with
  | .int k n => simp [AV.names]
  | .bool b => simp [AV.names]
  | .str s => simp [AV.names]
  | .nilp => simp [AV.names]
  | .nils => simp [AV.names]
  | .nilm => simp [AV.names]
  | .nilf => simp [AV.names]
  | .nili => simp [AV.names]
  | .unk u => simp [AV.names]
  | .sl (tok := tok) hs hb hn ht =>
    intro b h
    simp only [AV.names, List.mem_append, Option.mem_toList] at h
    rcases h with h | h
    · exact hs.names_lt b h
    · obtain ⟨f, hf, _⟩ := ht b h
      exact (List.getElem?_eq_some_iff.1 hf).1
  | .ptr hb => intro b h; simp only [AV.names, List.mem_singleton] at h; subst h; exact (List.getElem?_eq_some_iff.1 hb).1
  | .arr hb hn => intro b h; simp only [AV.names, List.mem_singleton] at h; subst h; exact (List.getElem?_eq_some_iff.1 hb).1
  | .eptr hs hb => exact hs.names_lt
  | .agg hs => exact hs.names_lt
  | .tup hs => exact hs.names_lt
  | .fn hs => exact hs.names_lt
theorem CRs.names_lt {I : Imm} {G : List Gh} {v : List AV} {u : List Value} (h : CRs I G v u) : ∀ b ∈ AV.namesL v, b < G.length := by
  match h with
  | .nil => simp [AV.namesL]
  | .cons h1 _ hs =>
    intro b h
    simp only [AV.namesL, List.mem_append] at h
    rcases h with h | h
    · exact h1.names_lt b h
    · exact hs.names_lt b h
theorem CRt.names_lt {I : Imm} {G : List Gh} {v : List AV} {u : List Value} (h : CRt I G v u) : ∀ b ∈ AV.namesL v, b < G.length := by
  match h with
  | .nil => simp [AV.namesL]
  | .cons h1 hs =>
    intro b h
    simp only [AV.namesL, List.mem_append] at h
    rcases h with h | h
    · exact h1.names_lt b h
    · exact hs.names_lt b h
end
mutual
theorem CR.bare {I : Imm} {G : List Gh} {v : AV} {u : Value} (h : CR I G v u) : CR I G v.bare u := by
  match h with
  | .int k n => exact .int k n
  | .bool b => exact .bool b
  | .str s => exact .str s
  | .nilp => exact .nilp
  | .nils => exact .nils
  | .nilm => exact .nilm
  | .nilf => exact .nilf
  | .nili => exact .nili
  | .unk u => exact .unk u
  | .sl hs hb hn ht => exact .sl hs hb hn (fun t h => by simp at h)
  | .ptr hb => exact .ptr hb
  | .arr hb hn => exact .arr hb hn
  | .eptr hs hb => exact .eptr hs hb
  | .agg hs => exact .agg hs.bareL
  | .tup hs => exact .tup hs.bareL
  | .fn hs => exact .fn hs
theorem CRs.bareL {I : Imm} {G : List Gh} {v : List AV} {u : List Value} (h : CRs I G v u) : CRs I G (AV.bareL v) u := by
  match h with
  | .nil => exact .nil
  | .cons h1 h2 hs => exact .cons h1.bare h2 hs.bareL
theorem CRt.bareL {I : Imm} {G : List Gh} {v : List AV} {u : List Value} (h : CRt I G v u) : CRt I G (AV.bareL v) u := by
  match h with
  | .nil => exact .nil
  | .cons h1 hs => exact .cons h1.bare hs.bareL
end
/-! ### Lists of cells -/
theorem CRs.length {I : Imm} {G : List Gh} : ∀ {v : List AV} {u : List Value}, CRs I G v u → v.length = u.length
  | _, _, .nil => rfl
  | _, _, .cons _ _ hs => by simp [hs.length]
theorem CRt.length {I : Imm} {G : List Gh} : ∀ {v : List AV} {u : List Value}, CRt I G v u → v.length = u.length
  | _, _, .nil => rfl
  | _, _, .cons _ hs => by simp [hs.length]
theorem CRs.drop {I : Imm} {G : List Gh} : ∀ (n : Nat) {v : List AV} {u : List Value}, CRs I G v u → CRs I G (v.drop n) (u.drop n)
  | 0, _, _, h => h
  | n + 1, _, _, .nil => .nil
  | n + 1, _, _, .cons _ _ hs => hs.drop n
theorem CRs.takeN {I : Imm} {G : List Gh} : ∀ (n : Nat) {v : List AV} {u : List Value}, CRs I G v u → CRs I G (v.take n) (u.take n)
  | 0, _, _, h => by simp; exact .nil
  | n + 1, _, _, .nil => .nil
  | n + 1, _, _, .cons h1 h2 hs => .cons h1 h2 (hs.takeN n)
theorem CRs.append {I : Imm} {G : List Gh} {v' : List AV} {u' : List Value} : ∀ {v : List AV} {u : List Value}, CRs I G v u → CRs I G v' u' → CRs I G (v ++ v') (u ++ u')
  | _, _, .nil, h' => h'
  | _, _, .cons h1 h2 hs, h' => .cons h1 h2 (CRs.append hs h')
theorem CRs.get {I : Imm} {G : List Gh} {c : AV} : ∀ {v : List AV} {u : List Value} {j : Nat}, CRs I G v u → v[j]? = some c → ∃ x, u[j]? = some x ∧ CR I G c x ∧ x.oneCell' = true
  | _, _, _, .nil, h => by simp at h
  | _, _, 0, .cons h1 h2 hs, h => by simp only [List.getElem?_cons_zero, Option.some.injEq] at h; subst h; exact ⟨_, rfl, h1, h2⟩
  | _, _, j + 1, .cons h1 h2 hs, h => by simp only [List.getElem?_cons_succ] at h ⊢; exact hs.get h
theorem CRt.get {I : Imm} {G : List Gh} {c : AV} : ∀ {v : List AV} {u : List Value} {j : Nat}, CRt I G v u → v[j]? = some c → ∃ x, u[j]? = some x ∧ CR I G c x
  | _, _, _, .nil, h => by simp at h
  | _, _, 0, .cons h1 hs, h => by simp only [List.getElem?_cons_zero, Option.some.injEq] at h; subst h; exact ⟨_, rfl, h1⟩
  | _, _, j + 1, .cons h1 hs, h => by simp only [List.getElem?_cons_succ] at h ⊢; exact hs.get h
theorem CRs.one {I : Imm} {G : List Gh} : ∀ {v : List AV} {u : List Value}, CRs I G v u → ∀ x ∈ u, x.oneCell' = true
  | _, _, .nil, x, h => by simp at h
  | _, _, .cons h1 h2 hs, x, h => by
    rcases List.mem_cons.1 h with h | h
    · subst h; exact h2
    · exact hs.one x h
theorem CRs.flat {I : Imm} {G : List Gh} {v : List AV} {u : List Value} (h : CRs I G v u) : ∀ n, CRs I G (List.replicate n v).flatten (List.replicate n u).flatten
  | 0 => .nil
  | n + 1 => by rw [List.replicate_succ, List.replicate_succ, List.flatten_cons, List.flatten_cons]; exact h.append (h.flat n)
theorem At.drop {I : Imm} {k o : Nat} {us : List Value} (h : At I k o us) (n : Nat) : At I k (o + n) (us.drop n) := fun j u hj => by
  rw [List.getElem?_drop] at hj
  rw [Nat.add_assoc]
  exact h _ _ hj
theorem At.take {I : Imm} {k o : Nat} {us : List Value} (h : At I k o us) (n : Nat) : At I k o (us.take n) := fun j u hj => by
  rw [List.getElem?_take] at hj
  split at hj
  · exact h _ _ hj
  · simp at hj
end Go.Proofs.Ytncnpgakflmibaa.Ai
