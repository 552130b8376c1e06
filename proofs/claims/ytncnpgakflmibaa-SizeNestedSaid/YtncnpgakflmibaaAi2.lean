/- The abstract interpreter without fuel: what holds of it, equation by equation. -/
import Derived.Test.YtncnpgakflmibaaAi1
namespace Go.Proofs.Ytncnpgakflmibaa.Ai
variable {env : Nat → Option AFun}

def CallLe (c c' : CallFn) : Prop := ∀ f a H r, c f a H = some r → c' f a H = some r
theorem bind_le {α β : Type} {x x' : Option α} {f f' : α → Option β} {r : β} (hx : ∀ a, x = some a → x' = some a) (hf : ∀ a r, f a = some r → f' a = some r) (h : x.bind f = some r) : x'.bind f' = some r := by
  obtain ⟨a, ha, hr⟩ := Option.bind_eq_some_iff.1 h
  rw [hx a ha]
  exact hf a r hr
theorem callClosed_le {c c' : CallFn} (h : CallLe c c') {f : Nat} {a : List AV} {H : List Box} {r} (hr : callClosed c f a H = some r) : callClosed c' f a H = some r := by
  unfold callClosed at *
  split at hr
  · rename_i hn
    rw [if_pos hn]
    exact bind_le (h f a []) (fun _ _ h => h) hr
  · simp at hr
theorem callOn_le {c c' : CallFn} (h : CallLe c c') {f : Nat} {a : List AV} {H : List Box} {base : Nat} {r} (hr : callOn c f a H base = some r) : callOn c' f a H base = some r :=
  bind_le (fun _ h => h) (fun _ _ hr => bind_le (h _ _ _) (fun _ _ h => h) hr) hr
theorem callRead_le {c c' : CallFn} (h : CallLe c c') {f : Nat} {a : List AV} {H : List Box} {r} (hr : callRead c f a H = some r) : callRead c' f a H = some r :=
  bind_le (fun _ h => h) (fun _ _ hr => bind_le (h _ _ _) (fun _ _ h => h) hr) hr
theorem stepOp_le {c c' : CallFn} (h : CallLe c c') {op : AOp} {e : AO → AV} {H : List Box} {base : Nat} {r} (hr : stepOp c op e H base = some r) : stepOp c' op e H base = some r := by
  cases op with
  | callC f args => exact callClosed_le h hr
  | callR f args => exact callRead_le h hr
  | callS f args => exact callOn_le h hr
  | callVC f args => exact bind_le (fun _ h => h) (fun _ _ hr => callClosed_le h hr) hr
  | callVR f args => exact bind_le (fun _ h => h) (fun _ _ hr => callRead_le h hr) hr
  | callVS f args => exact bind_le (fun _ h => h) (fun _ _ hr => callOn_le h hr) hr
  | _ => exact hr
mutual
theorem runItem_le {c c' : CallFn} (h : CallLe c c') : ∀ (i : AItem) {s r}, runItem c i s = some r → runItem c' i s = some r
  | .one d op, _, _, hr => by
    rw [runItem] at hr ⊢
    exact bind_le (fun _ hs => stepOp_le h hs) (fun _ _ h => h) hr
  | .sc g b l r d, _, _, hr => by
    rw [runItem] at hr ⊢
    refine bind_le (fun _ h => h) (fun x r hr => bind_le (fun y hy => ?_) (fun _ _ h => h) hr) hr
    split at hy
    · rename_i hx
      rw [if_pos hx]
      exact bind_le (fun _ hs => runOps_le h l hs) (fun _ _ h => h) hy
    · rename_i hx
      rw [if_neg hx]
      exact hy
theorem runOps_le {c c' : CallFn} (h : CallLe c c') : ∀ (l : List AItem) {s r}, runOps c l s = some r → runOps c' l s = some r
  | [], _, _, hr => hr
  | i :: l, s, r, hr => by
    rw [runOps] at hr ⊢
    exact bind_le (fun _ hs => runItem_le h i hs) (fun _ _ hs => runOps_le h l hs) hr
end
theorem runFun_le {go go' : ACode → St → Option (Ex × St)} (h : ∀ c s r, go c s = some r → go' c s = some r) : CallLe (runFun go env) (runFun go' env) :=
  fun _ _ _ _ hr => bind_le (fun _ h => h) (fun _ _ hr => bind_le (h _ _) (fun _ _ h => h) hr) hr
theorem thenDo_le {f f' : St → Option (Ex × St)} (h : ∀ s r, f s = some r → f' s = some r) : ∀ x r, thenDo f x = some r → thenDo f' x = some r
  | (.nrm, _), _, hr => h _ _ hr
  | (.exit _, _), _, hr => hr
  | (.ret, _), _, hr => hr
theorem exec_succ : ∀ {k : Nat} {c : ACode} {s r}, exec env k c s = some r → exec env (k + 1) c s = some r
  | 0, _, _, _, h => by simp [exec] at h
  | k + 1, c, s, r, h => by
    have ih : ∀ c s r, exec env k c s = some r → exec env (k + 1) c s = some r := fun _ _ _ h => exec_succ h
    have hle : CallLe (runFun (exec env k) env) (runFun (exec env (k + 1)) env) := runFun_le ih
    cases c with
    | skip => exact h
    | ops l d live => rw [exec] at h ⊢; exact bind_le (fun _ h => runOps_le hle l h) (fun _ _ h => h) h
    | seq a b => rw [exec] at h ⊢; exact bind_le (fun _ h => ih _ _ _ h) (thenDo_le (ih _)) h
    | cond c a b =>
      rw [exec] at h ⊢
      split at h
      · split at h
        · rename_i hw; rw [if_pos hw]; exact ih _ _ _ h
        · rename_i hw; rw [if_neg hw]; exact ih _ _ _ h
      · simp at h
    | block id live a => rw [exec] at h ⊢; exact bind_le (fun _ h => ih _ _ _ h) (fun _ _ h => h) h
    | loop live a => rw [exec] at h ⊢; exact bind_le (fun _ h => ih _ _ _ h) (thenDo_le fun _ _ h => ih _ _ _ h) h
    | exit id => exact h
    | ret => exact h
theorem exec_le {k k' : Nat} (hk : k ≤ k') {c : ACode} {s r} (h : exec env k c s = some r) : exec env k' c s = some r := by
  induction hk with
  | refl => exact h
  | step _ ih => exact exec_succ ih
theorem exec_one {k k' : Nat} {c : ACode} {s r r'} (h : exec env k c s = some r) (h' : exec env k' c s = some r') : r = r' := by
  have a := exec_le (Nat.le_max_left k k') h
  have b := exec_le (Nat.le_max_right k k') h'
  exact Option.some.inj (a.symm.trans b)

open Classical in
noncomputable def Exec (env : Nat → Option AFun) (c : ACode) (s : St) : Option (Ex × St) :=
  if h : ∃ r k, exec env k c s = some r then some h.choose else none
noncomputable def Call (env : Nat → Option AFun) : CallFn := runFun (Exec env) env

theorem Exec_some {c : ACode} {s r} : Exec env c s = some r ↔ ∃ k, exec env k c s = some r := by
  constructor
  · intro h
    unfold Exec at h
    split at h
    · rename_i hx
      obtain ⟨k, hk⟩ := hx.choose_spec
      exact ⟨k, by rw [hk]; exact h⟩
    · simp at h
  · rintro ⟨k, hk⟩
    have hx : ∃ r k, exec env k c s = some r := ⟨r, k, hk⟩
    unfold Exec
    rw [dif_pos hx]
    obtain ⟨k', hk'⟩ := hx.choose_spec
    rw [exec_one hk' hk]
theorem exec_Exec {k : Nat} {c : ACode} {s r} (h : exec env k c s = some r) : Exec env c s = some r := Exec_some.2 ⟨k, h⟩
theorem Exec_eq {c : ACode} {s : St} {x : Option (Ex × St)} (h1 : ∀ r, x = some r → ∃ k, exec env k c s = some r) (h2 : ∀ k r, exec env k c s = some r → x = some r) : Exec env c s = x := by
  cases x with
  | some r => exact Exec_some.2 (h1 r rfl)
  | none =>
    cases hx : Exec env c s with
    | none => rfl
    | some r => obtain ⟨k, hk⟩ := Exec_some.1 hx; exact (h2 k r hk).symm ▸ rfl
theorem call_Call (k : Nat) : CallLe (runFun (exec env k) env) (Call env) := runFun_le fun _ _ _ h => exec_Exec h
theorem bind_some' {α β : Type} {x : Option α} {f : α → Option β} {a : α} {r : β} (hx : x = some a) (hf : f a = some r) : x.bind f = some r := by rw [hx]; exact hf
theorem Call_call {f : Nat} {a : List AV} {H : List Box} {r} (h : Call env f a H = some r) : ∃ k, runFun (exec env k) env f a H = some r := by
  obtain ⟨fn, hf, h⟩ := Option.bind_eq_some_iff.1 h
  obtain ⟨x, hx, h⟩ := Option.bind_eq_some_iff.1 h
  obtain ⟨k, hk⟩ := Exec_some.1 hx
  exact ⟨k, bind_some' hf (bind_some' hk h)⟩
theorem callClosed_Call {f : Nat} {a : List AV} {H : List Box} {r} (h : callClosed (Call env) f a H = some r) : ∃ k, callClosed (runFun (exec env k) env) f a H = some r := by
  unfold callClosed at h
  split at h
  · rename_i hn
    obtain ⟨x, hx, h⟩ := Option.bind_eq_some_iff.1 h
    obtain ⟨k, hk⟩ := Call_call hx
    exact ⟨k, by unfold callClosed; rw [if_pos hn]; exact bind_some' hk h⟩
  · simp at h
theorem callOn_Call {f : Nat} {a : List AV} {H : List Box} {base : Nat} {r} (h : callOn (Call env) f a H base = some r) : ∃ k, callOn (runFun (exec env k) env) f a H base = some r := by
  obtain ⟨x, h0, h⟩ := Option.bind_eq_some_iff.1 h
  obtain ⟨y, hy, h⟩ := Option.bind_eq_some_iff.1 h
  obtain ⟨k, hk⟩ := Call_call hy
  exact ⟨k, bind_some' h0 (bind_some' hk h)⟩
theorem callRead_Call {f : Nat} {a : List AV} {H : List Box} {r} (h : callRead (Call env) f a H = some r) : ∃ k, callRead (runFun (exec env k) env) f a H = some r := by
  obtain ⟨x, h0, h⟩ := Option.bind_eq_some_iff.1 h
  obtain ⟨y, hy, h⟩ := Option.bind_eq_some_iff.1 h
  obtain ⟨k, hk⟩ := Call_call hy
  exact ⟨k, bind_some' h0 (bind_some' hk h)⟩
theorem stepOp_Call {op : AOp} {e : AO → AV} {H : List Box} {base : Nat} {r} (h : stepOp (Call env) op e H base = some r) : ∃ k, stepOp (runFun (exec env k) env) op e H base = some r := by
  cases op with
  | callC f args => exact callClosed_Call h
  | callR f args => exact callRead_Call h
  | callS f args => exact callOn_Call h
  | callVC f args =>
    obtain ⟨g, hg, h⟩ := Option.bind_eq_some_iff.1 h
    obtain ⟨k, hk⟩ := callClosed_Call h
    exact ⟨k, bind_some' hg hk⟩
  | callVR f args =>
    obtain ⟨g, hg, h⟩ := Option.bind_eq_some_iff.1 h
    obtain ⟨k, hk⟩ := callRead_Call h
    exact ⟨k, bind_some' hg hk⟩
  | callVS f args =>
    obtain ⟨g, hg, h⟩ := Option.bind_eq_some_iff.1 h
    obtain ⟨k, hk⟩ := callOn_Call h
    exact ⟨k, bind_some' hg hk⟩
  | _ => exact ⟨0, h⟩
theorem fun_le {k k' : Nat} (h : k ≤ k') : CallLe (runFun (exec env k) env) (runFun (exec env k') env) := runFun_le fun _ _ _ hr => exec_le h hr
mutual
theorem runItem_Call : ∀ (i : AItem) {s r}, runItem (Call env) i s = some r → ∃ k, runItem (runFun (exec env k) env) i s = some r
  | .one d op, s, r, h => by
    rw [runItem] at h
    obtain ⟨x, hx, h⟩ := Option.bind_eq_some_iff.1 h
    obtain ⟨k, hk⟩ := stepOp_Call hx
    exact ⟨k, by rw [runItem]; exact bind_some' hk h⟩
  | .sc g b l r d, s, q, h => by
    rw [runItem] at h
    obtain ⟨x, hx, h⟩ := Option.bind_eq_some_iff.1 h
    obtain ⟨y, hy, h⟩ := Option.bind_eq_some_iff.1 h
    split at hy
    · rename_i hc
      obtain ⟨t, ht, hy⟩ := Option.bind_eq_some_iff.1 hy
      obtain ⟨k, hk⟩ := runOps_Call l ht
      exact ⟨k, by rw [runItem]; exact bind_some' hx (bind_some' (by rw [if_pos hc]; exact bind_some' hk hy) h)⟩
    · rename_i hc
      exact ⟨0, by rw [runItem]; exact bind_some' hx (bind_some' (by rw [if_neg hc]; exact hy) h)⟩
theorem runOps_Call : ∀ (l : List AItem) {s r}, runOps (Call env) l s = some r → ∃ k, runOps (runFun (exec env k) env) l s = some r
  | [], _, _, h => ⟨0, h⟩
  | i :: l, s, r, h => by
    rw [runOps] at h
    obtain ⟨x, hx, h⟩ := Option.bind_eq_some_iff.1 h
    obtain ⟨k1, h1⟩ := runItem_Call i hx
    obtain ⟨k2, h2⟩ := runOps_Call l h
    exact ⟨max k1 k2, by rw [runOps]; exact bind_some' (runItem_le (fun_le (Nat.le_max_left _ _)) i h1) (runOps_le (fun_le (Nat.le_max_right _ _)) l h2)⟩
end

/-! ### The equations -/
theorem Exec_skip (s : St) : Exec env .skip s = some (.nrm, s) := exec_Exec (k := 1) rfl
theorem Exec_exit (i : Nat) (s : St) : Exec env (.exit i) s = some (.exit i, s) := exec_Exec (k := 1) rfl
theorem Exec_ret (s : St) : Exec env .ret s = some (.ret, s) := exec_Exec (k := 1) rfl
theorem Exec_ops (l : List AItem) (d : Bool) (live : List Nat) (s : St) : Exec env (.ops l d live) s = (runOps (Call env) l s).bind (toEnd live) := by
  apply Exec_eq
  · intro r hr
    obtain ⟨t, ht, hr⟩ := Option.bind_eq_some_iff.1 hr
    obtain ⟨k, hk⟩ := runOps_Call l ht
    exact ⟨k + 1, by rw [exec]; exact bind_some' hk hr⟩
  · intro k r hk
    cases k with
    | zero => simp [exec] at hk
    | succ k => rw [exec] at hk; exact bind_le (fun _ h => runOps_le (call_Call k) l h) (fun _ _ h => h) hk
theorem Exec_then {x : Nat → Option (Ex × St)} {f : Nat → St → Option (Ex × St)} {X : Option (Ex × St)} {F : St → Option (Ex × St)} (hx : ∀ r, X = some r → ∃ k, ∀ k', k ≤ k' → x k' = some r) (hf : ∀ s r, F s = some r → ∃ k, ∀ k', k ≤ k' → f k' s = some r) {r} (h : X.bind (thenDo F) = some r) : ∃ k, (x k).bind (thenDo (f k)) = some r := by
  obtain ⟨⟨e, t⟩, ht, hr⟩ := Option.bind_eq_some_iff.1 h
  obtain ⟨k1, h1⟩ := hx _ ht
  cases e with
  | nrm =>
    obtain ⟨k2, h2⟩ := hf _ _ hr
    exact ⟨max k1 k2, bind_some' (h1 _ (Nat.le_max_left _ _)) (h2 _ (Nat.le_max_right _ _))⟩
  | exit i => exact ⟨k1, bind_some' (h1 _ (Nat.le_refl _)) hr⟩
  | ret => exact ⟨k1, bind_some' (h1 _ (Nat.le_refl _)) hr⟩
theorem Exec_all {c : ACode} {s r} (h : Exec env c s = some r) : ∃ k, ∀ k', k ≤ k' → exec env k' c s = some r := by
  obtain ⟨k, hk⟩ := Exec_some.1 h
  exact ⟨k, fun _ h => exec_le h hk⟩
theorem Exec_seq (a b : ACode) (s : St) : Exec env (.seq a b) s = (Exec env a s).bind (thenDo (Exec env b)) := by
  apply Exec_eq
  · intro r hr
    obtain ⟨k, hk⟩ := Exec_then (x := fun k => exec env k a s) (f := fun k => exec env k b) (fun _ h => Exec_all h) (fun _ _ h => Exec_all h) hr
    exact ⟨k + 1, by rw [exec]; exact hk⟩
  · intro k r hk
    cases k with
    | zero => simp [exec] at hk
    | succ k => rw [exec] at hk; exact bind_le (fun _ h => exec_Exec h) (thenDo_le fun _ _ h => exec_Exec h) hk
theorem Exec_cond (c : AO) (a b : ACode) (s : St) : Exec env (.cond c a b) s = match ev s.fr c with
    | .bool t => if t then Exec env a s else Exec env b s
    | _ => none := by
  apply Exec_eq
  · intro r hr
    split at hr
    · rename_i t hc
      split at hr
      · rename_i ht; obtain ⟨k, hk⟩ := Exec_some.1 hr; exact ⟨k + 1, by rw [exec, hc]; simp only [ht, if_true]; exact hk⟩
      · rename_i ht; obtain ⟨k, hk⟩ := Exec_some.1 hr; exact ⟨k + 1, by rw [exec, hc]; simp only [ht]; exact hk⟩
    · simp at hr
  · intro k r hk
    cases k with
    | zero => simp [exec] at hk
    | succ k =>
      rw [exec] at hk
      split at hk
      · rename_i t hc
        rw [hc]
        split at hk
        · rename_i ht; simp only [ht, if_true]; exact exec_Exec hk
        · rename_i ht; simp only [ht]; exact exec_Exec hk
      · simp at hk
theorem Exec_block (id : Nat) (live : List Nat) (a : ACode) (s : St) : Exec env (.block id live a) s = (Exec env a s).bind (atBlock s.H.length id live) := by
  apply Exec_eq
  · intro r hr
    obtain ⟨x, hx, hr⟩ := Option.bind_eq_some_iff.1 hr
    obtain ⟨k, hk⟩ := Exec_some.1 hx
    exact ⟨k + 1, by rw [exec]; exact bind_some' hk hr⟩
  · intro k r hk
    cases k with
    | zero => simp [exec] at hk
    | succ k => rw [exec] at hk; exact bind_le (fun _ h => exec_Exec h) (fun _ _ h => h) hk
theorem Exec_loop (live : List Nat) (a : ACode) (s : St) : Exec env (.loop live a) s = (Exec env a { s with fr := clean live s.fr }).bind (thenDo fun t => Exec env (.loop live a) (trunc s.H.length live t)) := by
  apply Exec_eq
  · intro r hr
    obtain ⟨k, hk⟩ := Exec_then (x := fun k => exec env k a { s with fr := clean live s.fr }) (f := fun k t => exec env k (.loop live a) (trunc s.H.length live t)) (fun _ h => Exec_all h) (fun _ _ h => Exec_all h) hr
    exact ⟨k + 1, by rw [exec]; exact hk⟩
  · intro k r hk
    cases k with
    | zero => simp [exec] at hk
    | succ k => rw [exec] at hk; exact bind_le (fun _ h => exec_Exec h) (thenDo_le fun _ _ h => exec_Exec h) hk
theorem Call_of {f : Nat} {fn : AFun} (hf : env f = some fn) (a : List AV) (H : List Box) : Call env f a H = (Exec env fn.body ⟨argsFr 0 a, H, H.length, false, false⟩).bind (atRet H.length fn.res) := by
  unfold Call runFun
  rw [hf]
  rfl
/-- A closed call, reckoned by the kernel. -/
theorem Call_closed {k f : Nat} {a : List AV} {H : List Box} {r} (h : runFun (exec env k) env f a H = some r) : Call env f a H = some r := call_Call k _ _ _ _ h

/-! ### For the walk by simp -/
theorem bind_ite {α β : Type} (c : Prop) [Decidable c] (x y : Option α) (f : α → Option β) : (if c then x else y).bind f = if c then x.bind f else y.bind f := by split <;> rfl
theorem ite_some {α : Type} (c : Prop) [Decidable c] (a b : α) : (if c then some a else some b) = some (if c then a else b) := by split <;> rfl
/-- As a rule of congruence: what comes behind is not looked at before it is asked. -/
theorem bind_left {α β : Type} {x y : Option α} {f : α → Option β} (h : x = y) : x.bind f = y.bind f := by rw [h]
theorem ite_some_nrm (c : Prop) [Decidable c] (s t : St) : (if c then some (Ex.nrm, s) else some (Ex.nrm, t)) = some (Ex.nrm, if c then s else t) := by split <;> rfl
theorem ite_some_ret (c : Prop) [Decidable c] (s t : St) : (if c then some (Ex.ret, s) else some (Ex.ret, t)) = some (Ex.ret, if c then s else t) := by split <;> rfl
theorem ite_some_bool (c : Prop) [Decidable c] (s t : Bool) : (if c then some s else some t) = some (if c then s else t) := by split <;> rfl
theorem ite_some_AV (c : Prop) [Decidable c] (s t : AV) : (if c then some s else some t) = some (if c then s else t) := by split <;> rfl
theorem ite_some_An (c : Prop) [Decidable c] (s t : An) : (if c then some s else some t) = some (if c then s else t) := by split <;> rfl
theorem ite_nrm (c : Prop) [Decidable c] (s t : St) : (if c then (Ex.nrm, s) else (Ex.nrm, t)) = (Ex.nrm, if c then s else t) := by split <;> rfl
theorem ite_St (c : Prop) [Decidable c] (f f' : Fr) (H H' : List Box) (n : Nat) (a a' b b' : Bool) : (if c then (⟨f, H, n, a, b⟩ : St) else ⟨f', H', n, a', b'⟩) = ⟨if c then f else f', if c then H else H', n, if c then a else a', if c then b else b'⟩ := by split <;> rfl
theorem ite_Fr (c : Prop) [Decidable c] (i : Nat) (v w : AV) (f f' : Fr) : (if c then (i, v) :: f else (i, w) :: f') = (i, if c then v else w) :: (if c then f else f') := by split <;> rfl
theorem ite_int (c : Prop) [Decidable c] (k : IntKind) (a b : Int) : (if c then AV.int k a else AV.int k b) = AV.int k (if c then a else b) := by split <;> rfl
theorem ite_bool (c : Prop) [Decidable c] (a b : Bool) : (if c then AV.bool a else AV.bool b) = AV.bool (if c then a else b) := by split <;> rfl
theorem ite_An (c : Prop) [Decidable c] (v w : AV) (H : List Box) (a b : Bool) : (if c then (⟨v, H, a, b⟩ : An) else ⟨w, H, a, b⟩) = ⟨if c then v else w, H, a, b⟩ := by split <;> rfl
end Go.Proofs.Ytncnpgakflmibaa.Ai
