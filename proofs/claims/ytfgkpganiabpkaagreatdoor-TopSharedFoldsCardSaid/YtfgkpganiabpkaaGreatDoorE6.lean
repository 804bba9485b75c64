import Derived.Test.YtfgkpganiabpkaaGreatDoorE5
/- Proved in this claim (its last text holds the theorem): the given statement TopSharedFoldsCardSaid, with no condition of ours. This text is one part of that proof: the machine of runs apart from a program, with its laws. -/
namespace Go.Sx
open Go
set_option linter.unusedVariables false
set_option linter.unusedSimpArgs false

section
variable {T : PT} {t t' : Tr ABlk} {nx : Nat} {out : Out}

/-- the two heaps agree on what was read -/
def Agree (t t' : Tr ABlk) (out : Out) : Prop := ∀ n ∈ out.rd, ∀ b, t.get n = some b → t'.get n = some b

theorem cells_loc (hag : Agree t t' out) {n : Nat} {k k' : Bool → List SV → TypeId → Ro} (h : onCells (t.get n) none k = some out) (hin : ∀ w c e, k w c e = some out → n ∈ out.rd)
    (hk : ∀ w c e, k w c e = some out → k' w c e = some out) : onCells (t'.get n) none k' = some out := by
  obtain ⟨w, c, e, hc, h1⟩ := onCells_inv h (by simp)
  rw [hag n (hin w c e h1) _ hc]
  exact hk w c e h1
theorem map_loc (hag : Agree t t' out) {n : Nat} {k : List (Nat × SV × SV) → Nat → Ro} (h : onMap (t.get n) none k = some out) (hin : ∀ c e, k c e = some out → n ∈ out.rd) : onMap (t'.get n) none k = some out := by
  obtain ⟨c, e, hc, h1⟩ := onMap_inv h (by simp)
  rw [hag n (hin c e h1) _ hc]
  exact h1

theorem oLoad_loc (hag : Agree t t' out) {ty : TypeId} {a : SV} (h : oLoad T t ty a = some out) : oLoad T t' ty a = some out := by
  unfold oLoad at h ⊢
  obtain ⟨n, off, rfl, h1⟩ := onPtr_inv h (by simp)
  refine cells_loc hag h1 (fun w c e hk => ?_) fun _ _ _ x => x
  obtain ⟨tc, _, h2⟩ := onSize_inv hk (by simp)
  cases hA : isAggK tc.k with
  | true => rw [hA] at h2; obtain ⟨_, h3⟩ := slcK_inv h2 (by simp); cases h3; simp [Out.rd]
  | false =>
    rw [hA] at h2; dsimp only at h2
    split at h2
    · cases h2; simp [Out.rd]
    · cases h2

theorem oStore_loc (hag : Agree t t' out) {ty : TypeId} {a v : SV} (h : oStore T t nx ty a v = some out) : oStore T t' nx ty a v = some out := by
  unfold oStore at h ⊢
  obtain ⟨n, off, rfl, h1⟩ := onPtr_inv h (by simp)
  refine cells_loc hag h1 (fun w c e hk => ?_) fun _ _ _ x => x
  obtain ⟨tc, _, h2⟩ := onSize_inv hk (by simp)
  split at h2
  · unfold oStore2 at h2
    split at h2
    · obtain ⟨_, h3⟩ := wrK_inv h2 (by simp); cases h3; simp [Out.rd]
    · cases h2
  · cases h2

theorem oConvert_loc (hag : Agree t t' out) {s d : TypeId} {x : SV} (h : oConvert T t nx s d x = some out) : oConvert T t' nx s d x = some out := by
  cases x with
  | slice n off len cap =>
    unfold oConvert at h ⊢
    obtain ⟨cs, hcs, h1⟩ := onKind_inv h (by simp)
    clear h
    obtain ⟨cd, hcd, h2⟩ := onKind_inv h1 (by simp)
    clear h1
    have e1 : ∀ {β : Type} (d : β) (k : TK → β), onKind T s d k = k cs.k := fun d k => by unfold onKind onTy; rw [hcs]
    have e2 : ∀ {β : Type} (dd : β) (k : TK → β), onKind T d dd k = k cd.k := fun dd k => by unfold onKind onTy; rw [hcd]
    rw [e1, e2]
    dsimp only at h2 ⊢
    cases hkd : cd.k <;> rw [hkd] at h2 <;> dsimp only at h2 ⊢ <;> first | (cases h2; done) | skip
    cases hks : cs.k <;> rw [hks] at h2 <;> dsimp only at h2 ⊢ <;> first | (cases h2; done) | skip
    rename_i el
    cases hu : isU8 T el with
    | false => rw [hu] at h2; cases h2
    | true =>
      rw [hu] at h2; dsimp only at h2 ⊢
      refine cells_loc hag h2 (fun w c e hk => ?_) fun _ _ _ x => x
      obtain ⟨_, h3⟩ := slcK_inv hk (by simp)
      split at h3
      · cases h3; simp [Out.rd]
      · cases h3
  | _ => exact h

theorem oLookup_loc (hag : Agree t t' out) {ty : TypeId} {x k : SV} {ok : Bool} (h : oLookup T t ty x k ok = some out) : oLookup T t' ty x k ok = some out := by
  cases x with
  | map n =>
    unfold oLookup at h ⊢
    obtain ⟨c, a, b, hc, hck, h1⟩ := onMapT_inv h (by simp)
    have e1 : ∀ {β : Type} (d : β) (k : Nat → Nat → β), onMapT T ty d k = k a b := fun d k => by unfold onMapT onKind onTy; rw [hc]; dsimp only; rw [hck]
    rw [e1]
    cases hp : plainKey T a k with
    | false => rw [hp] at h1; cases h1
    | true =>
      rw [hp] at h1; dsimp only at h1 ⊢
      refine map_loc hag h1 fun es e hk => ?_
      unfold lookIn at hk
      split at hk
      · cases hk
      · split at hk
        · cases ok <;> (dsimp only at hk; cases hk; simp [Out.rd])
        · obtain ⟨_, _, _, h3⟩ := onZero_inv hk (by simp)
          split at h3
          · cases ok <;> (dsimp only at h3; cases h3; simp [Out.rd])
          · cases h3
  | _ => exact h

theorem oMapUpdate_loc (hag : Agree t t' out) {ty : TypeId} {m k v : SV} (h : oMapUpdate T t nx ty m k v = some out) : oMapUpdate T t' nx ty m k v = some out := by
  cases m with
  | map n =>
    unfold oMapUpdate at h ⊢
    obtain ⟨c, a, b, hc, hck, h1⟩ := onMapT_inv h (by simp)
    have e1 : ∀ {β : Type} (d : β) (k : Nat → Nat → β), onMapT T ty d k = k a b := fun d k => by unfold onMapT onKind onTy; rw [hc]; dsimp only; rw [hck]
    rw [e1]
    cases hp : plainKey T a k with
    | false => rw [hp] at h1; cases h1
    | true =>
      rw [hp] at h1; dsimp only at h1 ⊢
      refine map_loc hag h1 fun es e hk => ?_
      split at hk
      · cases hk
      · split at hk <;> (cases hk; simp [Out.rd])
  | _ => exact h

theorem oRange_loc (hag : Agree t t' out) {ty : TypeId} {x : SV} (h : oRange T t nx ty x = some out) : oRange T t' nx ty x = some out := by
  unfold oRange at h ⊢
  obtain ⟨c, hc, h1⟩ := onKind_inv h (by simp)
  have e1 : ∀ {β : Type} (d : β) (k : TK → β), onKind T ty d k = k c.k := fun d k => by unfold onKind onTy; rw [hc]
  rw [e1]
  cases hk : c.k <;> rw [hk] at h1 <;> dsimp only at h1 ⊢ <;> first | (cases h1; done) | exact h1 | skip
  cases x <;> dsimp only at h1 ⊢ <;> first | (cases h1; done) | exact h1 | skip
  refine map_loc hag h1 fun es e hk => ?_
  cases hk; simp [Out.rd]

theorem oEntry_loc (hag : Agree t t' out) {x : SV} (h : oEntry t x = some out) : oEntry t' x = some out := by
  unfold oEntry at h ⊢
  obtain ⟨r, off, rfl, h1⟩ := onPtr_inv h (by simp)
  clear h
  show (match Nat.beq off 0 with | false => none | true => _) = some out
  cases ho : Nat.beq off 0 with
  | false => rw [ho] at h1; cases h1
  | true =>
    rw [ho] at h1; dsimp only at h1 ⊢
    cases hb : t.get r with
    | none => rw [hb] at h1; cases h1
    | some b =>
      rw [hb] at h1; dsimp only at h1
      cases b <;> dsimp only at h1 <;> first | (cases h1; done) | skip
      rename_i m since seen stepped
      cases m with
      | none => cases h1
      | some m =>
        dsimp only at h1
        have hin : ∀ es clock, (match Nat.beq clock stepped with
          | false => none
          | true => (match seen.getLast? with
            | none => none
            | some stamp => (match findB stamp es with
              | some p => (match p with | (k, v) => valR (.tuple [k, v]) [r, m])
              | none => none)) : Ro) = some out → r ∈ out.rd ∧ m ∈ out.rd := by
          intro es clock hk
          split at hk
          · cases hk
          · split at hk
            · cases hk
            · split at hk
              · cases hk; simp [Out.rd]
              · cases hk
        obtain ⟨es, clock, hes, h2⟩ := onMap_inv h1 (by simp)
        obtain ⟨i1, i2⟩ := hin es clock h2
        rw [hag r i1 _ hb]
        dsimp only
        rw [hag m i2 _ hes]
        exact h2

theorem recvOf_loc {ty : TypeId} {x : SV} {p : Bool} {k : SV → List Nat → Ro} (hag : Agree t t' out) (hin : ∀ v rd, k v rd = some out → ∀ n ∈ rd, n ∈ out.rd) (h : recvOf T t ty x p none k = some out) : recvOf T t' ty x p none k = some out := by
  unfold recvOf at h ⊢
  obtain ⟨c, hc, h1⟩ := onKind_inv h (by simp)
  have e1 : ∀ {β : Type} (d : β) (k : TK → β), onKind T ty d k = k c.k := fun d k => by unfold onKind onTy; rw [hc]
  rw [e1]
  cases hk : c.k <;> rw [hk] at h1 <;> dsimp only at h1 ⊢ <;> first | exact h1 | skip
  cases p with
  | true => exact h1
  | false =>
    dsimp only at h1 ⊢
    obtain ⟨n, off, rfl, h2⟩ := onPtr_inv h1 (by simp)
    refine cells_loc hag h2 (fun w c e hk => ?_) fun _ _ _ x => x
    obtain ⟨tc, _, h3⟩ := onSize_inv hk (by simp)
    obtain ⟨_, h4⟩ := slcK_inv h3 (by simp)
    split at h4
    · exact hin _ _ h4 n (by simp)
    · cases h4
theorem addRd_rd {rd : List Nat} {r : Ro} (h : addRd rd r = some out) : ∀ n ∈ rd, n ∈ out.rd := by
  unfold addRd at h
  cases r with
  | none => cases h
  | some o => cases o <;> (cases h; intro n hn; simp [Out.rd, hn])
theorem callM_loc (hag : Agree t t' out) {r : SV} {name : String} {args : List SV} (h : callM T t nx r name args = some out) : callM T t' nx r name args = some out := by
  cases r with
  | iface ty v =>
    unfold callM at h ⊢
    dsimp only at h ⊢
    obtain ⟨c, hc, h1⟩ := onTy_inv h (by simp)
    have e1 : ∀ {β : Type} (d : β) (k : TyC → β), onTy T ty d k = k c := fun d k => by unfold onTy; rw [hc]
    rw [e1]
    try dsimp only at h1 ⊢
    split at h1
    · exact recvOf_loc hag (fun v rd hk => addRd_rd hk) h1
    · cases h1
  | _ => exact h
theorem invokeA_loc (hag : Agree t t' out) {fn : Fn} {cap args : List SV} (h : invokeA T t nx fn cap args = some out) : invokeA T t' nx fn cap args = some out := by
  cases fn with
  | func f => exact h
  | yield n => exact h
  | method name =>
    cases args with
    | nil => exact h
    | cons r rest => exact callM_loc hag (r := r) h
  | methodOf ty name =>
    cases args with
    | nil => exact h
    | cons r rest =>
      have h' : onKind T ty none (fun k => (match k with | .iface _ => callM T t nx r name rest | _ => callM T t nx (.iface ty r) name rest)) = some out := h
      show onKind T ty none (fun k => (match k with | .iface _ => callM T t' nx r name rest | _ => callM T t' nx (.iface ty r) name rest)) = some out
      obtain ⟨c, hc, h1⟩ := onKind_inv h' (by simp)
      have e1 : ∀ {β : Type} (d : β) (k : TK → β), onKind T ty d k = k c.k := fun d k => by unfold onKind onTy; rw [hc]
      rw [e1]
      cases hk : c.k <;> rw [hk] at h1 <;> exact callM_loc hag h1
  | via ty path f p =>
    cases args with
    | nil => exact h
    | cons r rest =>
      have h' : (match path.toList with
      | [] => recvOf T t ty r p none fun r rd => addRd rd (callF T nx f (r :: rest))
      | _ :: _ => none : Ro) = some out := h
      show (match path.toList with
      | [] => recvOf T t' ty r p none fun r rd => addRd rd (callF T nx f (r :: rest))
      | _ :: _ => none : Ro) = some out
      cases hp : path.toList with
      | nil => rw [hp] at h'; exact recvOf_loc hag (fun v rd hk => addRd_rd hk) h'
      | cons a b => rw [hp] at h'; cases h'

theorem srcOf_loc {z : Nat} {x : SV} {k k' : List SV → Nat → List Nat → Ro} (hag : Agree t t' out) (hin : ∀ cs n rd, k cs n rd = some out → ∀ m ∈ rd, m ∈ out.rd) (hk : ∀ cs n rd, k cs n rd = some out → k' cs n rd = some out)
    (h : srcOf t z x none k = some out) : srcOf t' z x none k' = some out := by
  unfold srcOf at h ⊢
  cases x <;> dsimp only at h ⊢ <;> first | (cases h; done) | exact hk _ _ _ h | skip
  · split at h
    · exact hk _ _ _ h
    · cases h
  · refine cells_loc hag h (fun w c e h1 => ?_) (fun w c e h1 => ?_)
    · obtain ⟨_, h2⟩ := slcK_inv h1 (by simp)
      exact hin _ _ _ h2 _ (by simp)
    · rename_i b off len cap
      have key : ∀ (l : List SV) (m n : Nat) (q q' : List SV → Ro), (∀ cs, q cs = some out → q' cs = some out) → slcK l m n none q = some out → slcK l m n none q' = some out := by
        have tk : ∀ (l : List SV) (n : Nat) (q q' : List SV → Ro), (∀ cs, q cs = some out → q' cs = some out) → takeK l n none q = some out → takeK l n none q' = some out := by
          intro l
          induction l with
          | nil => intro n q q' hq h; cases n with
            | zero => exact hq _ h
            | succ n => cases h
          | cons y ys ih => intro n q q' hq h; cases n with
            | zero => exact hq _ h
            | succ n => exact ih n (fun xs => q (y :: xs)) (fun xs => q' (y :: xs)) (fun cs => hq _) h
        intro l
        induction l with
        | nil => intro m n q q' hq h; cases m with
          | zero => exact tk [] n q q' hq h
          | succ m => cases h
        | cons y ys ih => intro m n q q' hq h; cases m with
          | zero => exact tk (y :: ys) n q q' hq h
          | succ m => exact ih m n q q' hq h
      exact key c off _ _ _ (fun cs => hk cs len [b]) h1

theorem appSlice_loc (hag : Agree t t' out) {e : TypeId} {z b off len : Nat} {cap : Cap} {new : List SV} {n : Nat} {rd : List Nat} (h : appSlice t nx e z b off len cap new n rd = some out) :
    appSlice t' nx e z b off len cap new n rd = some out ∧ ∀ m ∈ rd, m ∈ out.rd := by
  unfold appSlice at h ⊢
  have hrd := fun (w : Bool) (c : List SV) (e' : TypeId) => appTail_rd (nx := nx) (out := out) (e := e) (z := z) (b := b) (off := off) (len := len) (cap := cap) (new := new) (n := n) (rd := rd) w c e'
  cases hg : Nat.ble (Nat.add len n) growMost with
  | false => rw [hg] at h; cases h
  | true =>
    rw [hg] at h; dsimp only at h ⊢
    refine ⟨cells_loc hag h (fun w c e' hk => by rw [hrd w c e' hk]; simp) (fun _ _ _ x => x), ?_⟩
    obtain ⟨w, c, e', _, hk⟩ := onCells_inv h (by simp)
    rw [hrd w c e' hk]
    intro m hm; simp [hm]

theorem oAppend_loc (hag : Agree t t' out) {st xt : TypeId} {s x : SV} (h : oAppend T t nx st xt s x = some out) : oAppend T t' nx st xt s x = some out := by
  unfold oAppend at h ⊢
  obtain ⟨c, e, hc, hck, h1⟩ := onSliceT_inv h (by simp)
  clear h
  have e1 : ∀ {β : Type} (d : β) (k : Nat → β), onSliceT T st d k = k e := fun d k => by unfold onSliceT onKind onTy; rw [hc]; dsimp only; rw [hck]
  rw [e1]
  obtain ⟨cx, hcx, h2⟩ := onKind_inv h1 (by simp)
  clear h1
  have e2 : ∀ {β : Type} (d : β) (k : TK → β), onKind T xt d k = k cx.k := fun d k => by unfold onKind onTy; rw [hcx]
  rw [e2]
  cases hr : isRowK cx.k with
  | false => rw [hr] at h2; cases h2
  | true =>
    rw [hr] at h2; dsimp only at h2 ⊢
    obtain ⟨ce, hce, h3⟩ := onTy_inv h2 (by simp)
    clear h2
    have e3 : ∀ {β : Type} (d : β) (k : TyC → β), onTy T e d k = k ce := fun d k => by unfold onTy; rw [hce]
    rw [e3]
    try dsimp only at h3 ⊢
    split at h3
    · cases h3
    · rename_i hz
      refine srcOf_loc hag ?_ ?_ h3
      · intro cs n rd hk m hm
        cases s <;> dsimp only at hk <;> first | (cases hk; done) | skip
        · split at hk
          · cases hk; exact hm
          · exact (appSlice_loc hag hk).2 m hm
        · split at hk
          · cases hk; exact hm
          · split at hk
            · cases hk; exact hm
            · cases hk
      · intro cs n rd hk
        cases s <;> dsimp only at hk ⊢ <;> first | (cases hk; done) | exact hk | skip
        split at hk
        · exact hk
        · exact (appSlice_loc hag hk).1

theorem oCopy_loc (hag : Agree t t' out) {dt : TypeId} {d s : SV} (h : oCopy T t nx dt d s = some out) : oCopy T t' nx dt d s = some out := by
  unfold oCopy at h ⊢
  obtain ⟨c, e, hc, hck, h1⟩ := onSliceT_inv h (by simp)
  clear h
  have e1 : ∀ {β : Type} (d : β) (k : Nat → β), onSliceT T dt d k = k e := fun d k => by unfold onSliceT onKind onTy; rw [hc]; dsimp only; rw [hck]
  rw [e1]
  obtain ⟨ce, hce, h3⟩ := onSize_inv h1 (by simp)
  clear h1
  have e3 : ∀ {β : Type} (d : β) (k : Nat → Bool → β), onSize T e d k = k ce.size (isAggK ce.k) := fun d k => by unfold onSize onTy; rw [hce]
  rw [e3]
  refine srcOf_loc hag ?_ ?_ h3
  · intro cs n rd hk m hm
    cases d <;> dsimp only at hk <;> first | (cases hk; done) | skip
    · split at hk
      · cases hk; exact hm
      · obtain ⟨w, c, e', _, h5⟩ := onCells_inv hk (by simp)
        split at h5
        · obtain ⟨_, h6⟩ := takeK_inv h5 (by simp)
          obtain ⟨_, h7⟩ := wrK_inv h6 (by simp)
          cases h7; simp [Out.rd, hm]
        · cases h5
    · cases hk; exact hm
  · intro cs n rd hk
    cases d <;> dsimp only at hk ⊢ <;> first | (cases hk; done) | exact hk | skip
    split at hk
    · exact hk
    · refine cells_loc hag hk (fun w c e' h5 => ?_) fun _ _ _ x => x
      split at h5
      · obtain ⟨_, h6⟩ := takeK_inv h5 (by simp)
        obtain ⟨_, h7⟩ := wrK_inv h6 (by simp)
        cases h7; simp [Out.rd]
      · cases h5
theorem oLen_loc (hag : Agree t t' out) {ty : TypeId} {x : SV} (h : oLen T t ty x = some out) : oLen T t' ty x = some out := by
  unfold oLen at h ⊢
  obtain ⟨c, hc, h1⟩ := onKind_inv h (by simp)
  have e1 : ∀ {β : Type} (d : β) (k : TK → β), onKind T ty d k = k c.k := fun d k => by unfold onKind onTy; rw [hc]
  rw [e1]
  cases hk : c.k <;> rw [hk] at h1 <;> dsimp only at h1 ⊢ <;> first | (cases h1; done) | exact h1 | skip
  cases x <;> dsimp only at h1 ⊢ <;> first | (cases h1; done) | exact h1 | skip
  refine map_loc hag h1 fun es e hk => ?_
  cases hk; simp [Out.rd]

theorem onT_cong {tys : List TypeId} {k k' : TypeId → List TypeId → Ro} (h : onT tys none k = some out) (hk : ∀ a r, k a r = some out → k' a r = some out) : onT tys none k' = some out := by
  cases tys with
  | nil => cases h
  | cons a r => exact hk a r h
theorem onCons_cong {l : List SV} {k k' : SV → List SV → Ro} (h : onCons l none k = some out) (hk : ∀ a r, k a r = some out → k' a r = some out) : onCons l none k' = some out := by
  cases l with
  | nil => cases h
  | cons a r => exact hk a r h
theorem on2_cong {l : List SV} {k k' : SV → SV → Ro} (h : on2 l k = some out) (hk : ∀ a r, k a r = some out → k' a r = some out) : on2 l k' = some out := by
  obtain ⟨a, b, rfl, h1⟩ := on2_inv h
  exact hk a b h1
theorem builtinA_loc (hag : Agree t t' out) {b : Builtin} {tys : List TypeId} {args : List SV} (h : builtinA T t nx b tys args = some out) : builtinA T t' nx b tys args = some out := by
  unfold builtinA at h ⊢
  cases b <;> dsimp only at h ⊢ <;> first | exact h | skip
  · exact onT_cong h fun a r h => onT_cong h fun b _ h => on2_cong h fun s x h => oAppend_loc hag h
  · exact onT_cong h fun a r h => on2_cong h fun s x h => oCopy_loc hag h
  · exact onT_cong h fun a r h => onCons_cong h fun s x h => oLen_loc hag h

theorem oCall_loc (hag : Agree t t' out) {ev : Operand → SV} {c : Call} (h : oCall T t nx ev c = some out) : oCall T t' nx ev c = some out := by
  obtain ⟨cal, args, tys⟩ := c
  unfold oCall at h ⊢
  dsimp only at h ⊢
  cases cal with
  | builtin b => exact builtinA_loc hag h
  | invoke r name => exact callM_loc hag h
  | value f =>
    dsimp only at h ⊢
    cases hf : ev f <;> rw [hf] at h <;> dsimp only at h ⊢ <;> first | (cases h; done) | exact invokeA_loc hag h | skip
    rename_i n
    unfold onLoop at h ⊢
    cases hb : t.get n with
    | none => rw [hb] at h; cases h
    | some b =>
      rw [hb] at h; dsimp only at h
      cases b <;> dsimp only at h <;> first | (cases h; done) | skip
      have hn : n ∈ out.rd := by
        split at h
        · cases h; simp [Out.rd]
        · cases h
      rw [hag n hn _ hb]
      exact h

/-- an operation looks at no more than what it says that it has read -/
theorem aop_loc (hag : Agree t t' out) {ev : Operand → SV} {op : Op} (h : aop T t nx ev op = some out) : aop T t' nx ev op = some out := by
  cases op <;> first | exact h | skip
  case load => exact oLoad_loc hag h
  case store => exact oStore_loc hag h
  case convert => exact oConvert_loc hag h
  case lookup => exact oLookup_loc hag h
  case mapUpdate => exact oMapUpdate_loc hag h
  case insert => exact oMapUpdate_loc hag h
  case range => exact oRange_loc hag h
  case entry => exact oEntry_loc hag h
  case call => exact oCall_loc hag h

theorem aop_leaf {ev : Operand → SV} {op : Op} (ht : touches op = false) (s s' : Tr ABlk) : aop T s nx ev op = aop T s' nx ev op := by
  cases op <;> first | rfl | (cases ht; done)

/-- ... and it asks no more than its operands -/
theorem aop_cong {ev ev' : Operand → SV} {op : Op} (h : ∀ o ∈ op.operands.toList, ev o = ev' o) : aop T t nx ev op = aop T t nx ev' op := by
  have om : ∀ r : Option Operand, (∀ o ∈ r.toList, ev o = ev' o) → r.map ev = r.map ev' := by
    intro r hr; cases r with
    | none => rfl
    | some x => simp only [Option.map_some]; rw [hr x (by simp)]
  have am : ∀ a : Array Operand, (∀ o ∈ a.toList, ev o = ev' o) → a.toList.map ev = a.toList.map ev' := fun a ha => List.map_congr_left ha
  have pm : ∀ l : List (Nat × Operand), (∀ o ∈ l.map (·.2), ev o = ev' o) → l.map (evP ev) = l.map (evP ev') := fun l hl => List.map_congr_left fun p hp => by
    obtain ⟨i, x⟩ := p; simp only [evP]; rw [hl x (List.mem_map.mpr ⟨_, hp, rfl⟩)]
  have one : ∀ {x : Operand}, (∀ o ∈ (#[x] : Array Operand).toList, ev o = ev' o) → ev x = ev' x := fun h => h _ (by simp)
  cases op <;> dsimp only [Op.operands] at h <;> first | rfl | skip
  case call c =>
    obtain ⟨cal, args, tys⟩ := c
    have ha : args.toList.map ev = args.toList.map ev' := am _ fun o ho => h o (by simp [Call.operands, Array.mem_toList_iff.mp ho])
    simp only [aop, oCall, ha]
    cases cal with
    | builtin b => rfl
    | invoke r name => have := h r (by simp [Call.operands]); dsimp only; rw [this]
    | value f => have := h f (by simp [Call.operands]); dsimp only; rw [this]
  case defer c =>
    obtain ⟨cal, args, tys⟩ := c
    have ha : args.toList.map ev = args.toList.map ev' := am _ fun o ho => h o (by simp [Call.operands, Array.mem_toList_iff.mp ho])
    simp only [aop, oDefer, ha]
    cases cal with
    | builtin b => rfl
    | invoke r name => rfl
    | value f => have := h f (by simp [Call.operands]); dsimp only; rw [this]
  case build ty ps =>
    have := pm ps.toList (by simpa using h)
    simp only [aop, this]
  case buildSlice ty n ps =>
    have := pm ps.toList (by simpa using h)
    simp only [aop, this]
  case makeFunc fn a b =>
    have h1 := am a fun o ho => h o (by simp [Array.mem_toList_iff.mp ho])
    have h2 := am b fun o ho => h o (by simp [Array.mem_toList_iff.mp ho])
    simp only [aop, h1, h2]
  case makeMap ty r =>
    have := om r fun o ho => h o (by simpa using ho)
    simp only [aop, this]
  case slice ty x lo hi mx =>
    have h0 := h x (by simp)
    have h1 := om lo fun o ho => h o (by simp at ho; simp [ho])
    have h2 := om hi fun o ho => h o (by simp at ho; simp [ho])
    have h3 := om mx fun o ho => h o (by simp at ho; simp [ho])
    simp only [aop, h0, h1, h2, h3]
  case pick c a b => simp only [aop, h c (by simp), h a (by simp), h b (by simp)]
  case mapUpdate ty m k x => simp only [aop, h m (by simp), h k (by simp), h x (by simp)]
  case insert ty m k x => simp only [aop, h m (by simp), h k (by simp), h x (by simp)]
  case store ty a v => simp only [aop, h a (by simp), h v (by simp)]
  case binOp op ty a v z => simp only [aop, h a (by simp), h v (by simp)]
  case makeSlice ty a v => simp only [aop, h a (by simp), h v (by simp)]
  case indexAddr ty a v => simp only [aop, h a (by simp), h v (by simp)]
  case index ty a v => simp only [aop, h a (by simp), h v (by simp)]
  case lookup ty a v ok => simp only [aop, h a (by simp), h v (by simp)]
  all_goals (simp only [aop, one h])
end
end Go.Sx

namespace Go.Sx
open Go
set_option linter.unusedVariables false
set_option linter.unusedSimpArgs false

/-! ## The last writer -/
def lastW {β : Type} (S : Nat → Bool) (wr : Nat → Option β) : Nat → β → β
  | 0, x => x
  | i + 1, x => if S i = true then (match wr i with | some b => b | none => lastW S wr i x) else lastW S wr i x

section
variable {β : Type} {S S' : Nat → Bool} {wr : Nat → Option β}
theorem lastW_congr : ∀ {i : Nat} {x : β}, (∀ j, j < i → wr j ≠ none → S j = S' j) → lastW S wr i x = lastW S' wr i x
  | 0, x, _ => rfl
  | i + 1, x, h => by
    have ih := lastW_congr (i := i) (x := x) fun j hj => h j (by omega)
    simp only [lastW]
    cases hw : wr i with
    | none => simp only [ih, ite_self]
    | some b => have := h i (by omega) (by rw [hw]; simp); simp only [this, ih]
theorem lastW_wr {wr' : Nat → Option β} : ∀ {i : Nat} {x : β}, (∀ j, j < i → wr j = wr' j) → lastW S wr i x = lastW S wr' i x
  | 0, x, _ => rfl
  | i + 1, x, h => by
    simp only [lastW, h i (by omega), lastW_wr (i := i) (x := x) fun j hj => h j (by omega)]
/-- none writes beyond -/
theorem lastW_beyond {i : Nat} {x : β} : ∀ {n : Nat}, i ≤ n → (∀ j, i ≤ j → j < n → S j = true → wr j = none) → lastW S wr n x = lastW S wr i x
  | 0, hi, _ => by have : i = 0 := by omega
                   subst this; rfl
  | n + 1, hi, h => by
    rcases Nat.eq_or_lt_of_le hi with e | hlt
    · subst e; rfl
    · have ih := lastW_beyond (i := i) (x := x) (n := n) (by omega) fun j h1 h2 => h j h1 (by omega)
      simp only [lastW]
      split
      · rename_i hs; rw [h n (by omega) (by omega) hs]; exact ih
      · exact ih
/-- the last one -/
theorem lastW_last {a n : Nat} {b : β} {x : β} (ha : a < n) (hS : S a = true) (hw : wr a = some b) (h : ∀ j, j < n → S j = true → wr j ≠ none → j ≤ a) : lastW S wr n x = b := by
  rw [lastW_beyond (i := a + 1) (by omega) fun j h1 h2 h3 => by
    cases hj : wr j with
    | none => rfl
    | some y => have := h j h2 h3 (by rw [hj]; simp); omega]
  simp only [lastW, hS, if_true, hw]
/-- what is there comes from the base or from a writer -/
theorem lastW_src : ∀ {i : Nat} {x : β}, lastW S wr i x = x ∨ ∃ j, j < i ∧ S j = true ∧ wr j ≠ none
  | 0, x => .inl rfl
  | i + 1, x => by
    simp only [lastW]
    split
    · rename_i hs
      cases hw : wr i with
      | some b => exact .inr ⟨i, by omega, hs, by rw [hw]; simp⟩
      | none =>
        rcases lastW_src (i := i) (x := x) with h | ⟨j, h1, h2⟩
        · exact .inl h
        · exact .inr ⟨j, by omega, h2⟩
    · rcases lastW_src (i := i) (x := x) with h | ⟨j, h1, h2⟩
      · exact .inl h
      · exact .inr ⟨j, by omega, h2⟩
end

/-- what a row of turns leaves at a name -/
def lastA (d : List (Nat × Option ABlk)) (m : Nat) : Option (Option ABlk) :=
  match d with
  | [] => none
  | (n, b) :: d => match lastA d m with | some x => some x | none => if m = n then some b else none
theorem applyF_at : ∀ (d : List (Nat × Option ABlk)) (H : HF) (m : Nat), applyF d H m = match lastA d m with | some x => x | none => H m
  | [], H, m => rfl
  | (n, b) :: d, H, m => by
    simp only [applyF, lastA]
    rw [applyF_at d]
    cases lastA d m with
    | some x => rfl
    | none => simp only [putF]; split <;> rfl
theorem lastA_mem {m : Nat} : ∀ {d : List (Nat × Option ABlk)}, lastA d m ≠ none → ∃ b, (m, b) ∈ d
  | [], h => absurd rfl h
  | (n, b) :: d, h => by
    simp only [lastA] at h
    cases hl : lastA d m with
    | some x => obtain ⟨b', hb⟩ := lastA_mem (d := d) (by rw [hl]; simp); exact ⟨b', by simp [hb]⟩
    | none =>
      rw [hl] at h; dsimp only at h
      split at h
      · rename_i e; subst e; exact ⟨b, by simp⟩
      · exact absurd rfl h

/-! ## Bits -/
theorem hasBit_eq (m i : Nat) : hasBit m i = m.testBit i := by
  unfold hasBit
  rw [Nat.testBit_eq_decide_div_mod_eq]
  show Nat.beq (m / 2 ^ i % 2) 1 = _
  cases h : Nat.beq (m / 2 ^ i % 2) 1 with
  | true => have := beq_true h; simp [this]
  | false =>
    rcases Nat.mod_two_eq_zero_or_one (m / 2 ^ i) with e | e
    · rw [e]; rfl
    · rw [e] at h; cases h
theorem natAt_eq (l : List Nat) (n : Nat) : natAt l n = l.getD n 0 := by
  unfold natAt; rw [nthN_eq]
  cases h : l[n]? <;> simp [List.getD, h]
theorem maskStep_bit (ms : List Nat) (s : Nat) (e : Edge) (k : Nat) : hasBit (maskStep ms s e) k = true ↔ hasBit s k = true ∨ (Region.binds .any e = true ∧ (k = e.on ∨ hasBit (natAt ms e.on) k = true)) := by
  unfold maskStep
  cases hb : Region.binds .any e with
  | false => dsimp only; constructor
             · exact .inl
             · rintro (h | ⟨h, _⟩)
               · exact h
               · cases h
  | true =>
    dsimp only
    simp only [hasBit_eq]
    show (s ||| (2 ^ e.on ||| natAt ms e.on)).testBit k = true ↔ _
    rw [Nat.testBit_or, Nat.testBit_or, Nat.testBit_two_pow]
    simp only [Bool.or_eq_true, decide_eq_true_eq, true_and]
    rw [eq_comm (a := e.on)]
theorem mask_fold (ms : List Nat) (k : Nat) : ∀ (l : List Edge) (s : Nat), hasBit (l.foldl (maskStep ms) s) k = true ↔
    hasBit s k = true ∨ ∃ e ∈ l, Region.binds .any e = true ∧ (k = e.on ∨ hasBit (natAt ms e.on) k = true)
  | [], s => by simp
  | e :: l, s => by
    rw [List.foldl_cons, mask_fold ms k l, maskStep_bit]
    constructor
    · rintro ((h | h) | ⟨e', h1, h2⟩)
      · exact .inl h
      · exact .inr ⟨e, List.mem_cons_self, h⟩
      · exact .inr ⟨e', List.mem_cons_of_mem _ h1, h2⟩
    · rintro (h | ⟨e', h1, h2⟩)
      · exact .inl (.inl h)
      · rcases List.mem_cons.mp h1 with rfl | h1
        · exact .inl (.inr h2)
        · exact .inr ⟨e', h1, h2⟩
theorem maskOf_bit (ms : List Nat) (o : Oper) (k : Nat) : hasBit (maskOf ms o) k = true ↔ ∃ e ∈ o.after.toList, Region.binds .any e = true ∧ (k = e.on ∨ hasBit (natAt ms e.on) k = true) := by
  unfold maskOf
  rw [mask_fold]
  constructor
  · rintro (h | h)
    · rw [hasBit_eq] at h; simp at h
    · exact h
  · exact .inr

/-! ## The text's run, operation by operation -/
structure Rec where
  op : Oper
  mask : Nat
  want : Bool
  v : SV
  d : List (Nat × Option ABlk)
  nn : Nat
  rd : Option (List Nat)
  deriving Inhabited

noncomputable def putD (dst : Option Tmp) (tm : Tr SV) (v : SV) : Tr SV := match dst with | some d => tm.put d (some v) | none => tm
section
variable (ops : List Oper) (tm0 : Tr SV) (nx0 : Nat)
def nxF (rc : Nat → Rec) : Nat → Nat
  | 0 => nx0
  | i + 1 => (rc i).nn + 1
noncomputable def tmF (rc : Nat → Rec) : Nat → Tr SV
  | 0 => tm0
  | i + 1 => putD (rc i).op.dst (tmF rc i) (rc i).v
noncomputable def dopF (rc : Nat → Rec) (i : Nat) : DOp := ⟨i, (rc i).mask, (rc i).op.dst, usesOf ops (rc i).op, (rc i).d, dW (nxF nx0 rc i) (rc i).d, (rc i).rd⟩
noncomputable def doneF (rc : Nat → Rec) : Nat → List DOp
  | 0 => []
  | i + 1 => dopF ops nx0 rc i :: doneF rc i
def msF (rc : Nat → Rec) (i : Nat) : List Nat := (List.range i).map fun j => (rc j).mask
noncomputable def viewT (mask : Nat) (rc : Nat → Rec) (base : Tr ABlk) : Nat → Tr ABlk
  | 0 => base
  | i + 1 => if hasBit mask i = true then applyT (rc i).d (viewT mask rc base i) else viewT mask rc base i
end

section
variable {ops : List Oper} {tm0 : Tr SV} {nx0 : Nat} {rc rc' : Nat → Rec}
theorem viewOf_eq {β : Type} (mask : Nat) (base : Tr ABlk) : ∀ (i : Nat) (k : Tr ABlk → β), viewOf mask (doneF ops nx0 rc i) base k = k (viewT mask rc base i)
  | 0, k => rfl
  | i + 1, k => by
    simp only [doneF, viewOf, viewT, dopF]
    rw [viewOf_eq mask base i]
    cases hd : (rc i).d with
    | nil => simp only [applyT, ite_self]
    | cons x xs =>
      dsimp only
      cases hb : hasBit mask i with
      | true => simp only [if_true, applyD_eq]
      | false => simp
theorem agree_nx {i : Nat} (h : ∀ j, j < i → rc j = rc' j) : nxF nx0 rc i = nxF nx0 rc' i := by
  cases i with
  | zero => rfl
  | succ i => simp only [nxF, h i (by omega)]
theorem agree_tm : ∀ {i : Nat}, (∀ j, j < i → rc j = rc' j) → tmF tm0 rc i = tmF tm0 rc' i
  | 0, _ => rfl
  | i + 1, h => by simp only [tmF, h i (by omega), agree_tm (i := i) fun j hj => h j (by omega)]
theorem agree_done : ∀ {i : Nat}, (∀ j, j < i → rc j = rc' j) → doneF ops nx0 rc i = doneF ops nx0 rc' i
  | 0, _ => rfl
  | i + 1, h => by
    have h1 := agree_done (i := i) fun j hj => h j (by omega)
    have h2 := agree_nx (nx0 := nx0) (i := i) fun j hj => h j (by omega)
    simp only [doneF, dopF, h i (by omega), h1, h2]
theorem agree_ms {i : Nat} (h : ∀ j, j < i → rc j = rc' j) : msF rc i = msF rc' i :=
  List.map_congr_left fun j hj => by rw [h j (List.mem_range.mp hj)]
theorem agree_view {mask : Nat} {base : Tr ABlk} : ∀ {i : Nat}, (∀ j, j < i → rc j = rc' j) → viewT mask rc base i = viewT mask rc' base i
  | 0, _ => rfl
  | i + 1, h => by simp only [viewT, h i (by omega), agree_view (i := i) fun j hj => h j (by omega)]
end

/-- what the engine has looked at, at operation i -/
structure Cert (T : PT) (facts : Facts) (ops : List Oper) (n : Nat) (base : Tr ABlk) (tm0 : Tr SV) (nx0 : Nat) (rc : Nat → Rec) (i : Nat) : Prop where
  op : ops[i]? = some (rc i).op
  edges : edgesOk (rc i).op i = true
  mask : (rc i).mask = maskOf (msF rc i) (rc i).op
  apart : allApart (dopF ops nx0 rc i) (doneF ops nx0 rc i) = true
  dst : ∀ d, (rc i).op.dst = some d → d < n
  wanted : wantedA (rc i).op.guard ops (tmF tm0 rc i) = some (rc i).want
  idle : (rc i).want = false → (rc i).v = .undef ∧ (rc i).d = [] ∧ (rc i).rd = some [] ∧ (rc i).nn = nxF nx0 rc i
  run : (rc i).want = true → ∃ t, (t = viewT (rc i).mask rc base i ∨ (touches (rc i).op.op = false ∧ t = .leaf)) ∧
    drawOp facts T t (nxF nx0 rc i) (evalOpnd T (tmF tm0 rc i)) (rc i).op.op = .some (rc i).v (rc i).d (rc i).nn (rc i).rd ∧ inView t (nxF nx0 rc i) (rc i).nn (rc i).d = true
  le : nxF nx0 rc i ≤ (rc i).nn

section
variable {T : PT} {facts : Facts} {ops : List Oper} {n : Nat} {base : Tr ABlk} {tm0 : Tr SV} {nx0 : Nat} {rc rc' : Nat → Rec}
theorem Cert.agree {i : Nat} (h : ∀ j, j < i + 1 → rc j = rc' j) (c : Cert T facts ops n base tm0 nx0 rc i) : Cert T facts ops n base tm0 nx0 rc' i := by
  have hi := h i (by omega)
  have h' : ∀ j, j < i → rc j = rc' j := fun j hj => h j (by omega)
  have e1 := agree_nx (nx0 := nx0) h'
  have e2 := agree_tm (tm0 := tm0) h'
  have e3 := agree_done (ops := ops) (nx0 := nx0) h'
  have e4 := agree_ms h'
  have e5 : dopF ops nx0 rc i = dopF ops nx0 rc' i := by simp only [dopF, hi, e1]
  obtain ⟨a1, a2, a3, a4, a5, a6, a7, a8, a9⟩ := c
  refine ⟨?_, ?_, ?_, ?_, ?_, ?_, ?_, ?_, ?_⟩
  · rw [← hi]; exact a1
  · rw [← hi]; exact a2
  · rw [← hi, ← e4]; exact a3
  · rw [← e5, ← e3]; exact a4
  · rw [← hi]; exact a5
  · rw [← hi, ← e2]; exact a6
  · rw [← hi, ← e1]; exact a7
  · rw [← hi, ← e1, ← e2]
    intro hw
    obtain ⟨t, ht, hr⟩ := a8 hw
    refine ⟨t, ht.imp_left fun e => ?_, hr⟩
    rw [e]; exact agree_view h'
  · rw [← hi, ← e1]; exact a9

theorem drawFin_inv {x : DOp} {v : SV} {done : List DOp} {tm : Tr SV} {k : Tr SV → Bool} (h : drawFin n x v done tm false k = true) :
    allApart x done = true ∧ (∀ d, x.dst = some d → d < n) ∧ k (putD x.dst tm v) = true := by
  unfold drawFin at h
  cases ha : allApart x done with
  | false => rw [ha] at h; cases h
  | true =>
    rw [ha] at h; dsimp only at h
    rcases putTmp_inv h with ⟨e, hk⟩ | ⟨d, e, hd, hk⟩
    · rw [e]; exact ⟨rfl, fun d hd => (by cases hd), hk⟩
    · rw [e]; exact ⟨rfl, fun d' hd' => (by cases hd'; exact hd), hk⟩

theorem drawRun_inv {k : Tr SV → Tr ABlk → Nat → List Nat → Bool} : ∀ (rest : List Oper) (i : Nat) (rc : Nat → Rec), ops.drop i = rest → ops.length = i + rest.length → (∀ j, j < i → Cert T facts ops n base tm0 nx0 rc j) →
    drawRun T facts ops n base k rest i (msF rc i) (doneF ops nx0 rc i) (tmF tm0 rc i) (nxF nx0 rc i) = true →
    ∃ rc', (∀ j, j < ops.length → Cert T facts ops n base tm0 nx0 rc' j) ∧
      k (tmF tm0 rc' ops.length) (viewT (Nat.sub (Nat.pow 2 ops.length) 1) rc' base ops.length) (nxF nx0 rc' ops.length) (allW (doneF ops nx0 rc' ops.length)) = true
  | [], i, rc, hd, hi', hc, h => by
    have hlen : ops.length = i := hi'
    subst hlen
    simp only [drawRun, viewOf_eq] at h
    exact ⟨rc, hc, h⟩
  | o :: rest, i, rc, hd, hlen, hc, h => by
    have hi : ops[i]? = some o := by
      have := congrArg (·[0]?) hd
      simpa using this
    have hd' : ops.drop (i + 1) = rest := by
      have := congrArg List.tail hd
      simpa using this
    simp only [drawRun] at h
    cases he : edgesOk o i with
    | false => rw [he] at h; cases h
    | true =>
      rw [he] at h; dsimp only at h
      rw [forceNat_eq] at h
      cases hw : wantedA o.guard ops (tmF tm0 rc i) with
      | none => rw [hw] at h; cases h
      | some b =>
        rw [hw] at h; dsimp only at h
        have step : ∀ (r : Rec), r.op = o → r.mask = maskOf (msF rc i) o → r.want = b → allApart ⟨i, r.mask, o.dst, usesOf ops o, r.d, dW (nxF nx0 rc i) r.d, r.rd⟩ (doneF ops nx0 rc i) = true → (∀ d, o.dst = some d → d < n) →
            (b = false → r.v = .undef ∧ r.d = [] ∧ r.rd = some [] ∧ r.nn = nxF nx0 rc i) →
            (b = true → ∃ t, (t = viewT r.mask rc base i ∨ (touches o.op = false ∧ t = .leaf)) ∧ drawOp facts T t (nxF nx0 rc i) (evalOpnd T (tmF tm0 rc i)) o.op = .some r.v r.d r.nn r.rd ∧ inView t (nxF nx0 rc i) r.nn r.d = true) →
            nxF nx0 rc i ≤ r.nn →
            drawRun T facts ops n base k rest (Nat.succ i) (msF rc i ++ [r.mask]) (⟨i, r.mask, o.dst, usesOf ops o, r.d, dW (nxF nx0 rc i) r.d, r.rd⟩ :: doneF ops nx0 rc i)
              (putD o.dst (tmF tm0 rc i) r.v) (r.nn + 1) = true →
            ∃ rc', (∀ j, j < ops.length → Cert T facts ops n base tm0 nx0 rc' j) ∧
              k (tmF tm0 rc' ops.length) (viewT (Nat.sub (Nat.pow 2 ops.length) 1) rc' base ops.length) (nxF nx0 rc' ops.length) (allW (doneF ops nx0 rc' ops.length)) = true := by
          intro r r1 r2 r3 r4 r5 r6 r7 r8 r9
          subst r1
          let rc1 : Nat → Rec := fun j => if j = i then r else rc j
          have hag : ∀ j, j < i → rc j = rc1 j := fun j hj => by simp only [rc1]; rw [if_neg (by omega)]
          have hri : rc1 i = r := by simp [rc1]
          have e1 := agree_nx (nx0 := nx0) hag
          have e2 := agree_tm (tm0 := tm0) hag
          have e3 := agree_done (ops := ops) (nx0 := nx0) hag
          have e4 := agree_ms hag
          refine drawRun_inv rest (i + 1) rc1 hd' (by simp at hlen; omega) ?_ ?_
          · intro j hj
            rcases Nat.lt_or_eq_of_le (Nat.le_of_lt_succ hj) with hlt | e
            · exact (hc j hlt).agree fun j' hj' => hag j' (by omega)
            · subst e
              refine ⟨?_, ?_, ?_, ?_, ?_, ?_, ?_, ?_, ?_⟩
              · rw [hri]; exact hi
              · rw [hri]; exact he
              · rw [hri, ← e4]; exact r2
              · simp only [dopF, hri, ← e1, ← e3]; exact r4
              · rw [hri]; exact r5
              · rw [hri, ← e2, r3]; exact hw
              · rw [hri, ← e1, r3]; exact r6
              · rw [hri, ← e1, ← e2, r3]
                intro hb
                obtain ⟨t, ht, hr⟩ := r7 hb
                exact ⟨t, ht.imp_left fun e => by rw [e]; exact agree_view hag, hr⟩
              · rw [hri, ← e1]; exact r8
          · have m1 : msF rc1 (i + 1) = msF rc i ++ [r.mask] := by
              rw [e4]; simp only [msF, List.range_succ, List.map_append, List.map_cons, List.map_nil, hri]
            have m2 : doneF ops nx0 rc1 (i + 1) = ⟨i, r.mask, r.op.dst, usesOf ops r.op, r.d, dW (nxF nx0 rc i) r.d, r.rd⟩ :: doneF ops nx0 rc i := by
              simp only [doneF, dopF, hri, ← e1, ← e3]
            have m3 : tmF tm0 rc1 (i + 1) = (putD r.op.dst (tmF tm0 rc i) r.v) := by
              simp only [tmF, hri, ← e2]
            have m4 : nxF nx0 rc1 (i + 1) = r.nn + 1 := by simp only [nxF, hri]
            rw [m1, m2, m3, m4]
            exact r9
        cases b with
        | false =>
          dsimp only at h
          obtain ⟨h1, h2, h3⟩ := drawFin_inv h
          rw [forceNat_eq] at h3
          exact step ⟨o, maskOf (msF rc i) o, false, .undef, [], nxF nx0 rc i, some []⟩ rfl rfl rfl h1 h2 (fun _ => ⟨rfl, rfl, rfl, rfl⟩) (fun e => by cases e) (Nat.le_refl _) h3
        | true =>
          dsimp only at h
          have key : ∃ t, (t = viewT (maskOf (msF rc i) o) rc base i ∨ (touches o.op = false ∧ t = .leaf)) ∧
              (match drawOp facts T t (nxF nx0 rc i) (evalOpnd T (tmF tm0 rc i)) o.op with
                | .none => false
                | .some v d nn rd => (match inView t (nxF nx0 rc i) nn d && Nat.ble (nxF nx0 rc i) nn with
                  | false => false
                  | true => drawFin n ⟨i, maskOf (msF rc i) o, o.dst, usesOf ops o, d, dW (nxF nx0 rc i) d, rd⟩ v (doneF ops nx0 rc i) (tmF tm0 rc i) false fun tm => forceNat (Nat.succ nn) fun nn =>
                    drawRun T facts ops n base k rest (Nat.succ i) (msF rc i ++ [maskOf (msF rc i) o]) (⟨i, maskOf (msF rc i) o, o.dst, usesOf ops o, d, dW (nxF nx0 rc i) d, rd⟩ :: doneF ops nx0 rc i) tm nn)) = true := by
            cases ht : touches o.op with
            | true => rw [ht] at h; dsimp only at h; rw [viewOf_eq] at h; exact ⟨_, .inl rfl, h⟩
            | false => rw [ht] at h; exact ⟨.leaf, .inr ⟨rfl, rfl⟩, h⟩
          obtain ⟨t, ht, h'⟩ := key
          cases hdr : drawOp facts T t (nxF nx0 rc i) (evalOpnd T (tmF tm0 rc i)) o.op with
          | none => rw [hdr] at h'; cases h'
          | some v d nn rd =>
            rw [hdr] at h'; dsimp only at h'
            cases hv : inView t (nxF nx0 rc i) nn d && Nat.ble (nxF nx0 rc i) nn with
            | false => rw [hv] at h'; cases h'
            | true =>
              rw [hv] at h'; dsimp only at h'
              rw [Bool.and_eq_true] at hv
              obtain ⟨h1, h2, h3⟩ := drawFin_inv h'
              rw [forceNat_eq] at h3
              exact step ⟨o, maskOf (msF rc i) o, true, v, d, nn, rd⟩ rfl rfl rfl h1 h2 (fun e => by cases e) (fun _ => ⟨t, ht, hdr, hv.1⟩) (ble_true hv.2) h3
end
end Go.Sx

namespace Go.Sx
open Go
set_option linter.unusedVariables false
set_option linter.unusedSimpArgs false

/-! ## Neither waits for the other -/
theorem memB_iff (x : Nat) : ∀ l : List Nat, memB x l = true ↔ x ∈ l
  | [] => by simp [memB]
  | y :: ys => by
    simp only [memB, List.mem_cons]
    cases h : Nat.beq x y with
    | true => have := beq_true h; simp [this]
    | false => have : x ≠ y := fun e => by subst e; simp at h
               simp [this, memB_iff x ys]
theorem disjB_iff : ∀ l m : List Nat, disjB l m = true ↔ ∀ x ∈ l, x ∉ m
  | [], m => by simp [disjB]
  | x :: xs, m => by
    simp only [disjB]
    cases h : memB x m with
    | true => have := (memB_iff x m).mp h; simp [this]
    | false =>
      have : x ∉ m := fun e => by rw [(memB_iff x m).mpr e] at h; cases h
      simp [this, disjB_iff xs m]

structure Apart (ops : List Oper) (nx0 : Nat) (rc : Nat → Rec) (a b : Nat) : Prop where
  au : ∀ d, (rc a).op.dst = some d → d ∉ usesOf ops (rc b).op
  bu : ∀ d, (rc b).op.dst = some d → d ∉ usesOf ops (rc a).op
  dd : ∀ d, (rc a).op.dst = some d → (rc b).op.dst ≠ some d
  aw : ∀ m ∈ dW (nxF nx0 rc a) (rc a).d, ∃ rd, (rc b).rd = some rd ∧ m ∉ rd
  bw : ∀ m ∈ dW (nxF nx0 rc b) (rc b).d, ∃ rd, (rc a).rd = some rd ∧ m ∉ rd
  ww : ∀ m ∈ dW (nxF nx0 rc a) (rc a).d, m ∉ dW (nxF nx0 rc b) (rc b).d
theorem Apart.symm {ops : List Oper} {nx0 : Nat} {rc : Nat → Rec} {a b : Nat} (h : Apart ops nx0 rc a b) : Apart ops nx0 rc b a :=
  ⟨h.bu, h.au, fun d h1 h2 => h.dd d h2 h1, h.bw, h.aw, fun m h1 h2 => h.ww m h2 h1⟩

theorem disjO_inv {W : List Nat} {rd : Option (List Nat)} (h : disjO W rd = true) : ∀ m ∈ W, ∃ r, rd = some r ∧ m ∉ r := by
  intro m hm
  cases W with
  | nil => cases hm
  | cons x xs =>
    cases rd with
    | none => cases h
    | some r => exact ⟨r, rfl, (disjB_iff _ _).mp h m hm⟩
theorem apartB_inv {ops : List Oper} {nx0 : Nat} {rc : Nat → Rec} {a b : Nat} (h : apartB (dopF ops nx0 rc a) (dopF ops nx0 rc b) = true) : Apart ops nx0 rc a b := by
  simp only [apartB, dopF, Bool.and_eq_true] at h
  obtain ⟨⟨⟨⟨⟨h1, h2⟩, h3⟩, h4⟩, h5⟩, h6⟩ := h
  refine ⟨fun d hd hm => ?_, fun d hd hm => ?_, fun d hd he => ?_, disjO_inv h4, disjO_inv h5, (disjB_iff _ _).mp h6⟩
  · rw [hd] at h1; simp only [optMem, (memB_iff _ _).mpr hm] at h1; cases h1
  · rw [hd] at h2; simp only [optMem, (memB_iff _ _).mpr hm] at h2; cases h2
  · rw [hd, he] at h3; simp only [optEq] at h3
    rw [show Nat.beq d d = true by simp] at h3; cases h3
theorem allApart_inv {ops : List Oper} {nx0 : Nat} {rc : Nat → Rec} {a : Nat} : ∀ {i : Nat}, allApart (dopF ops nx0 rc a) (doneF ops nx0 rc i) = true → ∀ j, j < i → hasBit (rc a).mask j = false → Apart ops nx0 rc a j
  | 0, _, j, hj, _ => absurd hj (by omega)
  | i + 1, h, j, hj, hb => by
    simp only [doneF, allApart] at h
    have e1 : (dopF ops nx0 rc a).mask = (rc a).mask := rfl
    have e2 : (dopF ops nx0 rc i).idx = i := rfl
    rw [e1, e2] at h
    rcases Nat.lt_or_eq_of_le (Nat.le_of_lt_succ hj) with hlt | e
    · split at h
      · exact allApart_inv h j hlt hb
      · split at h
        · exact allApart_inv h j hlt hb
        · cases h
    · subst e
      rw [hb] at h; dsimp only at h
      split at h
      · rename_i hx
        have e3 : apartB (dopF ops nx0 rc j) (dopF ops nx0 rc a) = true ∨ apartB (dopF ops nx0 rc a) (dopF ops nx0 rc j) = true := by
          first | exact .inl hx | exact .inr hx
        rcases e3 with e3 | e3
        · exact (apartB_inv e3).symm
        · exact apartB_inv e3
      · cases h

/-! ## The region, certified -/
structure RegOk (T : PT) (facts : Facts) (ops : List Oper) (n : Nat) (base : Tr ABlk) (tm0 : Tr SV) (nx0 : Nat) (rc : Nat → Rec) : Prop where
  cert : ∀ j, j < ops.length → Cert T facts ops n base tm0 nx0 rc j
  base : ∀ m b, base.get m = some b → m < nx0

section
variable {T : PT} {facts : Facts} {ops : List Oper} {n : Nat} {base : Tr ABlk} {tm0 : Tr SV} {nx0 : Nat} {rc : Nat → Rec}

theorem edge_lt (h : RegOk T facts ops n base tm0 nx0 rc) {i : Nat} (hi : i < ops.length) {e : Edge} (he : e ∈ (rc i).op.after.toList) (hb : Region.binds .any e = true) : e.on < i := by
  have := (h.cert i hi).edges
  unfold edgesOk at this
  rw [List.all_eq_true] at this
  have := this e he
  rw [hb] at this
  exact ble_true this
theorem natAt_ms {i j : Nat} (hj : j < i) : natAt (msF rc i) j = (rc j).mask := by
  rw [natAt_eq]
  simp [msF, List.getD, List.getElem?_map, List.getElem?_range hj]
theorem mask_bit (h : RegOk T facts ops n base tm0 nx0 rc) {i : Nat} (hi : i < ops.length) (k : Nat) :
    hasBit (rc i).mask k = true ↔ ∃ e ∈ (rc i).op.after.toList, Region.binds .any e = true ∧ (k = e.on ∨ hasBit (rc e.on).mask k = true) := by
  rw [(h.cert i hi).mask, maskOf_bit]
  constructor
  · rintro ⟨e, he, hb, hk⟩
    rw [natAt_ms (edge_lt h hi he hb)] at hk
    exact ⟨e, he, hb, hk⟩
  · rintro ⟨e, he, hb, hk⟩
    refine ⟨e, he, hb, ?_⟩
    rw [natAt_ms (edge_lt h hi he hb)]
    exact hk
theorem mask_lt (h : RegOk T facts ops n base tm0 nx0 rc) : ∀ {i : Nat}, i < ops.length → ∀ k, hasBit (rc i).mask k = true → k < i := by
  intro i
  induction i using Nat.strongRecOn with
  | _ i ih =>
    intro hi k hk
    obtain ⟨e, he, hb, hk⟩ := (mask_bit h hi k).mp hk
    have hlt := edge_lt h hi he hb
    rcases hk with rfl | hk
    · exact hlt
    · have := ih e.on hlt (by omega) k hk; omega
theorem mask_trans (h : RegOk T facts ops n base tm0 nx0 rc) : ∀ {i : Nat}, i < ops.length → ∀ j k, hasBit (rc i).mask j = true → hasBit (rc j).mask k = true → hasBit (rc i).mask k = true := by
  intro i
  induction i using Nat.strongRecOn with
  | _ i ih =>
    intro hi j k hj hk
    obtain ⟨e, he, hb, hj⟩ := (mask_bit h hi j).mp hj
    have hlt := edge_lt h hi he hb
    refine (mask_bit h hi k).mpr ⟨e, he, hb, ?_⟩
    rcases hj with rfl | hj
    · exact .inr hk
    · exact .inr (ih e.on hlt (by omega) j k hj hk)

theorem nx_mono (h : RegOk T facts ops n base tm0 nx0 rc) : ∀ {j i : Nat}, j < i → i ≤ ops.length → (rc j).nn < nxF nx0 rc i := by
  intro j i
  induction i with
  | zero => intro hj; omega
  | succ i ih =>
    intro hj hi
    have hle := (h.cert i (by omega)).le
    show (rc j).nn < (rc i).nn + 1
    rcases Nat.lt_or_eq_of_le (Nat.le_of_lt_succ hj) with hlt | e
    · have := ih hlt (by omega); omega
    · subst e; omega
theorem nx_base (h : RegOk T facts ops n base tm0 nx0 rc) : ∀ {i : Nat}, i ≤ ops.length → nx0 ≤ nxF nx0 rc i := by
  intro i
  induction i with
  | zero => intro _; exact Nat.le_refl _
  | succ i ih =>
    intro hi
    have hle := (h.cert i (by omega)).le
    have := ih (by omega)
    show nx0 ≤ (rc i).nn + 1
    omega
/-- ranges of new names do not meet -/
theorem ranges (h : RegOk T facts ops n base tm0 nx0 rc) {i j m : Nat} (hi : i < ops.length) (hj : j < ops.length) (h1 : nxF nx0 rc i ≤ m) (h2 : m ≤ (rc i).nn) (h3 : nxF nx0 rc j ≤ m) (h4 : m ≤ (rc j).nn) : i = j := by
  rcases Nat.lt_trichotomy i j with x | x | x
  · have := nx_mono h x (by omega); omega
  · exact x
  · have := nx_mono h x (by omega); omega

/-- what writes at a name; at a temporary -/
def wrH (rc : Nat → Rec) (m : Nat) (j : Nat) : Option (Option ABlk) := lastA (rc j).d m
def wrT (rc : Nat → Rec) (t : Tmp) (j : Nat) : Option SV := if (rc j).op.dst = some t then some (rc j).v else none

theorem viewT_get (mask : Nat) (base : Tr ABlk) : ∀ (i : Nat) (m : Nat), (viewT mask rc base i).get m = lastW (fun j => hasBit mask j) (wrH rc m) i (base.get m)
  | 0, m => rfl
  | i + 1, m => by
    simp only [viewT, lastW]
    split
    · rw [applyT_get, applyF_at, viewT_get mask base i]
      simp only [wrH]
      cases lastA (rc i).d m <;> rfl
    · exact viewT_get mask base i m
theorem tmGet_put (tm : Tr SV) (d : Nat) (v : SV) (t : Nat) : tmGet (tm.put d (some v)) t = if t = d then v else tmGet tm t := by
  unfold tmGet; rw [Tr.get_put]
  by_cases h : t = d
  · simp only [h, if_true]
  · simp only [h, if_false]
theorem tmF_get (tm0 : Tr SV) : ∀ (i : Nat) (t : Nat), tmGet (tmF tm0 rc i) t = lastW (fun _ => true) (wrT rc t) i (tmGet tm0 t)
  | 0, t => rfl
  | i + 1, t => by
    simp only [tmF, lastW, if_true, wrT]
    cases hd : (rc i).op.dst with
    | none => simp only [putD, reduceCtorEq, if_false]; exact tmF_get tm0 i t
    | some d =>
      simp only [putD, tmGet_put, Option.some.injEq]
      by_cases e : t = d
      · subst e; simp
      · rw [if_neg e, if_neg (fun x => e x.symm)]; exact tmF_get tm0 i t

/-- a name that is written: turned, and seen; or new -/
theorem wr_name (h : RegOk T facts ops n base tm0 nx0 rc) {j : Nat} (hj : j < ops.length) {m : Nat} (hw : wrH rc m j ≠ none) :
    (m ∈ dW (nxF nx0 rc j) (rc j).d ∧ m < nxF nx0 rc j ∧ (viewT (rc j).mask rc base j).get m ≠ none) ∨ (nxF nx0 rc j ≤ m ∧ m < (rc j).nn) := by
  obtain ⟨b, hb⟩ := lastA_mem hw
  have hc := h.cert j hj
  cases hwant : (rc j).want with
  | false => obtain ⟨_, hd, _⟩ := hc.idle hwant; rw [hd] at hb; cases hb
  | true =>
    obtain ⟨t, ht, _, hv⟩ := hc.run hwant
    have gen : ∀ (d : List (Nat × Option ABlk)), inView t (nxF nx0 rc j) (rc j).nn d = true → (m, b) ∈ d → (m ∈ dW (nxF nx0 rc j) d ∧ m < nxF nx0 rc j ∧ t.get m ≠ none) ∨ (nxF nx0 rc j ≤ m ∧ m < (rc j).nn) := by
      intro d
      induction d with
      | nil => intro _ hm; cases hm
      | cons p d ih =>
        obtain ⟨k, c⟩ := p
        intro hv hm
        simp only [inView] at hv
        cases hk : Nat.ble (Nat.succ k) (nxF nx0 rc j) with
        | true =>
          rw [hk] at hv; dsimp only at hv
          have hklt := ble_true hk
          cases hg : t.get k with
          | none => rw [hg] at hv; cases hv
          | some y =>
            rw [hg] at hv; dsimp only at hv
            rcases List.mem_cons.mp hm with e | hm
            · cases e
              exact .inl ⟨by simp [dW, hk], hklt, by rw [hg]; simp⟩
            · rcases ih hv hm with ⟨x, y⟩ | y
              · exact .inl ⟨by simp [dW, hk, x], y⟩
              · exact .inr y
        | false =>
          rw [hk] at hv; dsimp only at hv
          have hkge := ble_false hk
          cases hk2 : Nat.ble (Nat.succ k) (rc j).nn with
          | false => rw [hk2] at hv; cases hv
          | true =>
            rw [hk2] at hv; dsimp only at hv
            have := ble_true hk2
            rcases List.mem_cons.mp hm with e | hm
            · cases e; exact .inr ⟨by omega, by omega⟩
            · rcases ih hv hm with ⟨x, y⟩ | y
              · exact .inl ⟨by simp [dW, hk, x], y⟩
              · exact .inr y
    rcases gen _ hv hb with ⟨x, y, z⟩ | y
    · refine .inl ⟨x, y, ?_⟩
      rcases ht with rfl | ⟨_, rfl⟩
      · exact z
      · exact absurd (Tr.get_leaf m) z
    · exact .inr y

/-- a new name of j is seen only by those that wait for j -/
theorem new_seen (h : RegOk T facts ops n base tm0 nx0 rc) {j m : Nat} (hj : j < ops.length) (h1 : nxF nx0 rc j ≤ m) (h2 : m < (rc j).nn) : ∀ {a : Nat}, a < ops.length → (viewT (rc a).mask rc base a).get m ≠ none → hasBit (rc a).mask j = true := by
  intro a
  induction a using Nat.strongRecOn with
  | _ a ih =>
    intro ha hv
    rw [viewT_get] at hv
    rcases lastW_src (S := fun j => hasBit (rc a).mask j) (wr := wrH rc m) (i := a) (x := base.get m) with e | ⟨j', hj', hS, hw⟩
    · rw [e] at hv
      cases hb : base.get m with
      | none => exact absurd hb hv
      | some b =>
        have := h.base m b hb
        have := nx_base h (i := j) (by omega)
        omega
    · rcases wr_name h (by omega) hw with ⟨_, _, hs⟩ | ⟨h3, h4⟩
      · have := ih j' hj' (by omega) hs
        exact mask_trans h ha j' j hS this
      · have : j' = j := ranges h (by omega) hj h3 (by omega) h1 (by omega)
        subst this; exact hS
end
end Go.Sx

namespace Go.Sx
open Go
set_option linter.unusedVariables false
set_option linter.unusedSimpArgs false

/-- the heap when the operations of S have been carried out -/
noncomputable def stT (S : Nat → Bool) (rc : Nat → Rec) (base : Tr ABlk) : Nat → Tr ABlk
  | 0 => base
  | i + 1 => if S i = true then applyT (rc i).d (stT S rc base i) else stT S rc base i
theorem stT_get (S : Nat → Bool) (rc : Nat → Rec) (base : Tr ABlk) : ∀ (i : Nat) (m : Nat), (stT S rc base i).get m = lastW S (wrH rc m) i (base.get m)
  | 0, m => rfl
  | i + 1, m => by
    simp only [stT, lastW]
    split
    · rw [applyT_get, applyF_at, stT_get S rc base i]
      simp only [wrH]
      cases lastA (rc i).d m <;> rfl
    · exact stT_get S rc base i m

def addS (S : Nat → Bool) (a : Nat) : Nat → Bool := fun j => if j = a then true else S j

structure Exec (T : PT) (P : Program) (ops : List Oper) (n : Nat) (base : Tr ABlk) (tm0 : Tr SV) (nx0 : Nat) (rc : Nat → Rec) (E0 : Env) (w0 : World) (S : Nat → Bool) (E : Env) (w : World) (tmps : Array Value) : Prop where
  sub : ∀ j, S j = true → j < ops.length
  down : ∀ j k, S j = true → hasBit (rc j).mask k = true → S k = true
  size : tmps.size = n
  tm : ∀ t : Nat, VRel E (lastW S (wrT rc t) ops.length (tmGet tm0 t)) (tmps.getD t undef)
  rel : R P E (fun m => lastW S (wrH rc m) ops.length (base.get m)) w
  dom : ∀ m, E m ≠ none → E0 m ≠ none ∨ ∃ j, S j = true ∧ nxF nx0 rc j ≤ m ∧ m < (rc j).nn
  since : ∃ W, Since E0 w0 E w W ∧ ∀ m ∈ W, ∃ j, j < ops.length ∧ m ∈ dW (nxF nx0 rc j) (rc j).d

section
variable {T : PT} {P : Program} {facts : Facts} {ops : List Oper} {n : Nat} {base : Tr ABlk} {tm0 : Tr SV} {nx0 : Nat} {rc : Nat → Rec} {E0 E : Env} {w0 w : World} {S : Nat → Bool} {tmps : Array Value} {a : Nat}

theorem wrT_ne {t j : Nat} (h : wrT rc t j ≠ none) : (rc j).op.dst = some t := by
  unfold wrT at h
  split at h
  · assumption
  · exact absurd rfl h

theorem pre_mask (h : RegOk T facts ops n base tm0 nx0 rc) (x : Exec T P ops n base tm0 nx0 rc E0 w0 S E w tmps) (ha : a < ops.length) (hpre : ∀ e ∈ (rc a).op.after.toList, Region.binds .any e = true → S e.on = true) :
    ∀ k, hasBit (rc a).mask k = true → S k = true := by
  intro k hk
  obtain ⟨e, he, hb, hk⟩ := (mask_bit h ha k).mp hk
  have := hpre e he hb
  rcases hk with rfl | hk
  · exact this
  · exact x.down _ _ this hk

theorem unordered (h : RegOk T facts ops n base tm0 nx0 rc) (x : Exec T P ops n base tm0 nx0 rc E0 w0 S E w tmps) (ha : a < ops.length) (hSa : S a = false) {j : Nat} (hj : S j = true) (hb : hasBit (rc a).mask j = false) : Apart ops nx0 rc a j := by
  have hjl := x.sub j hj
  rcases Nat.lt_trichotomy j a with c | c | c
  · exact allApart_inv (h.cert a ha).apart j c hb
  · subst c; rw [hSa] at hj; cases hj
  · have : hasBit (rc j).mask a = false := by
      cases hx : hasBit (rc j).mask a with
      | false => rfl
      | true => have := x.down j a hj hx; rw [hSa] at this; cases this
    exact (allApart_inv (h.cert j hjl).apart a c this).symm

/-- what an operation uses is what the text has it -/
theorem uses_ok (h : RegOk T facts ops n base tm0 nx0 rc) (x : Exec T P ops n base tm0 nx0 rc E0 w0 S E w tmps) (ha : a < ops.length) (hSa : S a = false) (hm : ∀ k, hasBit (rc a).mask k = true → S k = true) {t : Nat} (ht : t ∈ usesOf ops (rc a).op) :
    VRel E (tmGet (tmF tm0 rc a) t) (tmps.getD t undef) := by
  have e : tmGet (tmF tm0 rc a) t = lastW S (wrT rc t) ops.length (tmGet tm0 t) := by
    rw [tmF_get]
    rw [lastW_beyond (i := a) (n := ops.length) (by omega) fun j h1 h2 h3 => ?_]
    · refine lastW_congr fun j hj hw => ?_
      cases hS : S j with
      | true => rfl
      | false =>
        have hb : hasBit (rc a).mask j = false := by
          cases hx : hasBit (rc a).mask j with
          | false => rfl
          | true => have := hm j hx; rw [hS] at this; cases this
        exact absurd ht ((allApart_inv (h.cert a ha).apart j hj hb).bu t (wrT_ne hw))
    · cases hw : wrT rc t j with
      | none => rfl
      | some v =>
        have hd := wrT_ne (rc := rc) (t := t) (j := j) (by rw [hw]; simp)
        have hb : hasBit (rc a).mask j = false := by
          cases hx : hasBit (rc a).mask j with
          | false => rfl
          | true => have := mask_lt h ha j hx; omega
        exact absurd ht ((unordered h x ha hSa h3 hb).bu t hd)
  rw [e]; exact x.tm t

/-- what an operation has seen lies in memory -/
theorem seen_ok (h : RegOk T facts ops n base tm0 nx0 rc) (x : Exec T P ops n base tm0 nx0 rc E0 w0 S E w tmps) (ha : a < ops.length) (hSa : S a = false) (hm : ∀ k, hasBit (rc a).mask k = true → S k = true) {m : Nat} {b : ABlk}
    (hv : (viewT (rc a).mask rc base a).get m = some b) (hrd : ∀ rd, (rc a).rd = some rd → m ∈ rd) : lastW S (wrH rc m) ops.length (base.get m) = some b := by
  have claim : ∀ j, S j = true → wrH rc m j ≠ none → hasBit (rc a).mask j = true := by
    intro j hj hw
    cases hb : hasBit (rc a).mask j with
    | true => rfl
    | false =>
      have hap := unordered h x ha hSa hj hb
      rcases wr_name h (x.sub j hj) hw with ⟨hW, _⟩ | ⟨h1, h2⟩
      · obtain ⟨rd, hrd', hn⟩ := hap.bw m hW
        exact absurd (hrd rd hrd') hn
      · have := new_seen h (x.sub j hj) h1 h2 ha (by rw [hv]; simp)
        rw [hb] at this; cases this
  rw [lastW_beyond (i := a) (n := ops.length) (by omega) fun j h1 h2 h3 => ?_]
  · rw [← hv, viewT_get]
    refine lastW_congr fun j hj hw => ?_
    cases hS : S j with
    | true => exact (claim j hS hw).symm
    | false =>
      cases hb : hasBit (rc a).mask j with
      | false => rfl
      | true => have := hm j hb; rw [hS] at this; cases this
  · cases hw : wrH rc m j with
    | none => rfl
    | some v => have := mask_lt h ha j (claim j h3 (by rw [hw]; simp)); omega

/-- an operation's new names are not there yet -/
theorem new_free (h : RegOk T facts ops n base tm0 nx0 rc) (x : Exec T P ops n base tm0 nx0 rc E0 w0 S E w tmps) (ha : a < ops.length) (hSa : S a = false) (hfree : ∀ m, nx0 ≤ m → E0 m = none) {m : Nat} (h1 : nxF nx0 rc a ≤ m) (h2 : m ≤ (rc a).nn) : E m = none := by
  cases he : E m with
  | none => rfl
  | some e =>
    rcases x.dom m (by rw [he]; simp) with hd | ⟨j, hj, h3, h4⟩
    · have := nx_base h (i := a) (by omega)
      exact absurd (hfree m (by omega)) hd
    · have := ranges h ha (x.sub j hj) h1 h2 h3 (by omega)
      subst this; rw [hSa] at hj; cases hj

theorem exec_upd (h : RegOk T facts ops n base tm0 nx0 rc) (x : Exec T P ops n base tm0 nx0 rc E0 w0 S E w tmps) (ha : a < ops.length) (hSa : S a = false) (hm : ∀ k, hasBit (rc a).mask k = true → S k = true)
    {E' : Env} {w' : World} {val : Value} (hs : Since E w E' w' (dW (nxF nx0 rc a) (rc a).d)) (hR : R P E' (applyF (rc a).d fun m => lastW S (wrH rc m) ops.length (base.get m)) w')
    (hd : ∀ m, E' m ≠ none → E m ≠ none ∨ (nxF nx0 rc a ≤ m ∧ m < (rc a).nn)) (hv : VRel E' (rc a).v val) : Exec T P ops n base tm0 nx0 rc E0 w0 (addS S a) E' w' (putA (rc a).op.dst tmps val) := by
  have hadd : ∀ j, addS S a j = true → j = a ∨ S j = true := by
    intro j hj
    unfold addS at hj
    split at hj
    · left; assumption
    · right; exact hj
  have hSS : ∀ j, S j = true → addS S a j = true := by intro j hj; unfold addS; split; rfl; exact hj
  have haa : addS S a a = true := by simp [addS]
  have hne : ∀ j, j ≠ a → addS S a j = S j := by intro j hj; unfold addS; rw [if_neg hj]
  refine ⟨?_, ?_, ?_, ?_, ?_, ?_, ?_⟩
  · intro j hj
    rcases hadd j hj with rfl | hj
    · exact ha
    · exact x.sub j hj
  · intro j k hj hk
    rcases hadd j hj with rfl | hj
    · exact hSS k (hm k hk)
    · exact hSS k (x.down j k hj hk)
  · unfold putA; split <;> simp [x.size]
  · intro t
    by_cases hdst : (rc a).op.dst = some t
    · have hlast : lastW (addS S a) (wrT rc t) ops.length (tmGet tm0 t) = (rc a).v := by
        refine lastW_last ha haa (by unfold wrT; rw [if_pos hdst]) fun j hj hSj hw => ?_
        rcases hadd j hSj with rfl | hSj
        · exact Nat.le_refl _
        · cases hb : hasBit (rc a).mask j with
          | true => have := mask_lt h ha j hb; omega
          | false => exact absurd (wrT_ne hw) ((unordered h x ha hSa hSj hb).dd t hdst)
      rw [hlast, hdst]
      have hlt := (h.cert a ha).dst t hdst
      have hsz := x.size
      simp only [putA, Array.getD_eq_getD_getElem?, Array.getElem?_setIfInBounds_self_of_lt (show t < tmps.size by rw [hsz]; exact hlt), Option.getD_some]
      exact hv
    · have hsame : lastW (addS S a) (wrT rc t) ops.length (tmGet tm0 t) = lastW S (wrT rc t) ops.length (tmGet tm0 t) := by
        refine lastW_congr fun j hj hw => hne j ?_
        rintro rfl; exact hdst (wrT_ne hw)
      rw [hsame]
      have hg : (putA (rc a).op.dst tmps val).getD t undef = tmps.getD t undef := by
        unfold putA
        split
        · rename_i d hd
          rw [Array.getD_eq_getD_getElem?, Array.getElem?_setIfInBounds_ne (fun e => hdst (by rw [hd, e])), ← Array.getD_eq_getD_getElem?]
        · rfl
      rw [hg]
      exact VRel.ext hs.ext _ _ (x.tm t)
  · have e : (fun m => lastW (addS S a) (wrH rc m) ops.length (base.get m)) = applyF (rc a).d fun m => lastW S (wrH rc m) ops.length (base.get m) := by
      funext m
      rw [applyF_at]
      cases hl : lastA (rc a).d m with
      | some y =>
        have hwa : wrH rc m a ≠ none := by unfold wrH; rw [hl]; simp
        refine lastW_last ha haa (by unfold wrH; exact hl) fun j hj hSj hw => ?_
        rcases hadd j hSj with rfl | hSj
        · exact Nat.le_refl _
        · cases hb : hasBit (rc a).mask j with
          | true => have := mask_lt h ha j hb; omega
          | false =>
            exfalso
            have hap := unordered h x ha hSa hSj hb
            rcases wr_name h ha hwa with ⟨a1, a2, a3⟩ | ⟨a1, a2⟩
            · rcases wr_name h hj hw with ⟨b1, b2, b3⟩ | ⟨b1, b2⟩
              · exact hap.ww m a1 b1
              · have := new_seen h hj b1 b2 ha a3
                rw [hb] at this; cases this
            · rcases wr_name h hj hw with ⟨b1, b2, b3⟩ | ⟨b1, b2⟩
              · have := x.down j a hSj (new_seen h ha a1 a2 hj b3)
                rw [hSa] at this; cases this
              · have := ranges h ha hj a1 (by omega) b1 (by omega)
                subst this; rw [hSa] at hSj; cases hSj
      | none =>
        refine lastW_congr fun j hj hw => hne j ?_
        rintro rfl; exact hw hl
    rw [e]; exact hR
  · intro m hmE
    rcases hd m hmE with h1 | h1
    · rcases x.dom m h1 with h2 | ⟨j, hj, h2⟩
      · exact .inl h2
      · exact .inr ⟨j, hSS j hj, h2⟩
    · exact .inr ⟨a, haa, h1⟩
  · obtain ⟨W, hW, hWm⟩ := x.since
    refine ⟨_, hW.trans hs, fun m hmm => ?_⟩
    rcases List.mem_append.mp hmm with h1 | h1
    · exact ⟨a, ha, h1⟩
    · exact hWm m h1
end
end Go.Sx

namespace Go.Sx
open Go
set_option linter.unusedVariables false
set_option linter.unusedSimpArgs false

section
variable {T : PT} {P : Program} {facts : Facts} {n : Nat} {base : Tr ABlk} {tm0 : Tr SV} {nx0 : Nat} {rc : Nat → Rec} {E0 E : Env} {w0 w : World} {S : Nat → Bool} {a : Nat} {arr : Array Oper}

theorem ltAll_inv {nx : Nat} : ∀ {l : List Nat}, ltAll nx l = true → ∀ m ∈ l, m < nx
  | [], _, m, hm => by cases hm
  | x :: xs, h, m, hm => by
    simp only [ltAll] at h
    cases hx : Nat.ble (Nat.succ x) nx with
    | false => rw [hx] at h; cases h
    | true =>
      rw [hx] at h
      rcases List.mem_cons.mp hm with rfl | hm
      · exact ble_true hx
      · exact ltAll_inv h m hm

theorem mem_tmpsOf {t : Tmp} {l : List Operand} (h : Operand.tmp t ∈ l) : t ∈ tmpsOf l := List.mem_filterMap.mpr ⟨_, h, rfl⟩

/-- what is asked of an outcome in a region that draws -/
theorem drawOut_cases {t : Tr ABlk} {nx : Nat} {out : Out} {v : SV} {d : List (Nat × Option ABlk)} {nn : Nat} {rd : Option (List Nat)} (h : drawOut facts t nx out = .some v d nn rd) :
    (out = .pure v out.rd ∧ d = [] ∧ nn = nx ∧ rd = some out.rd) ∨ (out = .eff (.val v) d nn out.rd ∧ rd = some out.rd) ∨ (out = .eff .skip d nn out.rd ∧ v = .undef ∧ rd = some out.rd) ∨
    (∃ f args o2, out = .eff (.enter f args) [] nx out.rd ∧ facts f args t nx = some [o2] ∧ Out.fin nx o2 = some (v, d, nn) ∧ rd = none) := by
  cases out with
  | pure v' rd' => simp only [drawOut] at h; cases h; exact .inl ⟨rfl, rfl, rfl, rfl⟩
  | eff x d' nn' rd' =>
    simp only [drawOut] at h
    cases x with
    | val v' => cases h; exact .inr (.inl ⟨rfl, rfl⟩)
    | skip => cases h; exact .inr (.inr (.inl ⟨rfl, rfl, rfl⟩))
    | enter f args =>
      dsimp only at h
      cases hn : noEff d' nn' nx with
      | false => rw [hn] at h; cases h
      | true =>
        rw [hn] at h; dsimp only at h
        obtain ⟨rfl, rfl⟩ := noEff_inv hn
        cases hf : facts f args t nn' with
        | none => rw [hf] at h; cases h
        | some outs =>
          rw [hf] at h; dsimp only at h
          obtain ⟨o2, rfl⟩ : ∃ o2, outs = [o2] := by
            cases outs with
            | nil => cases h
            | cons o2 more => cases more with
              | nil => exact ⟨o2, rfl⟩
              | cons a b => cases h
          refine .inr (.inr (.inr ⟨f, args, o2, rfl, hf, ?_⟩))
          cases o2 with
          | pure v2 rd2 => cases h; exact ⟨rfl, rfl⟩
          | eff y d2 nn2 rd2 => cases y <;> first | (cases h; done) | (cases h; exact ⟨rfl, rfl⟩)
    | round l args => cases h
    | defer dd => cases h
    | recover => cases h
    | panic v => cases h

theorem exec_step (hT : TOk T P) (hF : FactsOk T P facts) (h : RegOk T facts arr.toList n base tm0 nx0 rc) (hfree : ∀ m, nx0 ≤ m → E0 m = none) (hg0 : GRel T E0) {fr : Frame} {rest : List Nat} {is : List Item} {cs : List Frame}
    (x : Exec T P arr.toList n base tm0 nx0 rc E0 w0 S E w fr.tmps) (ha : a < arr.toList.length) (hSa : S a = false) (hpre : ∀ e ∈ (rc a).op.after.toList, Region.binds .any e = true → S e.on = true)
    (hmode : fr.mode = .run) (htd : fr.todo = .inRegion arr (a :: rest) :: is) :
    ∃ E' w' tmps', Go.Steps P (lone fr cs w) (lone { fr with todo := .inRegion arr rest :: is, tmps := tmps' } cs w') ∧ Exec T P arr.toList n base tm0 nx0 rc E0 w0 (addS S a) E' w' tmps' := by
  have hm := pre_mask h x ha hpre
  have hc := h.cert a ha
  have ho : arr[a]? = some (rc a).op := by rw [← Array.getElem?_toList]; exact hc.op
  have hx0 : Ext E0 E := by obtain ⟨W, hW, _⟩ := x.since; exact hW.ext
  have hg : GRel T E := hg0.ext hx0
  have hwant : Region.wanted (rc a).op (yielded arr fr.tmps) = (rc a).want := by
    refine wanted_ok' (E := E) (tm := tmF tm0 rc a) (fun j want oj d hgd hoj hd => ?_) hc.wanted
    refine uses_ok h x ha hSa hm ?_
    unfold usesOf
    rw [hgd]
    refine List.mem_append.mpr (.inl ?_)
    dsimp only
    rw [opAt_eq, Array.getElem?_toList, hoj]
    simp [hd]
  have hfin : ∀ val, fr.finish val = { fr with todo := .inRegion arr rest :: is, tmps := putA (rc a).op.dst fr.tmps val } := by
    intro val
    simp only [Frame.finish, htd, ho, Option.bind_some]
    rfl
  cases hw : (rc a).want with
  | false =>
    obtain ⟨hv, hd, hrd, hnn⟩ := hc.idle hw
    have hs := stepR_op_skip (P := P) (b := fr) (a := ⟨fr.tmps, fr.defers⟩) (k := is) (cs := cs) (w := w) (ops := arr) (i := a) (rest := rest) (by simp [ho, hwant, hw])
    rw [← Frame.finish_atR, ← htd, run_self hmode, hfin] at hs
    refine ⟨E, w, _, .one hs, exec_upd h x ha hSa hm ?_ ?_ (fun m hmm => .inl hmm) (by rw [hv]; exact undef_rel E)⟩
    · rw [hd]; exact Since.refl E w
    · rw [hd]; exact x.rel
  | true =>
    rw [hw] at hwant
    have hask := ask_op (P := P) (cs := cs) (w := w) hmode htd ho hwant
    obtain ⟨t, ht, hdr, hiv⟩ := hc.run hw
    unfold drawOp at hdr
    cases hao : aop T t (nxF nx0 rc a) (evalOpnd T (tmF tm0 rc a)) (rc a).op.op with
    | none => rw [hao] at hdr; cases hdr
    | some out =>
      rw [hao] at hdr; dsimp only at hdr
      cases hlt : ltAll (nxF nx0 rc a) out.rd with
      | false => rw [hlt] at hdr; cases hdr
      | true =>
        rw [hlt] at hdr; dsimp only at hdr
        have hcases := drawOut_cases hdr
        have hrdo : ∀ rd, (rc a).rd = some rd → rd = out.rd := by
          intro rd hrd
          rcases hcases with ⟨_, _, _, e⟩ | ⟨_, e⟩ | ⟨_, _, e⟩ | ⟨_, _, _, _, _, _, e⟩ <;> rw [hrd] at e <;> cases e <;> rfl
        -- the same outcome, over memory as it lies
        have hrel : R P E (stT S rc base arr.toList.length).get w := by
          have := x.rel
          have e : (stT S rc base arr.toList.length).get = fun m => lastW S (wrH rc m) arr.toList.length (base.get m) := by funext m; exact stT_get S rc base _ m
          rw [e]; exact this
        have hao2 : aop T (stT S rc base arr.toList.length) (nxF nx0 rc a) (evalOpnd T (tmF tm0 rc a)) (rc a).op.op = some out := by
          rcases ht with rfl | ⟨htc, rfl⟩
          · refine aop_loc (fun m hmr b hb => ?_) hao
            rw [stT_get]
            exact seen_ok h x ha hSa hm hb fun rd hrd => by rw [hrdo rd hrd]; exact hmr
          · rw [aop_leaf htc _ .leaf]; exact hao
        -- and of the operands alone
        let ev' : Operand → SV := fun o => match o with
          | .tmp t => if t ∈ usesOf arr.toList (rc a).op then tmGet (tmF tm0 rc a) t else .bad
          | o => evalOpnd T (tmF tm0 rc a) o
        have hao3 : aop T (stT S rc base arr.toList.length) (nxF nx0 rc a) ev' (rc a).op.op = some out := by
          rw [← hao2]
          refine aop_cong fun o homem => ?_
          cases o with
          | tmp t =>
            have : t ∈ usesOf arr.toList (rc a).op := List.mem_append.mpr (.inr (mem_tmpsOf homem))
            simp only [ev', if_pos this]
            rfl
          | _ => rfl
        have hev : ∀ o, VRel E (ev' o) ((Act.mk fr.tmps fr.defers).eval o) := by
          intro o
          cases o with
          | tmp t =>
            simp only [ev']
            split
            · rename_i hu; exact uses_ok h x ha hSa hm hu
            · simp only [VRel]
          | const v => exact ofConst_rel v
          | func f => simp only [ev', evalOpnd, Act.eval, VRel]; exact ⟨[], [], VRelL.nil, VRelL.nil, rfl⟩
          | global g =>
            simp only [ev', evalOpnd, evalG, Act.eval]
            cases hn : T.gname g with
            | none => simp only [VRel]
            | some m =>
              obtain ⟨e, he, h1, h2⟩ := hg g m hn
              simp only [VRel]
              exact ⟨e, he, by rw [h1, h2]⟩
        have hle := hc.le
        have hfn : E (nxF nx0 rc a) = none := new_free h x ha hSa hfree (Nat.le_refl _) hle
        have hsound := aop_sound hT hrel hfn (fun m hmr b _ => ltAll_inv hlt m hmr) hev hao3
        have hnd : ∀ c, (rc a).op.op ≠ .defer c := notDefer hao3 (fun d e => by
          rw [e] at hdr; simp [drawOut] at hdr)
        rw [Oper.semAt_eq _ _ _ hnd] at hask
        have hst : (stT S rc base arr.toList.length).get = fun m => lastW S (wrH rc m) arr.toList.length (base.get m) := by funext m; exact stT_get S rc base _ m
        -- an effect of the operation's own
        have done : ∀ {E' : Env} {w' : World} {val : Value}, Go.step P (lone fr cs w) = .next (lone (fr.finish val) cs w') → VRel E' (rc a).v val →
            Eff P E (nxF nx0 rc a) (stT S rc base arr.toList.length).get w (rc a).d (rc a).nn E' w' →
            ∃ E' w' tmps', Go.Steps P (lone fr cs w) (lone { fr with todo := .inRegion arr rest :: is, tmps := tmps' } cs w') ∧ Exec T P arr.toList n base tm0 nx0 rc E0 w0 (addS S a) E' w' tmps' := by
          intro E' w' val hs hv he
          rw [hfin] at hs
          refine ⟨E', w', _, .one hs, exec_upd h x ha hSa hm ⟨he.ext, he.fr, he.fresh⟩ (by rw [← hst]; exact he.rel) he.dom hv⟩
        rcases hcases with ⟨e1, e2, e3, _⟩ | ⟨e1, _⟩ | ⟨e1, e2, _⟩ | ⟨f, args, o2, e1, hfact, hofin, e2⟩
        · rw [e1] at hsound
          obtain ⟨val, hr, hv⟩ := hsound
          refine done (apply_value hask hr) hv ?_
          rw [e2, e3]
          exact Eff.refl hrel
        · rw [e1] at hsound
          obtain ⟨E', w', he, nx', hr, val, rfl, hv⟩ := hsound
          exact done (apply_value hask hr) hv he
        · rw [e1] at hsound
          obtain ⟨E', w', he, nx', hr, rfl⟩ := hsound
          exact done (apply_skip hask hr) (by rw [e2]; exact undef_rel E') he
        · rw [e1] at hsound
          obtain ⟨E1, w1, he, nx', hr, vs, hvs, rfl⟩ := hsound
          have hsub : ∀ m b, t.get m = some b → (stT S rc base arr.toList.length).get m = some b := by
            intro m b hb
            rcases ht with rfl | ⟨_, rfl⟩
            · rw [stT_get]
              exact seen_ok h x ha hSa hm hb fun rd hrd => by rw [hrd] at e2; cases e2
            · rw [Tr.get_leaf] at hb; cases hb
          have hrel1 : R P E1 (stT S rc base arr.toList.length).get w1 := he.rel
          have hdom1 : ∀ m, E1 m ≠ none → E m ≠ none := by
            intro m hmm
            rcases he.dom m hmm with y | y
            · exact y
            · omega
          have hfree1 : ∀ m, nxF nx0 rc a ≤ m → m < (rc a).nn → E1 m = none := by
            intro m h1 h2
            cases hE1 : E1 m with
            | none => rfl
            | some y => exact absurd (new_free h x ha hSa hfree h1 (by omega)) (hdom1 m (by rw [hE1]; simp))
          obtain ⟨e, w', fr', ⟨out2, hmem2, v2, d2, nn2, hfin2, E', val, rfl, hv, he2⟩, hcomes, hfn', hleave⟩ := hF f args t _ [o2] hfact E1 w1 vs _ hsub hrel1 (fun o ho v d nn hf => by
            rw [List.mem_singleton.mp ho, hofin] at hf; cases hf; exact hfree1) (hg.ext he.ext) hvs (fr :: cs)
          rw [List.mem_singleton.mp hmem2, hofin] at hfin2
          cases hfin2
          have hstep2 := step_leave_returned (P := P) (c := fr) (cs := cs) hleave
          rw [hfin] at hstep2
          have hs1 : Since E w E1 w1 [] := ⟨he.ext, by have := he.fr; simpa [dW] using this, by have := he.fresh; simpa [dW] using this⟩
          have hs2 : Since E1 w1 E' w' (dW (nxF nx0 rc a) (rc a).d) := ⟨he2.ext, he2.fr, he2.fresh⟩
          have hs := hs1.trans hs2
          rw [List.append_nil] at hs
          refine ⟨E', w', _, .head (apply_enter hask hr) (Steps.trans hcomes (.one hstep2)), exec_upd h x ha hSa hm hs (by rw [← hst]; exact he2.rel) (fun m hmm => ?_) hv⟩
          rcases he2.dom m hmm with y | y
          · exact .inl (hdom1 m y)
          · exact .inr y
end
end Go.Sx

namespace Go.Sx
open Go
set_option linter.unusedVariables false
set_option linter.unusedSimpArgs false

/-! ## Schedules -/
inductive Sched (n : Nat) (pre : Nat → Nat → Prop) : (Nat → Bool) → List Nat → Prop
  | done {S : Nat → Bool} (h : ∀ i, i < n → S i = true) : Sched n pre S []
  | step {S : Nat → Bool} {i : Nat} {L : List Nat} (h1 : i < n) (h2 : S i = false) (h3 : ∀ k, pre i k → S k = true) (h4 : Sched n pre (addS S i) L) : Sched n pre S (i :: L)

def cnt (S : Nat → Bool) : Nat → Nat
  | 0 => 0
  | n + 1 => cnt S n + (if S n = true then 0 else 1)
theorem cnt_zero {S : Nat → Bool} : ∀ {n : Nat}, cnt S n = 0 → ∀ j, j < n → S j = true
  | 0, _, j, hj => by omega
  | n + 1, h, j, hj => by
    simp only [cnt] at h
    have hn : S n = true := by
      cases hs : S n with
      | true => rfl
      | false => rw [hs] at h; simp at h
    rcases Nat.lt_or_eq_of_le (Nat.le_of_lt_succ hj) with hlt | e
    · exact cnt_zero (n := n) (by omega) j hlt
    · subst e; exact hn
theorem cnt_same {S S' : Nat → Bool} : ∀ {n : Nat}, (∀ j, j < n → S j = S' j) → cnt S n = cnt S' n
  | 0, _ => rfl
  | n + 1, h => by simp only [cnt, h n (by omega), cnt_same (n := n) fun j hj => h j (by omega)]
theorem cnt_add {S : Nat → Bool} {i : Nat} : ∀ {n : Nat}, i < n → S i = false → cnt (addS S i) n + 1 = cnt S n
  | 0, hi, _ => by omega
  | n + 1, hi, hS => by
    simp only [cnt]
    rcases Nat.lt_or_eq_of_le (Nat.le_of_lt_succ hi) with hlt | e
    · have ih := cnt_add (n := n) hlt hS
      have : addS S i n = S n := by unfold addS; rw [if_neg (by omega)]
      rw [this]; omega
    · subst e
      have h1 : addS S i i = true := by simp [addS]
      have h2 : cnt (addS S i) i = cnt S i := cnt_same fun j hj => by unfold addS; rw [if_neg (by omega)]
      rw [h1, h2, hS]; simp
theorem cnt_min {S : Nat → Bool} : ∀ {n : Nat}, cnt S n ≠ 0 → ∃ i, i < n ∧ S i = false ∧ ∀ j, j < i → S j = true
  | 0, h => absurd rfl h
  | n + 1, h => by
    by_cases h0 : cnt S n = 0
    · refine ⟨n, by omega, ?_, cnt_zero h0⟩
      simp only [cnt, h0] at h
      cases hs : S n with
      | false => rfl
      | true => rw [hs] at h; simp at h
    · obtain ⟨i, a, b, c⟩ := cnt_min (n := n) h0
      exact ⟨i, by omega, b, c⟩
theorem cnt_none : ∀ n : Nat, cnt (fun _ => false) n = n
  | 0 => rfl
  | n + 1 => by simp [cnt, cnt_none n]

def Pre (arr : Array Oper) (i k : Nat) : Prop := ∃ o, arr[i]? = some o ∧ ∃ e ∈ o.after.toList, Region.binds .any e = true ∧ k = e.on

theorem lin_go {arr : Array Oper} (hwf : ∀ i k, Pre arr i k → k < i) : ∀ (fuel t : Nat) (listed : Array Bool) (acc : List Nat) (S : Nat → Bool), listed.size = arr.size → (∀ j, j < arr.size → listed[j]? = some (S j)) → (∀ j, arr.size ≤ j → S j = false) →
    cnt S arr.size = fuel → ∃ L, Region.linearise.go .any arr fuel t listed acc = acc.reverse ++ L ∧ Sched arr.size (Pre arr) S L
  | 0, t, listed, acc, S, hsz, hl, hS, hc => ⟨[], by simp [Region.linearise.go], .done (cnt_zero hc)⟩
  | fuel + 1, t, listed, acc, S, hsz, hl, hS, hc => by
    unfold Region.linearise.go
    dsimp only
    generalize hrs : ((List.range arr.size).filter fun i =>
        !listed.getD i true && ((arr[i]?).map (·.after.all fun e => !Region.binds .any e || listed.getD e.on false)).getD false) = rs
    have hmem : ∀ i, i ∈ rs → i < arr.size ∧ S i = false ∧ ∀ k, Pre arr i k → S k = true := by
      intro i hi
      rw [← hrs, List.mem_filter, List.mem_range] at hi
      obtain ⟨h1, h2⟩ := hi
      rw [Bool.and_eq_true] at h2
      obtain ⟨h2, h3⟩ := h2
      refine ⟨h1, ?_, ?_⟩
      · have := hl i h1
        rw [Array.getD_eq_getD_getElem?, this] at h2
        simpa using h2
      · rintro k ⟨o, ho, e, he, hb, rfl⟩
        rw [ho] at h3
        simp only [Option.map_some, Option.getD_some, Array.all_eq_true_iff_forall_mem] at h3
        have := h3 e (Array.mem_toList_iff.mp he)
        rw [hb] at this
        simp only [Bool.not_true, Bool.false_or] at this
        have hk : e.on < arr.size := Nat.lt_trans (hwf i e.on ⟨o, ho, e, he, hb, rfl⟩) h1
        rw [Array.getD_eq_getD_getElem?, hl e.on hk] at this
        simpa using this
    obtain ⟨i0, hi0, hSi0, hmin⟩ := cnt_min (S := S) (n := arr.size) (by omega)
    have hi0rs : i0 ∈ rs := by
      rw [← hrs, List.mem_filter, List.mem_range]
      refine ⟨hi0, ?_⟩
      rw [Bool.and_eq_true]
      refine ⟨by rw [Array.getD_eq_getD_getElem?, hl i0 hi0]; simp [hSi0], ?_⟩
      have ho : arr[i0]? = some arr[i0] := by simp [hi0]
      rw [ho]
      simp only [Option.map_some, Option.getD_some, Array.all_eq_true_iff_forall_mem]
      intro e he
      cases hb : Region.binds .any e with
      | false => rfl
      | true =>
        have hlt := hwf i0 e.on ⟨_, ho, e, Array.mem_toList_iff.mpr he, hb, rfl⟩
        rw [Array.getD_eq_getD_getElem?, hl e.on (by omega), hmin e.on hlt]; rfl
    have hpos : 0 < rs.length := List.length_pos_of_mem hi0rs
    have hlt : t % rs.length < rs.length := Nat.mod_lt _ hpos
    have hget : rs[t % rs.length]? = some rs[t % rs.length] := by simp [hlt]
    rw [hget]
    dsimp only
    obtain ⟨h1, h2, h3⟩ := hmem _ (List.getElem_mem hlt)
    obtain ⟨L, hL, hs⟩ := lin_go hwf fuel (t / rs.length) (listed.setIfInBounds rs[t % rs.length] true) (rs[t % rs.length] :: acc) (addS S rs[t % rs.length]) (by simp [hsz]) (fun j hj => by
      by_cases e : rs[t % rs.length] = j
      · rw [Array.getElem?_setIfInBounds, if_pos e, if_pos (by omega)]
        simp [addS, ← e]
      · rw [Array.getElem?_setIfInBounds_ne e, hl j hj]
        unfold addS; rw [if_neg (fun x => e x.symm)]) (fun j hj => by unfold addS; rw [if_neg (by omega)]; exact hS j hj) (by have := cnt_add (n := arr.size) h1 h2; omega)
    exact ⟨rs[t % rs.length] :: L, by rw [hL]; simp, .step h1 h2 h3 hs⟩

theorem linearise_sched {arr : Array Oper} (hwf : ∀ i k, Pre arr i k → k < i) (t : Nat) : Sched arr.size (Pre arr) (fun _ => false) (Region.linearise .any arr t) := by
  obtain ⟨L, hL, hs⟩ := lin_go hwf arr.size t (Array.replicate arr.size false) [] (fun _ => false) (by simp) (fun j hj => by simp [hj]) (fun _ _ => rfl) (cnt_none _)
  unfold Region.linearise
  rw [hL]
  simpa using hs

section
variable {T : PT} {P : Program} {facts : Facts} {n : Nat} {base : Tr ABlk} {tm0 : Tr SV} {nx0 : Nat} {rc : Nat → Rec} {E0 : Env} {w0 : World} {arr : Array Oper}

theorem sched_run (hT : TOk T P) (hF : FactsOk T P facts) (h : RegOk T facts arr.toList n base tm0 nx0 rc) (hfree : ∀ m, nx0 ≤ m → E0 m = none) (hg0 : GRel T E0) {is : List Item} {cs : List Frame} :
    ∀ {S : Nat → Bool} {L : List Nat}, Sched arr.size (Pre arr) S L → ∀ {E : Env} {w : World} {fr : Frame}, Exec T P arr.toList n base tm0 nx0 rc E0 w0 S E w fr.tmps → fr.mode = .run → fr.todo = .inRegion arr L :: is →
    ∃ S' E' w' tmps', (∀ i, i < arr.size → S' i = true) ∧ Go.Steps P (lone fr cs w) (lone { fr with todo := is, tmps := tmps' } cs w') ∧ Exec T P arr.toList n base tm0 nx0 rc E0 w0 S' E' w' tmps' := by
  intro S L hs
  induction hs with
  | done hall =>
    intro E w fr x hmode htd
    refine ⟨_, E, w, fr.tmps, hall, ?_, x⟩
    have hs := stepR_region_end (P := P) (b := fr) (a := ⟨fr.tmps, fr.defers⟩) (k := is) (cs := cs) (w := w) (ops := arr)
    rw [← htd, run_self hmode] at hs
    have : fr.atR ⟨fr.tmps, fr.defers⟩ is = { fr with todo := is, tmps := fr.tmps } := by
      have hm := hmode
      cases fr; cases hm; rfl
    rw [← this]
    exact .one hs
  | step h1 h2 h3 h4 ih =>
    rename_i S i L
    intro E w fr x hmode htd
    have hil : i < arr.toList.length := by simpa using h1
    have hop := (h.cert i hil).op
    rw [Array.getElem?_toList] at hop
    obtain ⟨E1, w1, tmps1, hs1, x1⟩ := exec_step (cs := cs) hT hF h hfree hg0 x hil h2 (fun e he hb => h3 e.on ⟨_, hop, e, he, hb, rfl⟩) hmode htd
    obtain ⟨S', E', w', tmps', hall, hs2, x2⟩ := ih (fr := { fr with todo := .inRegion arr L :: is, tmps := tmps1 }) x1 hmode rfl
    exact ⟨S', E', w', tmps', hall, hs1.trans hs2, x2⟩

theorem lastW_false {β : Type} (wr : Nat → Option β) (x : β) : ∀ i, lastW (fun _ => false) wr i x = x
  | 0 => rfl
  | i + 1 => by simp [lastW, lastW_false wr x i]
theorem mem_allW {ops : List Oper} {j m : Nat} : ∀ {i : Nat}, j < i → m ∈ dW (nxF nx0 rc j) (rc j).d → m ∈ allW (doneF ops nx0 rc i)
  | 0, hj, _ => by omega
  | i + 1, hj, hm => by
    simp only [doneF, allW, dopF]
    rcases Nat.lt_or_eq_of_le (Nat.le_of_lt_succ hj) with hlt | e
    · exact List.mem_append.mpr (.inr (mem_allW hlt hm))
    · subst e; exact List.mem_append.mpr (.inl hm)
theorem Since.mono {E E' : Env} {w w' : World} {W W' : List Nat} (h : Since E w E' w' W) (hs : ∀ n ∈ W, n ∈ W') : Since E w E' w' W' :=
  ⟨h.ext, h.fr.mono hs, fun n e a b => (h.fresh n e a b).imp_right fun ⟨m, hm, r⟩ => ⟨m, hs m hm, r⟩⟩

theorem drawOk (hT : TOk T P) (hF : FactsOk T P facts) : DrawOk T P facts := by
  intro arr n tm t nx k hrun E w fr is cs tau hR hfree hg hmode htd htr
  have h0 := drawRun_inv (T := T) (facts := facts) (ops := arr.toList) (n := n) (base := t) (tm0 := tm) (nx0 := nx) (k := k) arr.toList 0 (fun _ => default) rfl (by simp) (fun j hj => by omega) hrun
  obtain ⟨rc, hcert, hk⟩ := h0
  have hreg : RegOk T facts arr.toList n t tm nx rc := ⟨hcert, fun m b hb => by
    obtain ⟨e, he, _⟩ := hR.blk m b hb
    rcases Nat.lt_or_ge m nx with y | y
    · exact y
    · rw [hfree m y] at he; cases he⟩
  have hwf : ∀ i k, Pre arr i k → k < i := by
    rintro i k ⟨o, ho, e, he, hb, rfl⟩
    have hi : i < arr.toList.length := by
      have := (Array.getElem?_eq_some_iff.mp ho).1
      simpa using this
    have hop := (hcert i hi).op
    rw [Array.getElem?_toList, ho] at hop
    have : o = (rc i).op := Option.some.inj hop
    exact edge_lt hreg hi (by rw [← this]; exact he) hb
  have x0 : Exec T P arr.toList n t tm nx rc E w (fun _ => false) E w fr.tmps := by
    refine ⟨fun j hj => (by cases hj), fun j k hj => (by cases hj), htr.size, fun t' => ?_, ?_, fun m hm => .inl hm, ⟨[], Since.refl E w, fun m hm => (by cases hm)⟩⟩
    · rw [lastW_false]; exact htr.get t'
    · have : (fun m => lastW (fun _ => false) (wrH rc m) arr.toList.length (t.get m)) = t.get := by funext m; exact lastW_false _ _ _
      rw [this]; exact hR
  obtain ⟨S', E', w', tmps', hall, hsteps, x⟩ := sched_run (cs := cs) hT hF hreg hfree hg (linearise_sched hwf tau) x0 hmode htd
  have hlen : arr.toList.length = arr.size := by simp
  refine ⟨_, _, _, _, E', w', tmps', hsteps, ⟨x.size, fun t' => ?_⟩, ⟨?_, fun m hm => ?_, ?_, ?_, ?_, ?_⟩, hk⟩
  · rw [tmF_get]
    have := x.tm t'
    rw [lastW_congr (S' := S') fun j hj _ => (hall j (by rw [← hlen]; exact hj)).symm]
    exact this
  · have e : (viewT (Nat.sub (Nat.pow 2 arr.toList.length) 1) rc t arr.toList.length).get = fun m => lastW S' (wrH rc m) arr.toList.length (t.get m) := by
      funext m
      rw [viewT_get]
      refine lastW_congr fun j hj _ => ?_
      rw [hall j (by rw [← hlen]; exact hj), hasBit_eq]
      show (2 ^ arr.toList.length - 1).testBit j = true
      rw [Nat.testBit_two_pow_sub_one]
      simpa using hj
    rw [e]; exact x.rel
  · cases hE : E' m with
    | none => rfl
    | some e =>
      exfalso
      rcases x.dom m (by rw [hE]; simp) with y | ⟨j, hj, h1, h2⟩
      · have := nx_base hreg (i := arr.toList.length) (Nat.le_refl _)
        exact y (hfree m (by omega))
      · have := nx_mono hreg (x.sub j hj) (Nat.le_refl _)
        omega
  · obtain ⟨W, hW, _⟩ := x.since; exact hg.ext hW.ext
  · obtain ⟨W, hW, hm⟩ := x.since
    exact hW.mono fun m hmm => by obtain ⟨j, hj, hd⟩ := hm m hmm; exact mem_allW hj hd
  · intro m hmE
    rcases x.dom m hmE with y | ⟨j, hj, h1, h2⟩
    · exact .inl y
    · exact .inr (Nat.le_trans (nx_base hreg (Nat.le_of_lt (x.sub j hj))) h1)
  · exact nx_base hreg (i := arr.toList.length) (Nat.le_refl _)

/-- a call that the engine runs to its end, by facts that hold -/
theorem runC_sound (hT : TOk T P) (hF : FactsOk T P facts) {k : Nat} {f : FuncId} {args : List SV} {fin : SV → Tr ABlk → Nat → List Nat → Bool} {t : Tr ABlk} {nx : Nat} (h : runC T facts k f args t nx fin = true)
    {E : Env} {w : World} (hR : R P E t.get w) (hfree : ∀ m, nx ≤ m → E m = none) (hg : GRel T E) {vs : List Value} (hvs : VRelL E args vs) :
    Calls P f vs.toArray w fun e w' => ∃ v t' nx' W' E' val, e = .returned val ∧ VRel E' v val ∧ Mem T P nx E w E' t' nx' W' w' ∧ fin v t' nx' W' = true :=
  runC_ok hT hF (drawOk hT hF) h hR hfree hg hvs
end
end Go.Sx
