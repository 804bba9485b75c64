import Derived.Test.YtfgkpganiabpkaaGreatDoorE3
import Derived.Laws.Externs
import Derived.Laws.RangeString
/- Proved in this claim (its last text holds the theorem): the given statement TopSharedFoldsCardSaid, with no condition of ours. This text is one part of that proof: the machine of runs apart from a program, with its laws. -/
namespace Go.Sx
open Go
set_option linter.unusedVariables false
set_option linter.unusedSimpArgs false

section
variable {T : PT} {P : Program} {E : Env} {w : World} {nx : Nat}

/-! ### the two externs -/
theorem u8_beq {a b : Nat} (ha : a < 256) (hb : b < 256) : (UInt8.ofNat a == UInt8.ofNat b) = Nat.beq a b := by
  cases h : Nat.beq a b with
  | true => have := beq_true h; subst this; simp
  | false =>
    have hne : a ≠ b := fun e => by subst e; simp at h
    apply beq_eq_false_iff_ne.mpr
    intro e
    have := congrArg UInt8.toNat e
    simp [UInt8.toNat_ofNat'] at this
    omega

theorem findIdx_spec {c : Nat} : ∀ (s : List Nat) (i : Nat),
    (∃ j, j < s.length ∧ findIdx c s i = ((i + j : Nat) : Int) ∧ s[j]? = some c ∧ ∀ (k x : Nat), k < j → s[k]? = some x → x ≠ c) ∨ (findIdx c s i = -1 ∧ ∀ (k x : Nat), s[k]? = some x → x ≠ c)
  | [], i => .inr ⟨rfl, fun k x h => by simp at h⟩
  | b :: s, i => by
    simp only [findIdx]
    cases h : Nat.beq b c with
    | true =>
      have := beq_true h; subst this
      exact .inl ⟨0, by simp, rfl, by simp, fun k x hk => by omega⟩
    | false =>
      have hne : b ≠ c := fun e => by subst e; simp at h
      rcases findIdx_spec (c := c) s (i + 1) with ⟨j, h1, h2, h3, h4⟩ | ⟨h1, h2⟩
      · refine .inl ⟨j + 1, by simp; omega, by rw [show i + (j + 1) = i + 1 + j by omega]; exact h2, by simpa using h3, fun k x hk hx => ?_⟩
        cases k with
        | zero => simp at hx; subst hx; exact hne
        | succ k => exact h4 k x (by omega) (by simpa using hx)
      · refine .inr ⟨h1, fun k x hx => ?_⟩
        cases k with
        | zero => simp at hx; subst hx; exact hne
        | succ k => exact h2 k x (by simpa using hx)

theorem mkBA_getB {s : List Nat} {j x : Nat} (h : s[j]? = some x) : (mkBA s)[j]! = UInt8.ofNat x := by
  have := mkBA_get h
  rw [getElem!_def, this]
theorem firstIdx_eq {s : List Nat} (hs : ∀ b ∈ s, b < 256) {c : Nat} (hc : c < 256) : firstIdx (mkBA s) (UInt8.ofNat c) = findIdx c s 0 := by
  unfold firstIdx
  have hne : ∀ (k x : Nat), s[k]? = some x → x ≠ c → (((mkBA s)[k]! == UInt8.ofNat c) = false) := by
    intro k x hx hxc
    rw [mkBA_getB hx, u8_beq (hs x (List.mem_of_getElem? hx)) hc]
    cases h : Nat.beq x c with
    | true => exact absurd (beq_true h) hxc
    | false => rfl
  rcases findIdx_spec (c := c) s 0 with ⟨j, h1, h2, h3, h4⟩ | ⟨h1, h2⟩
  · have : (List.range (mkBA s).size).find? (fun i => (mkBA s)[i]! == UInt8.ofNat c) = some j := by
      rw [List.find?_range_eq_some]
      refine ⟨?_, ?_, ?_⟩
      · rw [mkBA_getB h3]; simp
      · rw [mkBA_size]; simpa using h1
      · intro k hk
        have hk' : k < s.length := by omega
        have hx : s[k]? = some s[k] := by simp [hk']
        rw [hne k _ hx (h4 k _ hk hx)]; rfl
    rw [this, h2]; simp
  · have : (List.range (mkBA s).size).find? (fun i => (mkBA s)[i]! == UInt8.ofNat c) = none := by
      rw [List.find?_range_eq_none]
      intro k hk
      rw [mkBA_size] at hk
      have hx : s[k]? = some s[k] := by simp [hk]
      rw [hne k _ hx (h2 k _ hx)]; rfl
    rw [this, h1]

theorem foldl_loop {α : Type} (f : α → UInt8 → α) (b : ByteArray) : ∀ (i j : Nat) (a : α), b.size ≤ i + j → ByteArray.foldlM.loop (m := _root_.Id) (fun x y => pure (f x y)) b b.size (Nat.le_refl _) i j a = (b.data.toList.drop j).foldl f a
  | i, j, a, h => by
    have hsz : b.size = b.data.toList.length := rfl
    unfold ByteArray.foldlM.loop
    by_cases hj : j < b.size
    · rw [dif_pos hj]
      cases i with
      | zero => omega
      | succ i =>
        simp only
        show ByteArray.foldlM.loop (m := _root_.Id) (fun x y => pure (f x y)) b b.size (Nat.le_refl _) i (j + 1) (f a b[j]) = _
        rw [foldl_loop f b i (j + 1) _ (by omega), List.drop_eq_getElem_cons (i := j) (by omega), List.foldl_cons]
        rfl
    · rw [dif_neg hj, List.drop_eq_nil_of_le (by omega)]; rfl
theorem foldl_mkBA {α : Type} (s : List Nat) (f : α → UInt8 → α) (a : α) : (mkBA s).foldl f a = (s.map UInt8.ofNat).foldl f a := by
  have := foldl_loop f (mkBA s) ((mkBA s).size - 0) 0 a (by omega)
  unfold ByteArray.foldl ByteArray.foldlM
  simp only [Nat.le_refl, dif_pos]
  refine Eq.trans this ?_
  simp [mkBA]
theorem countB_eq {c : Nat} (hc : c < 256) : ∀ (s : List Nat) (n : Int), (∀ b ∈ s, b < 256) → (s.map UInt8.ofNat).foldl (fun (n : Int) x => if x == UInt8.ofNat c then n + 1 else n) n = n + Int.ofNat (countB c s)
  | [], n, _ => by simp [countB]
  | b :: s, n, h => by
    simp only [List.map_cons, List.foldl_cons, countB]
    rw [u8_beq (h b (by simp)) hc]
    cases hb : Nat.beq b c with
    | true => simp only [if_true]; rw [countB_eq hc s _ fun x hx => h x (by simp [hx])]; show n + 1 + ((countB c s : Nat) : Int) = n + ((countB c s + 1 : Nat) : Int); omega
    | false => simp only [Bool.false_eq_true, if_false]; exact countB_eq hc s _ fun x hx => h x (by simp [hx])
end
end Go.Sx

namespace Go.Sx
open Go
set_option linter.unusedVariables false
set_option linter.unusedSimpArgs false

section
variable {T : PT} {P : Program} {E : Env} {w : World} {nx : Nat}

/-! ## What an operation's outcome stands for -/
def NxOk (E' : Env) (w' : World) : ANx → Next → Prop
  | .val v, n => ∃ val, n = .value val ∧ VRel E' v val
  | .skip, n => n = .skip
  | .enter f args, n => ∃ vs, VRelL E' args vs ∧ n = .enter f vs.toArray
  | .round l args, n => ∃ e r vs, E' l = some e ∧ w'.heap[e.blk]? = some (.loop r) ∧ VRelL E' args vs ∧ vs.length = r.params.size ∧
      n = .round e.blk r.fn ((r.params.zip vs.toArray).foldl (fun tmps (t, a) => tmps.setIfInBounds t a) r.tmps) r.assign r.body
  | .defer d, n => ∃ dd, DRel E' d dd ∧ n = .defer dd
  | .recover, n => n = .recover
  | .panic _, _ => False
def RunOk (P : Program) (E' : Env) (w w' : World) (s : Sem Next) : ANx → Prop
  | .panic v => ∃ val, s.run P w = .halt (.panic val) w' ∧ VRel E' v val
  | a => ∃ n, s.run P w = .ok n w' ∧ NxOk E' w' a n
def OpOk (P : Program) (E : Env) (nx : Nat) (H : HF) (w : World) (s : Sem Next) : Out → Prop
  | .pure v _ => ∃ val, s.run P w = .ok (.value val) w ∧ VRel E v val
  | .eff a d nn _ => ∃ E' w', Eff P E nx H w d nn E' w' ∧ RunOk P E' w w' s a

theorem OpOk.ofPure {H : HF} {s : Sem Value} {out : Out} (h : ∃ v rd, out = .pure v rd ∧ PureOk P E w s v) : OpOk P E nx H w (do pure (.value (← s))) out := by
  obtain ⟨v, rd, rfl, val, h1, h2⟩ := h
  exact ⟨val, by simp [Sem.run_bind, h1], h2⟩
theorem OpOk.ofVal {H : HF} {s : Sem Value} {out : Out} (h : ValOk P E nx H w s out) : OpOk P E nx H w (do pure (.value (← s))) out := by
  cases out with
  | pure v rd => exact .ofPure ⟨v, rd, rfl, h⟩
  | eff a d nn rd =>
    obtain ⟨v, E', w', val, rfl, h1, h2, h3⟩ := h
    exact ⟨E', w', h3, .value val, by simp [Sem.run_bind, h1], val, rfl, h2⟩
theorem OpOk.ofUnit {H : HF} {s : Sem Unit} {out : Out} (h : UnitOk P E nx H w s out) : OpOk P E nx H w (do s; pure .skip) out := by
  cases out with
  | pure v rd => exact h.elim
  | eff a d nn rd =>
    obtain ⟨E', w', rfl, h1, h3⟩ := h
    exact ⟨E', w', h3, .skip, by simp [Sem.run_bind, h1], rfl⟩
theorem OpOk.val {H : HF} {s : Sem Next} {v : SV} {val : Value} {out : Out} (h : Sx.val v = some out) (hs : s.run P w = .ok (.value val) w) (hv : VRel E v val) : OpOk P E nx H w s out := by
  cases h; exact ⟨val, hs, hv⟩
theorem OpOk.act {H : HF} (hR : R P E H w) {s : Sem Next} {a : ANx} {out : Out} (h : Sx.act nx a = some out) (hs : RunOk P E w w s a) : OpOk P E nx H w s out := by
  cases h; exact ⟨E, w, Eff.refl hR, hs⟩
/-- what was read is no matter -/
theorem addRd_inv {rd : List Nat} {r : Ro} {out : Out} (h : addRd rd r = some out) : ∃ out', r = some out' ∧ ∀ {P E nx H w s}, OpOk P E nx H w s out' → OpOk P E nx H w s out := by
  unfold addRd at h
  cases r with
  | none => cases h
  | some o => cases o with
    | pure v rd' => cases h; exact ⟨_, rfl, fun x => x⟩
    | eff a d nn rd' => cases h; exact ⟨_, rfl, fun x => x⟩
theorem OpOk.run {H : HF} {s s' : Sem Next} {out : Out} (h : OpOk P E nx H w s out) (hs : s'.run P w = s.run P w) : OpOk P E nx H w s' out := by
  cases out with
  | pure v rd => obtain ⟨val, h1, h2⟩ := h; exact ⟨val, hs.trans h1, h2⟩
  | eff a d nn rd =>
    obtain ⟨E', w', h1, h2⟩ := h
    refine ⟨E', w', h1, ?_⟩
    cases a with
    | panic v => obtain ⟨val, a1, a2⟩ := h2; exact ⟨val, hs.trans a1, a2⟩
    | _ => obtain ⟨n, a1, a2⟩ := h2; exact ⟨n, hs.trans a1, a2⟩

/-! ## Calls -/
theorem oExtern_sound (hT : TOk T P) {H : HF} {f : FuncId} {fn : Func} (hf : T.fns.get f = some fn) (hb : fn.body = none) {args : List SV} {vs : List Value} (ha : VRelL E args vs) {out : Out}
    (h : oExtern fn.name args = some out) : OpOk P E nx H w (callFunc f vs.toArray) out := by
  unfold oExtern at h
  match args, h with
  | [x, y], h =>
    simp only at h
    obtain ⟨s, rfl, h1⟩ := onStr_inv h (by simp)
    clear h
    obtain ⟨k, c, rfl, h2⟩ := onNat_inv h1 (by simp)
    clear h1
    cases hk : kindEq k .u8 && Nat.ble c 255 with
    | false => rw [hk] at h2; cases h2
    | true =>
      rw [hk] at h2; dsimp only at h2
      rw [Bool.and_eq_true] at hk
      have hku := kindEq_inv hk.1
      have hc := ble_true hk.2
      subst hku
      simp only [VRelL] at ha
      obtain ⟨v1, _, hv1, ⟨v2, _, hv2, rfl, rfl⟩, rfl⟩ := ha
      simp only [VRel] at hv1 hv2
      obtain ⟨rfl, hs⟩ := hv1
      subst hv2
      obtain ⟨hfn, hname⟩ := hT.fn f fn hf
      by_cases h3 : (fn.name == "internal/bytealg.IndexByteString") = true
      · rw [if_pos h3] at h2
        obtain ⟨e1, e2⟩ := hT.extIndex f fn hf hb h3
        refine .val h2 (val := .int .i64 (findIdx c s 0)) ?_ (by simp only [VRel])
        rw [run_callFunc_extern hfn hname (by simp [hb]) e1 e2]
        have := run_indexByte_string (P := P) (mkBA s) (Int.ofNat c) w
        rw [this, Result.andThen_ok]
        congr 3
        exact firstIdx_eq (c := c) hs (by omega)
      · rw [if_neg h3] at h2
        by_cases h4 : (fn.name == "internal/bytealg.CountString") = true
        · rw [if_pos h4] at h2
          obtain ⟨e1, e2⟩ := hT.extCount f fn hf hb h4
          refine .val h2 (val := .int .i64 (Int.ofNat (countB c s))) ?_ (by simp only [goI, VRel])
          rw [run_callFunc_extern hfn hname (by simp [hb]) e1 e2]
          have hcnt := countB_eq (c := c) (by omega) s 0 hs
          rw [Int.zero_add] at hcnt
          have : (Extern.BytealgCount.count #[.string (mkBA s), .int .u8 (Int.ofNat c)]).run P w = .ok (.int .i64 (Int.ofNat (countB c s))) w := by
            show Sem.run P (do
              let b ← Extern.Bytes.bytesOf (.string (mkBA s))
              let c ← Extern.Bytes.asByte (.int .u8 (Int.ofNat c))
              pure (goInt (b.foldl (fun n x => if x == c then n + 1 else n) (0 : Nat)))) w = _
            simp only [Extern.Bytes.bytesOf, Extern.Bytes.asByte, Sem.run_bind, Sem.run_pure, Result.andThen_ok]
            rw [foldl_mkBA]
            simp only [goInt]
            congr 3
          rw [this, Result.andThen_ok]
        · rw [if_neg h4] at h2; cases h2

theorem callF_sound (hT : TOk T P) {H : HF} (hR : R P E H w) {f : FuncId} {args : List SV} {vs : List Value} (ha : VRelL E args vs) {out : Out} (h : callF T nx f args = some out) :
    OpOk P E nx H w (callFunc f vs.toArray) out := by
  unfold callF at h
  cases hf : T.fns.get f with
  | none => rw [hf] at h; cases h
  | some fn =>
    rw [hf] at h; dsimp only at h
    cases hb : fn.body with
    | none => rw [hb] at h; exact oExtern_sound hT hf hb ha h
    | some b =>
      rw [hb] at h; dsimp only at h
      obtain ⟨hfn, hname⟩ := hT.fn f fn hf
      refine .act hR h ⟨.enter f vs.toArray, ?_, vs, ha, rfl⟩
      have hn : fn.name ≠ "runtime.NumGoroutine" := by simpa using hname
      simp [callFunc, hfn, hn, hb]

theorem recvOf_inv (hT : TOk T P) {β : Type} {d x0 : β} {t : Tr ABlk} (hR : R P E t.get w) {ty : TypeId} {x : SV} {vx : Value} (hx : VRel E x vx) {p : Bool} {k : SV → List Nat → β}
    (h : recvOf T t ty x p d k = x0) (hne : x0 ≠ d) (wr : Option String) : ∃ v rd, k v rd = x0 ∧ PureOk P E w (receiverAt ty (.val vx) p wr) v := by
  unfold recvOf at h
  obtain ⟨c, hc, h1⟩ := onKind_inv h hne
  clear h
  obtain ⟨i, ds, ht⟩ := hT.ty _ _ hc
  have hk := ht.kind
  have plain : (∀ e, ds ≠ .pointer e) → p = false → k x [] = x0 → ∃ v rd, k v rd = x0 ∧ PureOk P E w (receiverAt ty (.val vx) p wr) v := by
    intro hnp hp hk0
    subst hp
    refine ⟨x, [], hk0, vx, ?_, hx⟩
    simp only [receiverAt, Sem.run_bind, run_underlying ht.under, Result.andThen_ok]
    cases ds <;> first | (exact absurd rfl (hnp _)) | (simp [Place.get])
  cases hkk : c.k with
  | ptr e =>
    rw [hkk] at h1 hk; dsimp only at h1
    simp only [KOk] at hk
    cases p with
    | true =>
      dsimp only at h1
      refine ⟨x, [], h1, vx, ?_, hx⟩
      simp only [receiverAt, Sem.run_bind, run_underlying ht.under, Result.andThen_ok, hk, Place.get, Sem.run_pure]
    | false =>
      dsimp only at h1
      obtain ⟨n, off, rfl, h2⟩ := onPtr_inv h1 hne
      clear h1
      obtain ⟨rw_, cs, e', hcs, h3⟩ := onCells_inv h2 hne
      clear h2
      obtain ⟨ce, hce, h4⟩ := onSize_inv h3 hne
      clear h3
      obtain ⟨hl, h5⟩ := slcK_inv h4 hne
      clear h4
      obtain ⟨ie, de, hte⟩ := hT.ty _ _ hce
      simp only [VRel] at hx
      obtain ⟨en, he, rfl⟩ := hx
      obtain ⟨en', he', hb⟩ := hR.blk _ _ hcs
      rw [he] at he'; cases he'
      obtain ⟨arr, fz, hb1, hb2, _⟩ := hb
      have key := loadVar_ok (E := E) hte hb1 hb2 off
      have hrun : ∀ v, PureOk P E w (loadVar e ⟨en.blk, en.base + off, none⟩) v → PureOk P E w (receiverAt ty (.val (.pointer (some ⟨en.blk, en.base + off, none⟩))) false wr) v := by
        rintro v ⟨val, hv1, hv2⟩
        refine ⟨val, ?_, hv2⟩
        have hu : P.underlying ty = some (.pointer e) := by rw [ht.under, hk]
        cases wr with
        | none => simp [receiverAt, run_underlying hu, Place.get, asAddr, hv1]
        | some name =>
          have hw : (Builtin.ssaWrapNilChk_ #[ty] ty #[.pointer (some ⟨en.blk, en.base + off, none⟩), strVal "", strVal name]).run P w = .ok (.pointer (some ⟨en.blk, en.base + off, none⟩)) w := rfl
          simp [receiverAt, run_underlying hu, Place.get, asAddr, hv1, hw]
      cases hp : pack (isAggK ce.k) ((cs.drop off).take ce.size) with
      | none => rw [hp] at h5; exact absurd h5.symm hne
      | some v =>
        rw [hp] at h5; dsimp only at h5
        refine ⟨v, [n], h5, hrun v ?_⟩
        rcases pack_inv hp with ⟨ha, rfl⟩ | ⟨ha, r, hr⟩
        · exact key.1 ha hl
        · refine key.2 ha v ?_
          have := congrArg (·[0]?) hr
          simp only [List.getElem?_cons_zero, List.getElem?_take, List.getElem?_drop] at this
          split at this
          · simpa using this
          · cases this
  | _ =>
    rw [hkk] at h1 hk; dsimp only at h1
    cases p with
    | true => exact absurd h1.symm hne
    | false =>
      refine plain ?_ rfl h1
      rintro e rfl
      simp [KOk] at hk

theorem callM_sound (hT : TOk T P) {t : Tr ABlk} (hR : R P E t.get w) {r : SV} {vr : Value} (hr : VRel E r vr) {name : String} {args : List SV} {vs : List Value} (ha : VRelL E args vs) {out : Out}
    (h : callM T t nx r name args = some out) : OpOk P E nx t.get w (callMethod vr name vs.toArray) out := by
  unfold callM at h
  cases r with
  | iface ty v =>
    dsimp only at h
    obtain ⟨c, hc, h1⟩ := onTy_inv h (by simp)
    clear h
    obtain ⟨i, ds, ht⟩ := hT.ty _ _ hc
    cases hm : findM name c.meths with
    | none => rw [hm] at h1; cases h1
    | some fp =>
      obtain ⟨f, p⟩ := fp
      rw [hm] at h1; dsimp only at h1
      simp only [VRel] at hr
      obtain ⟨vv, hv, rfl⟩ := hr
      obtain ⟨m, hfind, hpath, hfunc⟩ := ht.meths _ _ _ hm
      obtain ⟨x, rd, h2, val, hrun, hrel⟩ := recvOf_inv hT hR hv h1 (by simp) (some ((name.splitOn ".").getLastD name))
      obtain ⟨out', h3, himp⟩ := addRd_inv h2
      have := callF_sound hT hR (VRelL.cons hrel ha) h3
      refine himp (this.run ?_)
      have hmeth : (method (P.types.size + Made.depth) ty vv name).run P w = .ok (f, val) w := by
        obtain ⟨k, hk⟩ : ∃ k, P.types.size + Made.depth = k + 1 := ⟨P.types.size + 99, rfl⟩
        rw [hk]
        simp only [method, Sem.run_bind, run_typeInfo ht.info, Result.andThen_ok, hfind, hpath, hfunc, follow, Sem.run_pure]
        simp only [Array.isEmpty_empty, if_true, hrun, Result.andThen_ok]
      simp only [callMethod, Sem.run_bind, run_program, Result.andThen_ok, hmeth]
      simp
  | _ => cases h

theorem onCons_inv {β : Type} {d x : β} {l : List SV} {k : SV → List SV → β} (h : onCons l d k = x) (hx : x ≠ d) : ∃ y ys, l = y :: ys ∧ k y ys = x := by
  cases l with
  | nil => exact absurd h.symm hx
  | cons y ys => exact ⟨y, ys, rfl, h⟩
theorem VRelL.cons_inv {x : SV} {xs : List SV} {vs : List Value} (h : VRelL E (x :: xs) vs) : ∃ v vs', vs = v :: vs' ∧ VRel E x v ∧ VRelL E xs vs' := by
  simp only [VRelL] at h; obtain ⟨v, vs', a, b, c⟩ := h; exact ⟨v, vs', c, a, b⟩

theorem invokeA_sound (hT : TOk T P) {t : Tr ABlk} (hR : R P E t.get w) {fn : Fn} {cap args : List SV} {vc va : List Value} (hc : VRelL E cap vc) (ha : VRelL E args va) {out : Out}
    (h : invokeA T t nx fn cap args = some out) : OpOk P E nx t.get w (invoke (.fn fn vc.toArray) va.toArray) out := by
  unfold invokeA at h
  cases fn with
  | func f =>
    dsimp only at h
    have := callF_sound hT hR (ha.append hc) h
    refine this.run ?_
    show (callFunc f (va.toArray ++ vc.toArray)).run P w = _
    rw [List.append_toArray]
  | method name =>
    dsimp only at h
    obtain ⟨r, rest, rfl, h1⟩ := onCons_inv h (by simp)
    obtain ⟨vr, vrest, rfl, hr, hrest⟩ := ha.cons_inv
    have := callM_sound hT hR hr hrest h1
    refine this.run ?_
    simp [invoke]
  | methodOf ty name =>
    dsimp only at h
    obtain ⟨r, rest, rfl, h1⟩ := onCons_inv h (by simp)
    clear h
    obtain ⟨vr, vrest, rfl, hr, hrest⟩ := ha.cons_inv
    obtain ⟨c, hcc, h2⟩ := onKind_inv h1 (by simp)
    clear h1
    obtain ⟨i, ds, ht⟩ := hT.ty _ _ hcc
    have hk := ht.kind
    have iff : (∃ n, c.k = .iface n) ∨ ((∀ n, c.k ≠ .iface n)) := by
      by_cases hx : ∃ n, c.k = .iface n
      · exact .inl hx
      · exact .inr fun n hn => hx ⟨n, hn⟩
    rcases iff with ⟨n, hn⟩ | hn
    · rw [hn] at h2 hk; dsimp only at h2
      simp only [KOk] at hk
      obtain ⟨ms, rfl, _⟩ := hk
      have := callM_sound hT hR hr hrest h2
      refine this.run ?_
      simp [invoke, run_underlying ht.under]
    · have h3 : callM T t nx (.iface ty r) name rest = some out := by
        cases hkk : c.k <;> rw [hkk] at h2 <;> first | exact h2 | exact absurd hkk (hn _)
      have hir : VRel E (.iface ty r) (.iface ty vr) := by simp only [VRel]; exact ⟨vr, hr, rfl⟩
      have := callM_sound hT hR hir hrest h3
      refine this.run ?_
      have hds : ∀ ms, ds ≠ .interface ms := by
        rintro ms rfl
        cases hkk : c.k <;> rw [hkk] at hk <;> first | exact hn _ hkk | (simp [KOk] at hk)
      cases ds <;> first | exact absurd rfl (hds _) | (simp [invoke, run_underlying ht.under])
  | via ty path f p =>
    dsimp only at h
    obtain ⟨x, rest, rfl, h1⟩ := onCons_inv h (by simp)
    clear h
    obtain ⟨vx, vrest, rfl, hx, hrest⟩ := ha.cons_inv
    cases hp : path.toList with
    | cons a b => rw [hp] at h1; cases h1
    | nil =>
      rw [hp] at h1; dsimp only at h1
      obtain ⟨v, rd, h2, val, hrun, hrel⟩ := recvOf_inv hT hR hx h1 (by simp) none
      obtain ⟨out', h3, himp⟩ := addRd_inv h2
      have := callF_sound hT hR (VRelL.cons hrel hrest) h3
      refine himp (this.run ?_)
      simp [invoke, receiverVia, hp, follow, hrun]
  | yield n => cases h
end
end Go.Sx

namespace Go.Sx
open Go
set_option linter.unusedVariables false
set_option linter.unusedSimpArgs false

section
variable {T : PT} {P : Program} {E : Env} {w : World} {nx : Nat}

theorem onT_inv {β : Type} {d x : β} {l : List TypeId} {k : TypeId → List TypeId → β} (h : onT l d k = x) (hx : x ≠ d) : ∃ y ys, l = y :: ys ∧ k y ys = x := by
  cases l with
  | nil => exact absurd h.symm hx
  | cons y ys => exact ⟨y, ys, rfl, h⟩
theorem on2_inv {l : List SV} {k : SV → SV → Ro} {out : Out} (h : on2 l k = some out) : ∃ a b, l = [a, b] ∧ k a b = some out := by
  unfold on2 at h
  obtain ⟨a, r, rfl, h1⟩ := onCons_inv h (by simp)
  obtain ⟨b, r, rfl, h2⟩ := onCons_inv h1 (by simp)
  cases r with
  | nil => exact ⟨a, b, rfl, h2⟩
  | cons y ys => cases h2

theorem panic_ok {H : HF} (hR : R P E H w) {x : SV} {vx : Value} (hx : VRel E x vx) {out : Out} (h : oPanic nx x = some out) : OpOk P E nx H w (do pure (.value (← Instr.panic vx))) out := by
  unfold oPanic at h
  cases x with
  | iface ty v =>
    simp only [VRel] at hx
    obtain ⟨u, hu, rfl⟩ := hx
    refine .act hR h ⟨.iface ty u, ?_, by simp only [VRel]; exact ⟨u, hu, rfl⟩⟩
    simp [Instr.panic, Sem.run_bind, Result.andThen]
  | _ => cases h

theorem builtinA_sound (hT : TOk T P) {t : Tr ABlk} (hR : R P E t.get w) (hn : E nx = none) {out : Out} (hlt : ∀ n ∈ out.rd, ∀ b, t.get n = some b → n < nx) {b : Builtin} {tys : Array TypeId} {ty' : TypeId} {cs : Array Bool} {args : List SV} {vs : List Value}
    (ha : VRelL E args vs) (h : builtinA T t nx b tys.toList args = some out) : OpOk P E nx t.get w (builtin b tys ty' cs vs.toArray) out := by
  have hty : tys = tys.toList.toArray := by simp
  unfold builtinA at h
  cases b <;> dsimp only at h <;> first | (cases h; done) | skip
  case append =>
    obtain ⟨a, r, hl, h1⟩ := onT_inv h (by simp)
    clear h
    obtain ⟨b', r', rfl, h2⟩ := onT_inv h1 (by simp)
    clear h1
    obtain ⟨s, x, rfl, h3⟩ := on2_inv h2
    clear h2
    obtain ⟨v1, _, rfl, hv1, hr⟩ := ha.cons_inv
    obtain ⟨v2, _, rfl, hv2, hr2⟩ := hr.cons_inv
    simp only [VRelL] at hr2; subst hr2
    have := oAppend_sound hT hR hn hlt hv1 hv2 (ty' := ty') h3 r' []
    rw [← hl, ← hty] at this
    exact .ofVal this
  case cap =>
    obtain ⟨a, r, hl, h1⟩ := onT_inv h (by simp)
    clear h
    obtain ⟨x, l, rfl, h2⟩ := onCons_inv h1 (by simp)
    clear h1
    obtain ⟨v1, _, rfl, hv1, hr⟩ := ha.cons_inv
    have := oCap_sound (w := w) hT hv1 (ty' := ty') h2 r ‹_›
    rw [← hl, ← hty] at this
    exact .ofPure this
  case copy =>
    obtain ⟨a, r, hl, h1⟩ := onT_inv h (by simp)
    clear h
    obtain ⟨s, x, rfl, h3⟩ := on2_inv h1
    clear h1
    obtain ⟨v1, _, rfl, hv1, hr⟩ := ha.cons_inv
    obtain ⟨v2, _, rfl, hv2, hr2⟩ := hr.cons_inv
    simp only [VRelL] at hr2; subst hr2
    have := oCopy_sound hT hR hlt hv1 hv2 (ty' := ty') h3 r []
    rw [← hl, ← hty] at this
    exact .ofVal this
  case len =>
    obtain ⟨a, r, hl, h1⟩ := onT_inv h (by simp)
    clear h
    obtain ⟨x, l, rfl, h2⟩ := onCons_inv h1 (by simp)
    clear h1
    obtain ⟨v1, _, rfl, hv1, hr⟩ := ha.cons_inv
    have := oLen_sound hT hR hv1 (ty' := ty') h2 r ‹_›
    rw [← hl, ← hty] at this
    exact .ofPure this
  case max =>
    obtain ⟨x, l, rfl, h2⟩ := onCons_inv h (by simp)
    clear h
    obtain ⟨k, a, rfl, h3⟩ := onInt_inv h2 (by simp)
    clear h2
    obtain ⟨v1, vr, rfl, hv1, hr⟩ := ha.cons_inv
    simp only [VRel] at hv1; subst hv1
    cases hm : minmax true k a l with
    | none => rw [hm] at h3; cases h3
    | some v =>
      rw [hm] at h3
      cases h3
      exact .ofPure ⟨_, _, rfl, minmax_max hr hm⟩
  case min =>
    obtain ⟨x, l, rfl, h2⟩ := onCons_inv h (by simp)
    clear h
    obtain ⟨k, a, rfl, h3⟩ := onInt_inv h2 (by simp)
    clear h2
    obtain ⟨v1, vr, rfl, hv1, hr⟩ := ha.cons_inv
    simp only [VRel] at hv1; subst hv1
    cases hm : minmax false k a l with
    | none => rw [hm] at h3; cases h3
    | some v =>
      rw [hm] at h3
      cases h3
      exact .ofPure ⟨_, _, rfl, minmax_min hr hm⟩
  case panic =>
    obtain ⟨x, l, rfl, h2⟩ := onCons_inv h (by simp)
    clear h
    obtain ⟨v1, vr, rfl, hv1, hr⟩ := ha.cons_inv
    have h3 : oPanic nx x = some out := h2
    exact panic_ok hR hv1 h3
  case recover => exact .act hR h ⟨.recover, rfl, rfl⟩

theorem evL {ev : Operand → SV} {ρ : Operand → Value} (hev : ∀ o, VRel E (ev o) (ρ o)) (l : List Operand) : VRelL E (l.map ev) (l.map ρ) := VRelL.map l fun x _ => hev x
theorem mapA (a : Array Operand) (ρ : Operand → Value) : a.map ρ = (a.toList.map ρ).toArray := by
  apply Array.toList_inj.mp; simp

theorem oCall_sound (hT : TOk T P) {t : Tr ABlk} (hR : R P E t.get w) (hn : E nx = none) {out : Out} (hlt : ∀ n ∈ out.rd, ∀ b, t.get n = some b → n < nx) {ev : Operand → SV} {ρ : Operand → Value} (hev : ∀ o, VRel E (ev o) (ρ o)) {c : Call} {ty : TypeId}
    (h : oCall T t nx ev c = some out) : OpOk P E nx t.get w (do let d ← resolve ρ c ty; invoke d.target d.args) out := by
  obtain ⟨cal, args, tys⟩ := c
  unfold oCall at h
  dsimp only at h
  have hargs := evL hev args.toList
  cases cal with
  | builtin b =>
    dsimp only at h
    refine (builtinA_sound hT hR hn hlt hargs (ty' := ty) (cs := args.map fun | .const _ => true | _ => false) h).run ?_
    simp only [resolve, Sem.run_bind, Sem.run_pure, Result.andThen_ok, mapA args ρ]
    rfl
  | invoke r name =>
    dsimp only at h
    refine (callM_sound hT hR (hev r) hargs h).run ?_
    simp [resolve, Sem.run_bind, invoke, mapA args ρ, List.take_of_length_le]
  | value f =>
    dsimp only at h
    have hf := hev f
    cases hfv : ev f with
    | func fn first cap =>
      rw [hfv] at h hf; dsimp only at h
      simp only [VRel] at hf
      obtain ⟨va, vb, h1, h2, h3⟩ := hf
      refine (invokeA_sound hT hR h2 (h1.append hargs) h).run ?_
      simp only [resolve, h3, Deferred.ofValue, Sem.run_bind, Sem.run_pure, Result.andThen_ok, mapA args ρ, List.append_toArray]
    | yield n =>
      rw [hfv] at h hf; dsimp only at h
      simp only [VRel] at hf
      obtain ⟨e, he, h3⟩ := hf
      obtain ⟨s, p, f', n', tm, ps, a, b, dd, hl, h4⟩ := onLoop_inv h (by simp)
      cases hps : Nat.beq ps.length args.size with
      | false => rw [hps] at h4; cases h4
      | true =>
        rw [hps] at h4; cases h4
        have hlen := beq_true hps
        obtain ⟨e', he', o, ho, tmps, e2, h5, h6, h7⟩ := hR.blk _ _ hl
        rw [he] at he'; cases he'
        subst h7
        refine ⟨E, w, Eff.refl hR, _, ?_, e, _, _, he, ho, hargs, ?_, rfl⟩
        · have hg : (getObj e.blk).run P w = .ok (.loop { state := s, pending := p, fn := f', tmps, params := ps.toArray, assign := a, body := b, defers := e2.blk }) w := by simp [getObj, Sem.run, ho]
          simp only [resolve, h3, Deferred.ofValue, Sem.run_bind, Sem.run_pure, Result.andThen_ok, invoke, Instr.yield, Instr.getLoop, hg, mapA args ρ]
          simp [hlen]
        · simp [hlen]
    | _ => rw [hfv] at h; cases h

theorem oDefer_sound {H : HF} (hR : R P E H w) {ev : Operand → SV} {ρ : Operand → Value} (hev : ∀ o, VRel E (ev o) (ρ o)) {c : Call} {ty : TypeId}
    {out : Out} (h : oDefer nx ev c = some out) : OpOk P E nx H w (do pure (.defer (← resolve ρ c ty))) out := by
  obtain ⟨cal, args, tys⟩ := c
  unfold oDefer at h
  dsimp only at h
  have hargs := evL hev args.toList
  cases cal with
  | value f =>
    dsimp only at h
    have hf := hev f
    cases hfv : ev f with
    | func fn first cap =>
      rw [hfv] at h hf; dsimp only at h
      simp only [VRel] at hf
      obtain ⟨va, vb, h1, h2, h3⟩ := hf
      refine .act hR h ⟨_, ?_, _, ⟨vb, _, h2, h1.append hargs, rfl⟩, rfl⟩
      simp only [resolve, h3, Deferred.ofValue, Sem.run_bind, Sem.run_pure, Result.andThen_ok, mapA args ρ, List.append_toArray]
    | _ => rw [hfv] at h; cases h
  | _ => cases h

theorem oNilCheck_sound {x : SV} {vx : Value} (hx : VRel E x vx) {out : Out} (h : oNilCheck x = some out) {H : HF} {o : Oper} {ρ : Operand → Value} {y : Operand} (ho : o.op = .nilCheck y) (hy : ρ y = vx) :
    OpOk P E nx H w (execOp ρ o) out := by
  unfold oNilCheck at h
  unfold execOp
  rw [ho]
  dsimp only
  rw [hy]
  have hx' := hx
  cases x with
  | ptr n off =>
    simp only [VRel] at hx
    obtain ⟨e, he, rfl⟩ := hx
    exact .val h rfl hx'
  | iface ty v =>
    simp only [VRel] at hx
    obtain ⟨u, hu, rfl⟩ := hx
    exact .val h rfl hx'
  | func fn a b =>
    simp only [VRel] at hx
    obtain ⟨va, vb, h1, h2, rfl⟩ := hx
    cases fn <;> first | (cases h; done) | exact .val h rfl hx'
  | _ => cases h

theorem orel_map {ev : Operand → SV} {ρ : Operand → Value} (hev : ∀ o, VRel E (ev o) (ρ o)) (o : Option Operand) : ORel E (o.map ev) (o.map ρ) := by
  cases o with
  | none => rfl
  | some x => exact ⟨_, rfl, hev x⟩
theorem prel_map {ev : Operand → SV} {ρ : Operand → Value} (hev : ∀ o, VRel E (ev o) (ρ o)) : ∀ l : List (Nat × Operand), PRel E (l.map (evP ev)) (l.map fun (i, x) => (i, ρ x))
  | [] => rfl
  | (i, x) :: l => ⟨_, _, hev x, prel_map hev l, rfl⟩

theorem aop_sound (hT : TOk T P) {t : Tr ABlk} (hR : R P E t.get w) (hn : E nx = none) {out : Out} (hlt : ∀ n ∈ out.rd, ∀ b, t.get n = some b → n < nx) {ev : Operand → SV} {ρ : Operand → Value} (hev : ∀ o, VRel E (ev o) (ρ o)) {o : Oper}
    (h : aop T t nx ev o.op = some out) : OpOk P E nx t.get w (execOp ρ o) out := by
  obtain ⟨dst, op, ty, pos, after, guard⟩ := o
  unfold aop at h
  cases op <;> dsimp only at h <;> (try exact absurd h (by simp))
  case move x => exact .val h rfl (hev x)
  case assign x => exact .val h rfl (hev x)
  case pick c a b =>
    obtain ⟨bb, hb, h1⟩ := onBool_inv h (by simp)
    have hc := hev c
    rw [hb] at hc; simp only [VRel] at hc
    refine .val (v := if bb = true then ev a else ev b) (val := if bb = true then ρ a else ρ b) (by cases bb <;> exact h1) ?_ (by cases bb <;> exact hev _)
    simp [execOp, hc, asBool]
  case alloc e => exact .ofVal (oAlloc_sound hT hR hn h)
  case box e x => exact .ofVal (oBox_sound hR hn (hev x) h)
  case build ty' ps => exact .ofPure (oBuild_sound hT (by simpa using prel_map hev ps.toList) h)
  case buildSlice ty' n ps => exact .ofVal (oBuildSlice_sound hT hR hn (by simpa using prel_map hev ps.toList) h)
  case load ty' a => exact .ofPure (oLoad_sound hT hR (hev a) h)
  case store ty' a x => exact .ofUnit (oStore_sound hT hR hlt (hev a) (hev x) h)
  case nilCheck x => exact oNilCheck_sound (hev x) h rfl rfl
  case binOp op xt x y cc => exact .ofPure (oBin_sound hT (hev x) (hev y) h)
  case unOp op xt x => exact .ofPure (oUn_sound (hev x) h)
  case convert a b x => exact .ofVal (oConvert_sound hT hR hn (hev x) h)
  case makeInterface xt x => exact .ofPure (oMakeIface_sound hT (hev x) h)
  case makeFunc fn a b =>
    refine .val h (val := .func fn (a.map ρ) (b.map ρ)) (by simp [execOp, Instr.makeFunc]) ?_
    simp only [VRel, mapA]
    exact ⟨_, _, evL hev _, evL hev _, rfl⟩
  case makeMap ty' r => exact .ofVal (oMakeMap_sound hT hR hn (orel_map hev r) h)
  case makeSlice ty' l c => exact .ofVal (oMakeSlice_sound hT hR hn (hev l) (hev c) h)
  case slice ty' x lo hi mx => exact .ofPure (oSlice_sound hT (hev x) (orel_map hev lo) (orel_map hev hi) (orel_map hev mx) h)
  case fieldAddr s x f => exact .ofPure (oFieldAddr_sound hT (hev x) h)
  case field xt x f => exact .ofPure (oField_sound hT (hev x) h)
  case indexAddr ty' x ix => exact .ofPure (oIndexAddr_sound hT (hev x) (hev ix) h)
  case index xt x ix => exact .ofPure (oIndex_sound hT (hev x) (hev ix) h)
  case lookup xt x ix ok => exact .ofPure (oLookup_sound hT hR (hev x) (hev ix) h)
  case mapUpdate ty' m k x => exact .ofUnit (oMapUpdate_sound hT hR hlt (hev m) (hev k) (hev x) h)
  case insert ty' m k x => exact .ofUnit (oMapUpdate_sound hT hR hlt (hev m) (hev k) (hev x) h)
  case range xt x => exact .ofVal (oRange_sound hT hR hn (hev x) h)
  case entry it => exact .ofPure (oEntry_sound hR (hev it) h)
  case typeAssert x xt a ok => exact .ofPure (oTypeAssert_sound hT (hev x) h)
  case extract x ix => exact .ofPure (oExtract_sound (hev x) h)
  case call c => exact oCall_sound hT hR hn hlt hev h
  case defer c => exact oDefer_sound hR hev h
  case panic x => exact panic_ok hR (hev x) h
end
end Go.Sx

namespace Go.Sx
open Go
set_option linter.unusedVariables false
set_option linter.unusedSimpArgs false

section
variable {T : PT} {P : Program} {E : Env} {w : World} {nx : Nat}

/-! ## One step of a range -/
theorem seenB_eq (b : Nat) : ∀ seen : List Nat, seenB b seen = seen.contains b
  | [] => rfl
  | x :: xs => by
    simp only [seenB, List.contains_cons]
    rw [seenB_eq b xs]
    cases h : Nat.beq b x with
    | true => have := beq_true h; subst this; simp
    | false => have hne : b ≠ x := fun e => by subst e; simp at h
               simp [hne]
theorem MapRel.filter {p : Nat → Bool} : ∀ {es : List (Nat × SV × SV)} {l : List MapEntry}, MapRel E es l → MapRel E (es.filter fun e => p e.1) (l.filter fun e => p e.born)
  | [], l, h => by simp only [MapRel] at h; subst h; simp [MapRel]
  | (b, k, v) :: es, l, h => by
    simp only [MapRel] at h
    obtain ⟨kv, vv, es', h1, h2, h3, rfl⟩ := h
    have ih := MapRel.filter (p := p) h3
    simp only [List.filter_cons]
    cases hp : p b with
    | true => simp only [if_true]; exact ⟨kv, vv, _, h1, h2, ih, rfl⟩
    | false => simpa using ih
theorem MapRel.below {n : Nat} : ∀ {es : List (Nat × SV × SV)} {l : List MapEntry}, MapRel E es l → allBelow n es = true → ∀ e ∈ l, e.born < n
  | [], l, h, _ => by simp only [MapRel] at h; subst h; simp
  | (b, k, v) :: es, l, h, hb => by
    simp only [MapRel] at h
    obtain ⟨kv, vv, es', h1, h2, h3, rfl⟩ := h
    simp only [allBelow] at hb
    cases hc : Nat.ble (Nat.succ b) n with
    | false => rw [hc] at hb; cases hb
    | true =>
      rw [hc] at hb
      have := ble_true hc
      intro e he
      rcases List.mem_cons.mp he with rfl | he
      · exact this
      · exact MapRel.below h3 hb e he
theorem MapRel.length : ∀ {es : List (Nat × SV × SV)} {l : List MapEntry}, MapRel E es l → l.length = es.length
  | [], l, h => by simp only [MapRel] at h; subst h; rfl
  | (b, k, v) :: es, l, h => by
    simp only [MapRel] at h
    obtain ⟨kv, vv, es', h1, h2, h3, rfl⟩ := h
    simp [MapRel.length h3]
theorem MapRel.at : ∀ {es : List (Nat × SV × SV)} {l : List MapEntry}, MapRel E es l → ∀ (i : Nat) (e : MapEntry), l[i]? = some e →
    ∃ b k v, es[i]? = some (b, k, v) ∧ e.born = b ∧ VRel E k e.key ∧ VRel E v e.val
  | [], l, h, i, e, he => by simp only [MapRel] at h; subst h; simp at he
  | (b, k, v) :: es, l, h, i, e, he => by
    simp only [MapRel] at h
    obtain ⟨kv, vv, es', h1, h2, h3, rfl⟩ := h
    cases i with
    | zero => simp at he; subst he; exact ⟨b, k, v, by simp, rfl, h1, h2⟩
    | succ i => obtain ⟨b', k', v', q⟩ := MapRel.at h3 i e (by simpa using he); exact ⟨b', k', v', by simpa using q⟩

/-- the iterator is turned -/
theorem iter_eff {H : HF} (hR : R P E H w) {n : Nat} (hn : n < nx) {e : Ent} {b b' : ABlk} (hb : H n = some b) (hrw : rwB b = true) (hrw' : rwB b' = true) (he : E n = some e) {o : Obj}
    (hbr : BRel P E e b' (putObj w e.blk o)) : Eff P E nx H w [(n, some b')] nx E (putObj w e.blk o) :=
  ⟨Ext.refl E, fun n h => .inl h, Nat.le_refl _, by simp only [applyF]; exact hR.write hb hrw hrw' he hbr, by rw [dW_one nx n _ hn]; exact Fr.putObj _ he (by simp), fun n e h k => by rw [h] at k; cases k⟩

theorem oNext_sound {t : Tr ABlk} (hR : R P E t.get w) (hlt : ∀ n b, t.get n = some b → n < nx) {str : Bool} {it : SV} {vi : Value} {ty : TypeId} (hi : VRel E it vi) {outs : List Out}
    (h : oNext t nx str it = some outs) : ∃ out ∈ outs, ValOk P E nx t.get w (Instr.next vi str ty) out := by
  unfold oNext at h
  obtain ⟨n, off, rfl, h1⟩ := onPtr_inv h (by simp)
  clear h
  cases ho : Nat.beq off 0 with
  | false => rw [ho] at h1; cases h1
  | true =>
  rw [ho] at h1; dsimp only at h1
  have ho := beq_true ho; subst ho
  simp only [VRel] at hi
  obtain ⟨e, he, rfl⟩ := hi
  cases hb : t.get n with
  | none => rw [hb] at h1; cases h1
  | some b =>
    rw [hb] at h1; dsimp only at h1
    obtain ⟨e', he', hbr⟩ := hR.blk _ _ hb
    rw [he] at he'; cases he'
    cases b <;> first | (cases h1; done) | skip
    case strIter s pos =>
      dsimp only at h1
      cases str with
      | false => cases h1
      | true =>
        dsimp only at h1
        obtain ⟨hobj, hs, hbase⟩ := hbr
        have hget : (getObj e.blk).run P w = .ok (.stringIter (mkBA s) pos) w := by simp [getObj, Sem.run, hobj]
        unfold nextStr at h1
        rw [nthN_eq] at h1
        cases hp : s[pos]? with
        | none =>
          rw [hp] at h1; cases h1
          refine ⟨_, List.mem_cons_self, .tuple #[.bool false], ?_, by simp only [VRel]; exact ⟨[.bool false], VRelL.cons (by simp only [VRel]) VRelL.nil, rfl⟩⟩
          have hlen : ¬ pos < (mkBA s).size := by
            rw [mkBA_size]
            intro hl
            simp [hl] at hp
          rw [hbase]
          simp only [Instr.next, Sem.run_bind, hget, Result.andThen_ok, hlen, if_false, Sem.run_pure]
        | some b =>
          rw [hp] at h1; dsimp only at h1
          cases hble : Nat.ble b 127 with
          | false => rw [hble] at h1; cases h1
          | true =>
            rw [hble] at h1; cases h1
            have hb7 := ble_true hble
            have hlen : pos < (mkBA s).size := by
              rw [mkBA_size]
              rcases Nat.lt_or_ge pos s.length with y | y
              · exact y
              · simp [List.getElem?_eq_none y] at hp
            have hgb : (mkBA s)[pos]'hlen = UInt8.ofNat b := by
              have := mkBA_get hp
              rw [getElem?_pos (mkBA s) pos hlen] at this
              exact Option.some.inj this
            have hbn : ((mkBA s)[pos]'hlen).toNat = b := by rw [hgb]; simp [UInt8.toNat_ofNat']; omega
            have hdec := decode_ascii (mkBA s) pos hlen (by omega)
            refine ⟨_, List.mem_cons_self, _, E, putObj w e.blk (.stringIter (mkBA s) (pos + 1)), .tuple #[.bool true, goInt pos, .int .i32 (Int.ofNat b)], rfl, ?_, ?_,
              iter_eff hR (hlt _ _ hb) hb rfl rfl he ⟨putObj_same hobj, hs, hbase⟩⟩
            · rw [hbase]
              simp only [Instr.next, Sem.run_bind, hget, Result.andThen_ok, hlen, if_true, hdec, run_setObj hobj (by simp), hbn, Sem.run_pure]
              rfl
            · simp only [VRel]
              exact ⟨[.bool true, goInt pos, .int .i32 (Int.ofNat b)], VRelL.cons (by simp only [VRel]) (VRelL.cons (by simp only [VRel, goI]; rfl) (VRelL.cons (by simp only [VRel]) VRelL.nil)), rfl⟩
    case mapIter m since seen stepped =>
      dsimp only at h1
      cases str with
      | true => cases h1
      | false =>
        dsimp only at h1
        cases m with
        | none =>
          dsimp only at h1
          cases h1
          obtain ⟨mo, rfl, hobj, hbase⟩ := hbr
          have hget : (getObj e.blk).run P w = .ok (.mapIter none since seen.toArray stepped) w := by simp [getObj, Sem.run, hobj]
          refine ⟨_, List.mem_cons_self, .tuple #[.bool false], ?_, by simp only [VRel]; exact ⟨[.bool false], VRelL.cons (by simp only [VRel]) VRelL.nil, rfl⟩⟩
          rw [hbase]
          simp only [Instr.next, Sem.run_bind, hget, Result.andThen_ok, Sem.run_pure]
        | some m =>
          dsimp only at h1
          obtain ⟨es, clock, hes, h2⟩ := onMap_inv h1 (by simp)
          clear h1
          obtain ⟨mo, ⟨em, hem, rfl⟩, hobj, hbase⟩ := hbr
          obtain ⟨e2, he2, hbm⟩ := hR.blk _ _ hes
          rw [hem] at he2; cases he2
          obtain ⟨l, hlm, hrl⟩ := hbm
          have hget : (getObj e.blk).run P w = .ok (.mapIter (some em.blk) since seen.toArray stepped) w := by simp [getObj, Sem.run, hobj]
          have hget2 : (getObj em.blk).run P w = .ok (.map l clock) w := by simp [getObj, Sem.run, hlm]
          unfold nextMap at h2
          cases hcond : (Nat.beq since clock && Nat.beq stepped clock && allBelow clock es) with
          | false => rw [hcond] at h2; cases h2
          | true =>
            rw [hcond] at h2; dsimp only at h2
            rw [Bool.and_eq_true, Bool.and_eq_true] at hcond
            obtain ⟨⟨hc1, hc2⟩, hc3⟩ := hcond
            have hc1 := beq_true hc1; have hc2 := beq_true hc2
            subst hc1; subst hc2
            have hbelow := hrl.below hc3
            have hfilt := hrl.filter (p := fun b => !seenB b seen)
            simp only [seenB_eq] at hfilt h2
            -- the model's check
            have hchk : (!seen.toArray.isEmpty && !l.isEmpty && l.all (·.born ≥ stepped)) = false := by
              cases hl : l.isEmpty with
              | true => simp
              | false =>
                have : l.all (·.born ≥ stepped) = false := by
                  rw [Array.all_eq_false]
                  have hpos : 0 < l.size := by
                    rcases Nat.eq_zero_or_pos l.size with y | y
                    · rw [Array.isEmpty, y] at hl; simp at hl
                    · exact y
                  refine ⟨0, hpos, ?_⟩
                  have := hbelow l[0] (by simp)
                  simp; omega
                rw [this]; simp
            have hleft : (l.filter fun e => !seen.toArray.contains e.born).toList = l.toList.filter fun e => !seen.contains e.born := by
              simp [Array.toList_filter]
            generalize hL : (l.filter fun e => !seen.toArray.contains e.born) = L at *
            have hLb : ∀ e ∈ L.toList, e.born < stepped := fun e he => hbelow e (List.mem_filter.mp (by rw [hleft] at he; exact he)).1
            have hold : (L.filter fun e => e.born < stepped) = L := by
              apply Array.toList_inj.mp
              rw [Array.toList_filter, List.filter_eq_self]
              intro e he; simpa using hLb e he
            have hnew : (L.filter fun e => e.born ≥ stepped) = #[] := by
              apply Array.toList_inj.mp
              rw [Array.toList_filter]
              show _ = []
              rw [List.filter_eq_nil_iff]
              intro e he; have := hLb e he; simp; omega
            rw [← hleft] at hfilt
            cases hls : es.filter (fun e => !seen.contains e.1) with
            | nil =>
              rw [hls] at h2 hfilt; cases h2
              simp only [MapRel] at hfilt
              have hLe : L = #[] := Array.toList_inj.mp hfilt
              refine ⟨_, List.mem_cons_self, .tuple #[.bool false], ?_, by simp only [VRel]; exact ⟨[.bool false], VRelL.cons (by simp only [VRel]) VRelL.nil, rfl⟩⟩
              rw [hbase]
              simp only [Instr.next, Sem.run_bind, hget, Result.andThen_ok, hget2, hchk, hL, hold, hnew, hLe]
              simp [Question.forced]
            | cons x xs =>
              rw [hls] at h2 hfilt; cases h2
              have hLlen : L.size = (x :: xs).length := by have := hfilt.length; simpa using this
              have hcand : ((if L.isEmpty = true then #[none] else #[]) ++ (L ++ #[]).map some : Array (Option MapEntry)) = L.map some := by
                have : L.isEmpty = false := by rw [Array.isEmpty, hLlen]; simp
                rw [this]; simp
              -- the draw
              have hdraw : ∃ (j : Nat) (w1 : World), j < L.size ∧ (w1 = w ∨ w1 = w.drew) ∧ (choose (Question.mapNext L.size)).run P w = .ok j w1 := by
                rw [run_choose]
                split
                · exact ⟨0, w, by rw [hLlen]; simp, .inl rfl, rfl⟩
                · exact ⟨_, w.drew, by
                    show _ % L.size < L.size
                    exact Nat.mod_lt _ (by rw [hLlen]; simp), .inr rfl, rfl⟩
              obtain ⟨j, w1, hj, hw1, hch⟩ := hdraw
              have hR1 : R P E t.get w1 := by rcases hw1 with rfl | rfl; exact hR; exact hR.drew
              have hobj1 : w1.heap[e.blk]? = some (.mapIter (some em.blk) stepped seen.toArray stepped) := by rcases hw1 with rfl | rfl <;> exact hobj
              obtain ⟨b, k, v, q1, q2, q3, q4⟩ := hfilt.at j L[j] (by simp [hj])
              subst q2
              refine ⟨.eff (.val (.tuple [.bool true, k, v])) [(n, some (.mapIter (some m) stepped (seen ++ [L[j].born]) stepped))] nx [n, m], ?_, _, E,
                putObj w1 e.blk (.mapIter (some em.blk) stepped (seen.toArray.push L[j].born) stepped), .tuple #[.bool true, L[j].key, L[j].val], rfl, ?_, ?_, ?_⟩
              · rw [List.mem_map]
                exact ⟨(L[j].born, k, v), List.mem_of_getElem? q1, rfl⟩
              · rw [hbase]
                simp only [Instr.next, Sem.run_bind, hget, Result.andThen_ok, hget2, hchk, hL, hold, hnew, hcand, Bool.false_eq_true, if_false, Array.size_map, hch]
                simp only [Array.getElem?_map, Array.getElem?_eq_getElem hj, Option.map_some, Sem.run_bind, run_setObj hobj1 (by simp), Result.andThen_ok, Sem.run_pure]
              · simp only [VRel]
                exact ⟨[.bool true, L[j].key, L[j].val], VRelL.cons (by simp only [VRel]) (VRelL.cons q3 (VRelL.cons q4 VRelL.nil)), rfl⟩
              · have := iter_eff hR1 (hlt _ _ hb) (b' := .mapIter (some m) stepped (seen ++ [L[j].born]) stepped) hb rfl rfl he (o := .mapIter (some em.blk) stepped (seen.toArray.push L[j].born) stepped)
                  ⟨some em.blk, ⟨em, hem, rfl⟩, by rw [putObj_same hobj1]; simp, hbase⟩
                refine ⟨this.ext, this.dom, this.le, this.rel, ?_, ?_⟩
                · rcases hw1 with rfl | rfl
                  · exact this.fr
                  · exact ⟨this.fr.size, this.fr.os, this.fr.tape, this.fr.output, this.fr.keep⟩
                · rcases hw1 with rfl | rfl <;> exact this.fresh
end
end Go.Sx
