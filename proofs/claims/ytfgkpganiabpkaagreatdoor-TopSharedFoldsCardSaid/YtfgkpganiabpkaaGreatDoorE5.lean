import Derived.Test.YtfgkpganiabpkaaGreatDoorE4
import Derived.AtR
import Derived.Defers
/- Proved in this claim (its last text holds the theorem): the given statement TopSharedFoldsCardSaid, with no condition of ours. This text is one part of that proof: the machine of runs apart from a program, with its laws. -/
namespace Go.Sx
open Go
set_option linter.unusedVariables false
set_option linter.unusedSimpArgs false

/-! ## Frames -/
def IdxRel (arr : Array Oper) : List Nat → List Oper → Prop
  | [], l => l = []
  | i :: is, l => ∃ o l', l = o :: l' ∧ arr[i]? = some o ∧ IdxRel arr is l'
def IRel (E : Env) : AItem → Item → Prop
  | .code c, i => i = .code c
  | .inBlock id, i => i = .inBlock id
  | .inLoop b, i => i = .inLoop b
  | .inScope b, i => i = .inScope b
  | .inRegion ops rest, i => ∃ arr idx, i = .inRegion arr idx ∧ ops = arr.toList ∧ IdxRel arr idx rest
  | .inRangeFunc n, i => ∃ e, E n = some e ∧ i = .inRangeFunc e.blk
  | .endRangeFunc n, i => ∃ e, E n = some e ∧ i = .endRangeFunc e.blk
  | .beginRound, i => i = .beginRound
def IRelL (E : Env) : List AItem → List Item → Prop
  | [], l => l = []
  | x :: xs, l => ∃ i is, l = i :: is ∧ IRel E x i ∧ IRelL E xs is
def ChRel (E : Env) : List (SV × Bool) → List PanicEntry → Prop
  | [], l => l = []
  | (v, b) :: xs, l => ∃ u ps, l = { v := u, recovered := b } :: ps ∧ VRel E v u ∧ ChRel E xs ps
def MRel (E : Env) : AMode → FrameMode → Prop
  | .run, m => m = .run
  | .returning, m => m = .returning
  | .panicking c, m => ∃ ch, m = .panicking ch ∧ ChRel E c ch
def RoRel (E : Env) : Option Nat → Option Nat → Prop
  | none, r => r = none
  | some l, r => ∃ e, E l = some e ∧ r = some e.blk

structure FRel (E : Env) (a : AFrame) (fr : Frame) : Prop where
  fn : fr.fn = a.sg.fn
  tm : TRel E a.sg.n a.tm fr.tmps
  kind : fr.kind = a.sg.kind
  round : RoRel E a.sg.round fr.roundOf
  todo : IRelL E a.todo fr.todo ∨ (a.todo = [] ∧ a.md ≠ .run)
  df : DRelL E a.df fr.defers
  md : MRel E a.md fr.mode
def FRelL (E : Env) : List AFrame → List Frame → Prop
  | [], l => l = []
  | x :: xs, l => ∃ f fs, l = f :: fs ∧ FRel E x f ∧ FRelL E xs fs

section ext
variable {E E' : Env} (h : Ext E E')
include h
theorem IRel.ext {x : AItem} {i : Item} (r : IRel E x i) : IRel E' x i := by
  cases x <;> first
    | exact r
    | (obtain ⟨e, he, hi⟩ := r; exact ⟨e, h _ _ he, hi⟩)
theorem IRelL.ext : ∀ {xs : List AItem} {is : List Item}, IRelL E xs is → IRelL E' xs is
  | [], _, r => r
  | x :: xs, _, ⟨i, is, a, b, c⟩ => ⟨i, is, a, b.ext h, IRelL.ext c⟩
theorem ChRel.ext : ∀ {xs : List (SV × Bool)} {is : List PanicEntry}, ChRel E xs is → ChRel E' xs is
  | [], _, r => r
  | (v, b) :: xs, _, ⟨u, ps, a, hv, c⟩ => ⟨u, ps, a, VRel.ext h _ _ hv, ChRel.ext c⟩
theorem MRel.ext {x : AMode} {m : FrameMode} (r : MRel E x m) : MRel E' x m := by
  cases x with
  | run => exact r
  | returning => exact r
  | panicking c => obtain ⟨ch, a, b⟩ := r; exact ⟨ch, a, b.ext h⟩
theorem RoRel.ext {x r : Option Nat} (k : RoRel E x r) : RoRel E' x r := by
  cases x with
  | none => exact k
  | some l => obtain ⟨e, a, b⟩ := k; exact ⟨e, h _ _ a, b⟩
theorem FRel.ext {a : AFrame} {fr : Frame} (r : FRel E a fr) : FRel E' a fr :=
  ⟨r.fn, r.tm.ext h, r.kind, r.round.ext h, r.todo.imp (fun x => x.ext h) id, r.df.ext h, r.md.ext h⟩
theorem FRelL.ext : ∀ {xs : List AFrame} {fs : List Frame}, FRelL E xs fs → FRelL E' xs fs
  | [], _, r => r
  | x :: xs, _, ⟨f, fs, a, b, c⟩ => ⟨f, fs, a, b.ext h, FRelL.ext c⟩
end ext

/-! ## Temporaries -/
theorem undef_rel (E : Env) : VRel E .undef undef := by simp only [SV.undef, VRel]; exact ⟨[], VRelL.nil, rfl⟩
theorem TRel.put {E : Env} {n : Nat} {tm : Tr SV} {a : Array Value} (h : TRel E n tm a) {d : Nat} (hd : d < n) {v : SV} {val : Value} (hv : VRel E v val) :
    TRel E n (tm.put d (some v)) (a.setIfInBounds d val) := by
  refine ⟨by simp [h.size], fun i => ?_⟩
  unfold tmGet
  rw [Tr.get_put]
  have hsz := h.size
  by_cases hid : i = d
  · subst hid
    rw [if_pos rfl]
    simp only [Array.getD_eq_getD_getElem?, Array.getElem?_setIfInBounds_self_of_lt (show i < a.size by rw [hsz]; exact hd), Option.getD_some]
    exact hv
  · rw [if_neg hid]
    have := h.get i
    unfold tmGet at this
    rw [Array.getD_eq_getD_getElem?, Array.getElem?_setIfInBounds_ne (fun e => hid e.symm), ← Array.getD_eq_getD_getElem?]
    exact this

theorem putTmp_inv {n : Nat} {tm : Tr SV} {dst : Option Tmp} {v : SV} {k : Tr SV → Bool} (h : putTmp n tm dst v false k = true) :
    (dst = none ∧ k tm = true) ∨ ∃ d, dst = some d ∧ d < n ∧ k (tm.put d (some v)) = true := by
  unfold putTmp at h
  cases dst with
  | none => exact .inl ⟨rfl, h⟩
  | some d =>
    dsimp only at h
    cases hd : Nat.ble (Nat.succ d) n with
    | false => rw [hd] at h; cases h
    | true =>
      rw [hd] at h; dsimp only at h
      rw [forceSV_eq, Tr.set_k] at h
      exact .inr ⟨d, rfl, ble_true hd, h⟩

/-- a destination, written -/
def putA (dst : Option Tmp) (a : Array Value) (v : Value) : Array Value := match dst with | some d => a.setIfInBounds d v | none => a
theorem putTmp_ok {E : Env} {n : Nat} {tm : Tr SV} {a : Array Value} (hr : TRel E n tm a) {dst : Option Tmp} {v : SV} {val : Value} (hv : VRel E v val) {k : Tr SV → Bool}
    (h : putTmp n tm dst v false k = true) : ∃ tm', k tm' = true ∧ TRel E n tm' (putA dst a val) := by
  rcases putTmp_inv h with ⟨rfl, hk⟩ | ⟨d, rfl, hd, hk⟩
  · exact ⟨tm, hk, hr⟩
  · exact ⟨_, hk, hr.put hd hv⟩

theorem finish_ok {E : Env} {a : AFrame} {fr : Frame} (hf : FRel E a fr) {v : SV} {val : Value} (hv : VRel E v val) {k : AFrame → Bool} (h : finishA a v false k = true) :
    ∃ a', k a' = true ∧ FRel E a' (fr.finish val) ∧ a'.sg = a.sg := by
  obtain ⟨sg, tm, todo, df, md⟩ := a
  unfold finishA at h
  dsimp only at h
  cases todo with
  | nil => cases h
  | cons it td =>
    dsimp only at h
    have htd : IRelL E (it :: td) fr.todo := by
      rcases hf.todo with x | ⟨x, _⟩
      · exact x
      · cases x
    obtain ⟨i, is, hi, hit, his⟩ := htd
    cases it <;> dsimp only at h <;> first | (cases h; done) | skip
    case inRegion ops l =>
      cases l with
      | nil => cases h
      | cons o rest =>
        dsimp only at h
        obtain ⟨arr, idx, rfl, hops, hidx⟩ := hit
        cases idx with
        | nil => simp [IdxRel] at hidx
        | cons j js =>
          obtain ⟨o', l', e1, e2, e3⟩ := hidx
          cases e1
          obtain ⟨tm', hk, ht⟩ := putTmp_ok hf.tm hv h
          refine ⟨_, hk, ⟨?_, ?_, ?_, ?_, ?_, ?_, ?_⟩, rfl⟩
          · simp only [Frame.finish, hi]; exact hf.fn
          · simp only [Frame.finish, hi, e2, Option.bind_some]
            exact ht
          · simp only [Frame.finish, hi]; exact hf.kind
          · simp only [Frame.finish, hi]; exact hf.round
          · simp only [Frame.finish, hi]; exact .inl ⟨_, _, rfl, ⟨arr, js, rfl, hops, e3⟩, his⟩
          · simp only [Frame.finish, hi]; exact hf.df
          · simp only [Frame.finish, hi]; exact hf.md
    case inRangeFunc l =>
      obtain ⟨e, he, rfl⟩ := hit
      refine ⟨_, h, ⟨?_, ?_, ?_, ?_, ?_, ?_, ?_⟩, rfl⟩ <;> simp only [Frame.finish, hi]
      · exact hf.fn
      · exact hf.tm
      · exact hf.kind
      · exact hf.round
      · exact .inl ⟨_, _, rfl, ⟨e, he, rfl⟩, his⟩
      · exact hf.df
      · exact hf.md
    case beginRound =>
      cases hit
      refine ⟨_, h, ⟨?_, ?_, ?_, ?_, ?_, ?_, ?_⟩, rfl⟩ <;> simp only [Frame.finish, hi]
      · exact hf.fn
      · exact hf.tm
      · exact hf.kind
      · exact hf.round
      · exact .inl his
      · exact hf.df
      · exact hf.md

/-- the arguments, laid into a trie -/
theorem enterTm_eq {β : Type} : ∀ (args : List SV) (i : Nat) (tm : Tr SV) (k : Tr SV → β), ∃ tm', enterTm args i tm k = k tm' ∧ ∀ j, tm'.get j = if i ≤ j ∧ j < i + args.length then args[j - i]? else tm.get j
  | [], i, tm, k => ⟨tm, rfl, fun j => by rw [if_neg (by simp)]⟩
  | a :: as, i, tm, k => by
    simp only [enterTm]
    rw [forceSV_eq, Tr.set_k]
    obtain ⟨tm', h1, h2⟩ := enterTm_eq as (Nat.succ i) (tm.put i (some a)) k
    refine ⟨tm', h1, fun j => ?_⟩
    rw [h2, Tr.get_put]
    simp only [Nat.succ_eq_add_one, List.length_cons]
    by_cases hj : i = j
    · subst hj; rw [if_neg (by omega), if_pos rfl, if_pos (by omega)]; simp
    · by_cases hlt : i + 1 ≤ j ∧ j < i + 1 + as.length
      · rw [if_pos hlt, if_pos (by omega), show j - i = (j - (i + 1)) + 1 by omega]; simp
      · rw [if_neg hlt, if_neg (fun e => hj e.symm), if_neg (by omega)]

theorem enter_ok {T : PT} {P : Program} (hT : TOk T P) {E : Env} {f : FuncId} {args : List SV} {vs : List Value} (ha : VRelL E args vs) {kind : CallKind} {k : AFrame → Bool} (h : enterFr T f args kind false k = true) :
    ∃ a', k a' = true ∧ FRel E a' (Frame.enter P f vs.toArray kind) ∧ a'.sg.fn = f := by
  unfold enterFr at h
  cases hf : T.fns.get f with
  | none => rw [hf] at h; cases h
  | some fn =>
    rw [hf] at h; dsimp only at h
    cases hb : fn.body with
    | none => rw [hb] at h; cases h
    | some body =>
      rw [hb] at h; dsimp only at h
      rw [forceNat_eq] at h
      cases hl : Nat.ble (lenS args) fn.ntmps with
      | false => rw [hl] at h; cases h
      | true =>
        rw [hl] at h; dsimp only at h
        have hle := ble_true hl
        rw [lenS_eq] at hle
        obtain ⟨tm, h1, h2⟩ := enterTm_eq args 0 .leaf fun tm => k ⟨⟨f, fn.ntmps, kind, none⟩, tm, [.code body], [], .run⟩
        rw [h1] at h
        obtain ⟨hfn, _⟩ := hT.fn f fn hf
        have hlen := ha.length
        refine ⟨_, h, ⟨rfl, ⟨?_, fun i => ?_⟩, rfl, rfl, .inl ⟨_, _, rfl, ?_, rfl⟩, rfl, rfl⟩, rfl⟩
        · simp [Frame.enter, hfn]; omega
        · simp only [tmGet, h2, Nat.zero_le, true_and, Nat.zero_add, Nat.sub_zero]
          simp only [Frame.enter, hfn, Option.map_some, Option.getD_some, Array.getD_eq_getD_getElem?]
          by_cases hi' : i < args.length
          · rw [if_pos hi']
            have hx : args[i]? = some args[i] := by simp [hi']
            obtain ⟨v, hv, hr⟩ := ha.get i _ hx
            rw [hx, Array.getElem?_append_left (by simp; omega)]
            simp only [List.getElem?_toArray, hv, Option.getD_some]
            exact hr
          · rw [if_neg hi', Array.getElem?_append_right (by simp; omega)]
            simp only [Tr.get_leaf]
            have : ((Array.replicate (fn.ntmps - vs.toArray.size) undef)[i - vs.toArray.size]?).getD undef = undef := by
              rw [Array.getElem?_replicate]; split <;> rfl
            rw [this]; exact undef_rel E
        · simp [Frame.enter, hfn, hb, IRel]

/-! ## What has been turned since a call's beginning -/
structure Since (E0 : Env) (w0 : World) (E : Env) (w : World) (W : List Nat) : Prop where
  ext : Ext E0 E
  fr : Fr E0 W w0 w
  fresh : ∀ n e, E0 n = none → E n = some e → w0.heap.size ≤ e.blk ∨ ∃ m ∈ W, ∃ e', E0 m = some e' ∧ e'.blk = e.blk

theorem Since.refl (E : Env) (w : World) : Since E w E w [] := ⟨Ext.refl E, Fr.refl _ _ _, fun n e h k => by rw [h] at k; cases k⟩
theorem Since.trans {E0 E1 E2 : Env} {w0 w1 w2 : World} {W W' : List Nat} (h : Since E0 w0 E1 w1 W) (k : Since E1 w1 E2 w2 W') : Since E0 w0 E2 w2 (W' ++ W) := by
  refine ⟨h.ext.trans k.ext, ⟨Nat.le_trans h.fr.size k.fr.size, k.fr.os.trans h.fr.os, k.fr.tape.trans h.fr.tape, k.fr.output.trans h.fr.output, fun b hb hn => ?_⟩, fun n e hn he => ?_⟩
  · rw [k.fr.keep b (Nat.lt_of_lt_of_le hb h.fr.size) ?_, h.fr.keep b hb fun n hm e he => hn n (by simp [hm]) e he]
    intro n hm e he
    cases h0 : E0 n with
    | some e0 =>
      have := h.ext _ _ h0
      rw [he] at this; cases this
      exact hn n (by simp [hm]) _ h0
    | none =>
      rcases h.fresh n e h0 he with x | ⟨m, hm', e', he', heq⟩
      · omega
      · rw [← heq]; exact hn m (by simp [hm']) _ he'
  · cases h1 : E1 n with
    | some e1 =>
      have := k.ext _ _ h1
      rw [he] at this; cases this
      rcases h.fresh n _ hn h1 with x | ⟨m, hm, y⟩
      · exact .inl x
      · exact .inr ⟨m, by simp [hm], y⟩
    | none =>
      rcases k.fresh n e h1 he with x | ⟨m, hm, e', he', heq⟩
      · exact .inl (Nat.le_trans h.fr.size x)
      · cases h0 : E0 m with
        | some e0 =>
          have := h.ext _ _ h0
          rw [he'] at this; cases this
          exact .inr ⟨m, by simp [hm], _, h0, heq⟩
        | none =>
          rcases h.fresh m e' h0 he' with x | ⟨m', hm', e'', he'', heq'⟩
          · exact .inl (heq ▸ x)
          · exact .inr ⟨m', by simp [hm'], e'', he'', heq'.trans heq⟩

def GRel (T : PT) (E : Env) : Prop := ∀ g n, T.gname g = some n → ∃ e, E n = some e ∧ e.blk = g ∧ e.base = 0
theorem GRel.ext {T : PT} {E E' : Env} (h : Ext E E') (g : GRel T E) : GRel T E' := fun a n k => let ⟨e, he, r⟩ := g a n k; ⟨e, h _ _ he, r⟩

/-- what holds of memory -/
structure Mem (T : PT) (P : Program) (lo : Nat) (E0 : Env) (w0 : World) (E : Env) (t : Tr ABlk) (nx : Nat) (W : List Nat) (w : World) : Prop where
  rel : R P E t.get w
  free : ∀ n, nx ≤ n → E n = none
  glob : GRel T E
  since : Since E0 w0 E w W
  low : ∀ n, E n ≠ none → E0 n ≠ none ∨ lo ≤ n
  lole : lo ≤ nx

theorem Mem.lt {T : PT} {P : Program} {lo : Nat} {E0 E : Env} {w0 w : World} {t : Tr ABlk} {nx : Nat} {W : List Nat} (h : Mem T P lo E0 w0 E t nx W w) : ∀ n b, t.get n = some b → n < nx := by
  intro n b hb
  obtain ⟨e, he, _⟩ := h.rel.blk n b hb
  rcases Nat.lt_or_ge n nx with x | x
  · exact x
  · rw [h.free n x] at he; cases he

theorem Mem.eff {T : PT} {P : Program} {lo : Nat} {E0 E E' : Env} {w0 w w' : World} {t : Tr ABlk} {nx nn : Nat} {W : List Nat} {d : List (Nat × Option ABlk)} (h : Mem T P lo E0 w0 E t nx W w)
    (k : Eff P E nx t.get w d nn E' w') : Mem T P lo E0 w0 E' (applyT d t) nn (dW nx d ++ W) w' :=
  ⟨by rw [applyT_get]; exact k.rel, fun n hn => by
    cases he : E' n with
    | none => rfl
    | some e =>
      rcases k.dom n (by rw [he]; simp) with x | x
      · have := h.free n (Nat.le_trans k.le hn); exact absurd this x
      · omega, h.glob.ext k.ext, h.since.trans ⟨k.ext, k.fr, k.fresh⟩, fun n hn => (k.dom n hn).elim (h.low n) (fun x => .inr (Nat.le_trans h.lole x.1)), Nat.le_trans h.lole k.le⟩
end Go.Sx

namespace Go.Sx
open Go
set_option linter.unusedVariables false
set_option linter.unusedSimpArgs false

/-! ## Operands -/
section
variable {E : Env}
theorem str_rel (s : ByteArray) : VRel E (.str (s.data.toList.map (·.toNat))) (.string s) := by
  simp only [VRel]
  refine ⟨?_, ?_⟩
  · congr 1
    unfold mkBA
    rw [List.map_map]
    have : (UInt8.ofNat ∘ fun x => x.toNat) = (id : UInt8 → UInt8) := by funext x; simp
    rw [this]; simp
  · intro b hb
    obtain ⟨x, _, rfl⟩ := List.mem_map.mp hb
    exact x.toNat_lt
theorem ofValue_rel : ∀ (f : Nat) (v : Value), VRel E (ofValue f v) v
  | 0, v => by simp only [ofValue, VRel]
  | f + 1, v => by
    have L : ∀ l : List Value, VRelL E (l.map (ofValue f)) l := fun l => by
      have := VRelL.map (E := E) (f := ofValue f) (g := id) l fun x _ => ofValue_rel f x
      simpa using this
    unfold ofValue
    split
    · simp only [VRel]
    · simp only [VRel]
    · exact str_rel _
    · simp only [VRel]
    · simp only [VRel]
    · simp only [VRel]
    · rename_i fn a b; simp only [VRel]; exact ⟨a.toList, b.toList, L _, L _, by simp⟩
    · simp only [VRel]
    · rename_i t x; simp only [VRel]; exact ⟨x, ofValue_rel f x, rfl⟩
    · simp only [VRel]
    · rename_i cs; simp only [VRel]; exact ⟨cs.toList, L _, by simp⟩
    · rename_i cs; simp only [VRel]; exact ⟨cs.toList, L _, by simp⟩
    · simp only [VRel]
theorem ofConst_rel (v : Value) : VRel E (ofConst v) v := by
  unfold ofConst
  split
  · simp only [VRel]
  · simp only [VRel]
  · exact ofValue_rel 6 _
theorem eval_rel {T : PT} (hg : GRel T E) {n : Nat} {tm : Tr SV} {tmps : Array Value} (ht : TRel E n tm tmps) (ds : List Deferred) (o : Operand) :
    VRel E (evalOpnd T tm o) ((Act.mk tmps ds).eval o) := by
  cases o with
  | tmp t => exact ht.get t
  | const v => exact ofConst_rel v
  | global g =>
    simp only [evalOpnd, evalG, Act.eval]
    cases hn : T.gname g with
    | none => simp only [VRel]
    | some n =>
      obtain ⟨e, he, h1, h2⟩ := hg g n hn
      simp only [VRel]
      exact ⟨e, he, by rw [h1, h2]⟩
  | func f => simp only [evalOpnd, Act.eval, VRel]; exact ⟨[], [], VRelL.nil, VRelL.nil, rfl⟩
end

theorem run_self {fr : Frame} (h : fr.mode = .run) : fr.atR ⟨fr.tmps, fr.defers⟩ fr.todo = fr := by
  cases fr; cases h; rfl

/-! ## Leaving blocks -/
theorem exitTo_ok {E : Env} (id : Nat) : ∀ {k : List AItem} {l : List Item}, IRelL E k l → match exitToA id k with | none => exitTo id l = none | some r => ∃ r', exitTo id l = some r' ∧ IRelL E r r'
  | [], l, h => by simp only [IRelL] at h; subst h; rfl
  | x :: xs, l, h => by
    obtain ⟨i, is, rfl, hx, hxs⟩ := h
    have ih := exitTo_ok id hxs
    cases x with
    | inBlock id' =>
      cases hx
      simp only [exitToA, exitTo]
      cases hb : Nat.beq id' id with
      | true => have := beq_true hb; subst this; simp only [beq_self_eq_true, if_true]; exact ⟨is, rfl, hxs⟩
      | false =>
        have : (id' == id) = false := by simp; intro e; subst e; simp at hb
        simp only [this, Bool.false_eq_true, if_false]; exact ih
    | inRegion ops rest => obtain ⟨_, _, rfl, _⟩ := hx; simpa only [exitToA, exitTo] using ih
    | inRangeFunc n => obtain ⟨_, _, rfl⟩ := hx; simpa only [exitToA, exitTo] using ih
    | endRangeFunc n => obtain ⟨_, _, rfl⟩ := hx; simpa only [exitToA, exitTo] using ih
    | _ => cases hx; simpa only [exitToA, exitTo] using ih
theorem gotoIn_ok {E : Env} (t : Nat) : ∀ {k : List AItem} {l : List Item}, IRelL E k l → match gotoInA t k with | none => gotoIn t l = none | some r => ∃ r', gotoIn t l = some r' ∧ IRelL E r r'
  | [], l, h => by simp only [IRelL] at h; subst h; rfl
  | x :: xs, l, h => by
    obtain ⟨i, is, rfl, hx, hxs⟩ := h
    have ih := gotoIn_ok t hxs
    cases x with
    | inScope body =>
      cases hx
      simp only [gotoInA, gotoIn]
      cases hb : findLabel body t with
      | some rest => exact ⟨_, rfl, _, _, rfl, rfl, _, _, rfl, rfl, hxs⟩
      | none => exact ih
    | inRegion ops rest => obtain ⟨_, _, rfl, _⟩ := hx; simpa only [gotoInA, gotoIn] using ih
    | inRangeFunc n => obtain ⟨_, _, rfl⟩ := hx; simpa only [gotoInA, gotoIn] using ih
    | endRangeFunc n => obtain ⟨_, _, rfl⟩ := hx; simpa only [gotoInA, gotoIn] using ih
    | _ => cases hx; simpa only [gotoInA, gotoIn] using ih

/-! ## One step at an operation -/
section apply
variable {P : Program} {fr fr1 : Frame} {cs : List Frame} {w w1 w' : World} {s : Sem Next}
/-- the frame asks for s -/
def Asks (P : Program) (fr : Frame) (cs : List Frame) (w : World) (fr1 : Frame) (w1 : World) (s : Sem Next) : Prop :=
  (stepG P true { frame := fr, callers := cs, status := .running, dying := none } w).bare = (stepG.apply P true fr1 cs none s w1).bare ∧
  ∀ d b r s k, fr1.todo ≠ .call d b r s :: k
variable (h : Asks P fr cs w fr1 w1 s)
include h
theorem apply_value {v : Value} (hr : s.run P w1 = .ok (.value v) w') : step P (lone fr cs w) = .next (lone (fr1.finish v) cs w') :=
  step_lone_go (by rw [h.1]; simp [stepG.apply, hr])
theorem apply_skip (hr : s.run P w1 = .ok .skip w') : step P (lone fr cs w) = .next (lone (fr1.finish undef) cs w') :=
  step_lone_go (by rw [h.1]; simp [stepG.apply, hr])
theorem apply_enter {f : FuncId} {args : Array Value} (hr : s.run P w1 = .ok (.enter f args) w') : step P (lone fr cs w) = .next (lone (Frame.enter P f args .normal) (fr1 :: cs) w') :=
  step_lone_go (by
    rw [h.1]
    have hne := h.2
    cases htd : fr1.todo with
    | nil => simp [stepG.apply, hr, htd]
    | cons i is => cases i <;> first | (simp [stepG.apply, hr, htd]; done) | exact absurd htd (hne _ _ _ _ _))
theorem apply_round {l : Nat} {f : FuncId} {tmps : Array Value} {a b : Code} (hr : s.run P w1 = .ok (.round l f tmps a b) w') : step P (lone fr cs w) = .next (lone (Frame.round l f tmps a b .normal) (fr1 :: cs) w') :=
  step_lone_go (by rw [h.1]; simp [stepG.apply, hr])
theorem apply_defer {d : Deferred} (hr : s.run P w1 = .ok (.defer d) w') : step P (lone fr cs w) = .next (lone ({ fr1 with defers := d :: fr1.defers }.finish undef) cs w') :=
  step_lone_go (by rw [h.1]; simp [stepG.apply, hr])
theorem apply_recover_none (hro : fr1.roundOf = none) (hr : s.run P w1 = .ok .recover w') (ht : tryRecover fr1 cs = none) : step P (lone fr cs w) = .next (lone (fr1.finish .nilIface) cs w') :=
  step_lone_go (by rw [h.1]; simp [stepG.apply, hr, hro, ht])
theorem apply_recover_some (hro : fr1.roundOf = none) (hr : s.run P w1 = .ok .recover w') {v : Value} {cs' : List Frame} (ht : tryRecover fr1 cs = some (v, cs')) : step P (lone fr cs w) = .next (lone (fr1.finish v) cs' w') :=
  step_lone_go (by rw [h.1]; simp [stepG.apply, hr, hro, ht])
theorem apply_panic {v : Value} (hr : s.run P w1 = .halt (.panic v) w') : step P (lone fr cs w) = .next (lone (fr1.raise [{ v, recovered := false }]) cs w') :=
  step_lone_go (by rw [h.1]; simp [stepG.apply, hr])
end apply

/-! ## States -/
def Bot (f0 : FuncId) (fr : AFrame) : List AFrame → Prop
  | [] => fr.sg.fn = f0
  | c :: cs => Bot f0 c cs
structure SRel (T : PT) (P : Program) (lo : Nat) (E0 : Env) (w0 : World) (f0 : FuncId) (E : Env) (st : St) (fr : Frame) (cs : List Frame) (w : World) : Prop where
  fr : FRel E st.fr fr
  cs : FRelL E st.cs cs
  mem : Mem T P lo E0 w0 E st.t st.nx st.w w
  bot : Bot f0 st.fr st.cs
/-- the machine comes to a state that is let go on -/
def Reach (T : PT) (P : Program) (lo : Nat) (E0 : Env) (w0 : World) (f0 : FuncId) (base : List Frame) (go : St → Bool) (m : Machine) : Prop :=
  ∃ st E fr cs w, Steps P m (lone fr (cs ++ base) w) ∧ SRel T P lo E0 w0 f0 E st fr cs w ∧ go st = true

theorem Reach.head {T : PT} {P : Program} {lo : Nat} {E0 : Env} {w0 : World} {f0 : FuncId} {base : List Frame} {go : St → Bool} {m m' : Machine} (h : step P m = .next m') (k : Reach T P lo E0 w0 f0 base go m') : Reach T P lo E0 w0 f0 base go m := by
  obtain ⟨st, E, fr, cs, w, hs, r⟩ := k
  exact ⟨st, E, fr, cs, w, .head h hs, r⟩
theorem Bot.same {f0 : FuncId} {a b : AFrame} (h : a.sg.fn = b.sg.fn) {cs : List AFrame} (k : Bot f0 a cs) : Bot f0 b cs := by
  cases cs with
  | nil => exact h.symm.trans k
  | cons c cs => exact k

theorem Bot.fr {f0 : FuncId} {sg : Sig} {tm tm' : Tr SV} {td td' : List AItem} {df df' : List ADef} {md md' : AMode} {cs : List AFrame} (k : Bot f0 ⟨sg, tm, td, df, md⟩ cs) : Bot f0 ⟨sg, tm', td', df', md'⟩ cs :=
  Bot.same (a := ⟨sg, tm, td, df, md⟩) (b := ⟨sg, tm', td', df', md'⟩) rfl k

theorem ChRel.append {E : Env} : ∀ {xs : List (SV × Bool)} {ps : List PanicEntry} {ys qs}, ChRel E xs ps → ChRel E ys qs → ChRel E (xs ++ ys) (ps ++ qs)
  | [], _, _, _, h, k => by simp only [ChRel] at h; subst h; exact k
  | (v, b) :: xs, _, _, _, ⟨u, ps, rfl, hv, hr⟩, k => ⟨u, _, rfl, hv, hr.append k⟩
theorem raise_ok {E : Env} {a : AFrame} {fr : Frame} (h : FRel E a fr) {c : List (SV × Bool)} {ch : List PanicEntry} (hc : ChRel E c ch) : FRel E ⟨a.sg, a.tm, a.todo, a.df, raiseA a.md c⟩ (fr.raise ch) := by
  have hm := h.md
  have key : ∀ m', MRel E (raiseA a.md c) m' → FRel E ⟨a.sg, a.tm, a.todo, a.df, raiseA a.md c⟩ { fr with mode := m' } := fun m' hm' => by
    refine ⟨h.fn, h.tm, h.kind, h.round, ?_, h.df, hm'⟩
    rcases h.todo with x | ⟨x, y⟩
    · exact .inl x
    · exact .inr ⟨x, by unfold raiseA; cases a.md <;> simp⟩
  rw [Frame.raise_mode]
  refine key _ ?_
  cases hmd : a.md with
  | run => rw [hmd] at hm; simp only [MRel] at hm; rw [hm]; exact ⟨ch, rfl, hc⟩
  | returning => rw [hmd] at hm; simp only [MRel] at hm; rw [hm]; exact ⟨ch, rfl, hc⟩
  | panicking old => rw [hmd] at hm; obtain ⟨o, ho, hoc⟩ := hm; rw [ho]; exact ⟨ch ++ o, rfl, hc.append hoc⟩

theorem putAll_ok {E : Env} {n : Nat} : ∀ (ps : List Tmp) (args : List SV) (vs : List Value) {tm : Tr SV} {a : Array Value} {k : Tr SV → Bool}, TRel E n tm a → VRelL E args vs → putAll n false ps args tm k = true →
    ∃ tm', k tm' = true ∧ TRel E n tm' ((ps.zip vs).foldl (fun tmps (t, a) => tmps.setIfInBounds t a) a)
  | [], args, vs, tm, a, k, ht, ha, h => by
    cases args with
    | nil => exact ⟨tm, h, by simpa using ht⟩
    | cons x xs => cases h
  | p :: ps, args, vs, tm, a, k, ht, ha, h => by
    cases args with
    | nil => cases h
    | cons x xs =>
      obtain ⟨v, vs', rfl, hv, hvs⟩ := ha.cons_inv
      obtain ⟨tm', hk, ht'⟩ := putTmp_ok ht hv (dst := some p) h
      obtain ⟨tm'', hk', ht''⟩ := putAll_ok ps xs vs' ht' hvs hk
      exact ⟨tm'', hk', by simpa [putA] using ht''⟩

section after
variable {T : PT} {P : Program} {lo : Nat} {E0 E E' : Env} {w0 w w' : World} {f0 : FuncId} {base : List Frame} {go : St → Bool} {a : AFrame} {fr : Frame} {acs : List AFrame} {cs : List Frame}
  {t' : Tr ABlk} {nx' : Nat} {W' : List Nat} {s : Sem Next} {nxt : ANx}

theorem loop_inv {l : Nat} {k : LoopState → Option Code → FuncId → Nat → Tr SV → List Tmp → Code → Code → Nat → Bool} (hm : Mem T P lo E0 w0 E t' nx' W' w) (h : onLoop t' l false k = true) :
    ∃ st pd f n tm ps asg body d e tmps e2, k st pd f n tm ps asg body d = true ∧ t'.get l = some (.loop st pd f n tm ps asg body d) ∧ E l = some e ∧ TRel E n tm tmps ∧ E d = some e2 ∧
      w.heap[e.blk]? = some (.loop { state := st, pending := pd, fn := f, tmps, params := ps.toArray, assign := asg, body, defers := e2.blk }) := by
  obtain ⟨st, pd, f, n, tm, ps, asg, body, d, hl, hk⟩ := onLoop_inv h (by simp)
  obtain ⟨e, he, o, ho, tmps, e2, h1, h2, rfl⟩ := hm.rel.blk _ _ hl
  exact ⟨st, pd, f, n, tm, ps, asg, body, d, e, tmps, e2, hk, hl, he, h1, h2, ho⟩

theorem recover_ok {k : SV → List AFrame → Bool} (hf : FRel E a fr) (hcs : FRelL E acs cs) (hro : a.sg.round = none) (h : recoverA a.sg acs k = true) :
    fr.roundOf = none ∧ ∃ v acs', k v acs' = true ∧ (∀ b : AFrame, Bot f0 b acs → Bot f0 b acs') ∧
      ((tryRecover fr (cs ++ base) = none ∧ v = .nilIface ∧ FRelL E acs' cs) ∨ ∃ val cs', tryRecover fr (cs ++ base) = some (val, cs' ++ base) ∧ VRel E v val ∧ FRelL E acs' cs') := by
  obtain ⟨⟨fn, n, kind, round⟩, tm, todo, df, md⟩ := a
  dsimp only at hro h
  subst hro
  have hkd : fr.kind = kind := hf.kind
  refine ⟨hf.round, ?_⟩
  unfold recoverA at h
  dsimp only at h
  cases kind <;> dsimp only at h <;> first | (cases h; done) | skip
  case normal => exact ⟨.nilIface, acs, h, fun _ x => x, .inl ⟨by unfold tryRecover; rw [hkd], rfl, hcs⟩⟩
  case deferred =>
    cases acs with
    | nil => cases h
    | cons c acs =>
      obtain ⟨f, fs, rfl, hfc, hfs⟩ := hcs
      obtain ⟨csg, ctm, ctodo, cdf, cmd⟩ := c
      dsimp only at h
      have hm := hfc.md
      have bot : ∀ m' : AMode, ∀ b : AFrame, Bot f0 b (⟨csg, ctm, ctodo, cdf, cmd⟩ :: acs) → Bot f0 b (⟨csg, ctm, ctodo, cdf, m'⟩ :: acs) := fun m' b hb => show Bot f0 (⟨csg, ctm, ctodo, cdf, m'⟩ : AFrame) acs from Bot.same (a := ⟨csg, ctm, ctodo, cdf, cmd⟩) (b := ⟨csg, ctm, ctodo, cdf, m'⟩) rfl hb
      cases cmd with
      | run =>
        simp only [MRel] at hm
        exact ⟨_, _, h, fun _ x => x, .inl ⟨by simp only [tryRecover, hkd, List.cons_append, hm], rfl, f, fs, rfl, hfc, hfs⟩⟩
      | returning =>
        simp only [MRel] at hm
        exact ⟨_, _, h, fun _ x => x, .inl ⟨by simp only [tryRecover, hkd, List.cons_append, hm], rfl, f, fs, rfl, hfc, hfs⟩⟩
      | panicking ch =>
        obtain ⟨pch, hpm, hch⟩ := hm
        cases ch with
        | nil =>
          simp only [ChRel] at hch; subst hch
          exact ⟨_, _, h, fun _ x => x, .inl ⟨by simp only [tryRecover, hkd, List.cons_append, hpm], rfl, f, fs, rfl, hfc, hfs⟩⟩
        | cons p older =>
          obtain ⟨v, r⟩ := p
          obtain ⟨u, ps, rfl, hu, hps⟩ := hch
          cases r with
          | true =>
            exact ⟨_, _, h, fun _ x => x, .inl ⟨by simp only [tryRecover, hkd, List.cons_append, hpm], rfl, f, fs, rfl, hfc, hfs⟩⟩
          | false =>
            refine ⟨_, _, h, bot _, .inr ⟨u, { f with mode := .panicking ({ v := u, recovered := true } :: ps) } :: fs, ?_, hu, _, fs, rfl, ?_, hfs⟩⟩
            · simp only [tryRecover, hkd, List.cons_append, hpm]
            · refine ⟨hfc.fn, hfc.tm, hfc.kind, hfc.round, ?_, hfc.df, ⟨_, rfl, u, ps, rfl, hu, hps⟩⟩
              rcases hfc.todo with x | ⟨x, _⟩
              · exact .inl x
              · exact .inr ⟨x, by simp⟩

theorem afterNx_ok (hT : TOk T P) {fr1 : Frame} {w1 : World} (hask : Asks P fr (cs ++ base) w fr1 w1 s) (hf : FRel E' a fr1) (hcs : FRelL E' acs cs) (hm : Mem T P lo E0 w0 E' t' nx' W' w') (hbot : Bot f0 a acs)
    (hrun : RunOk P E' w1 w' s nxt) (h : afterNx T a acs t' nx' W' nxt go = true) : Reach T P lo E0 w0 f0 base go (lone fr (cs ++ base) w) := by
  cases nxt with
  | val v =>
    obtain ⟨n, hr, val, rfl, hv⟩ := hrun
    obtain ⟨a', hk, hf', hsg⟩ := finish_ok hf hv (k := fun fr => go ⟨fr, acs, t', nx', W'⟩) h
    exact ⟨_, E', _, cs, w', .one (apply_value hask hr), ⟨hf', hcs, hm, Bot.same (by rw [hsg]) hbot⟩, hk⟩
  | skip =>
    obtain ⟨n, hr, rfl⟩ := hrun
    obtain ⟨a', hk, hf', hsg⟩ := finish_ok hf (undef_rel E') (k := fun fr => go ⟨fr, acs, t', nx', W'⟩) h
    exact ⟨_, E', _, cs, w', .one (apply_skip hask hr), ⟨hf', hcs, hm, Bot.same (by rw [hsg]) hbot⟩, hk⟩
  | enter f args =>
    obtain ⟨n, hr, vs, hvs, rfl⟩ := hrun
    obtain ⟨a', hk, hf', hfn⟩ := enter_ok hT hvs (k := fun g => go ⟨g, a :: acs, t', nx', W'⟩) h
    exact ⟨⟨a', a :: acs, t', nx', W'⟩, E', _, fr1 :: cs, w', .one (apply_enter hask hr), ⟨hf', ⟨fr1, cs, rfl, hf, hcs⟩, hm, hbot⟩, hk⟩
  | round l args =>
    obtain ⟨n, hr, e, r, vs, he, ho, hvs, hlen, rfl⟩ := hrun
    obtain ⟨st, pd, f, n, tm, ps, asg, body, d, e', tmps, e2, hk, hl, he', ht, hd, ho'⟩ := loop_inv hm h
    rw [he] at he'; cases he'
    rw [ho] at ho'; cases ho'
    obtain ⟨tm', hk', ht'⟩ := putAll_ok ps args vs ht hvs hk
    refine ⟨⟨⟨⟨f, n, .normal, some l⟩, tm', [.code asg, .beginRound, .code body], [], .run⟩, a :: acs, t', nx', W'⟩, E', _, fr1 :: cs, w', .one (apply_round hask hr), ⟨⟨rfl, ?_, rfl, ⟨e, he, rfl⟩, .inl ?_, rfl, rfl⟩, ⟨fr1, cs, rfl, hf, hcs⟩, hm, hbot⟩, hk'⟩
    · have : ((ps.toArray.zip vs.toArray).foldl (fun tmps (t, a) => tmps.setIfInBounds t a) tmps) = ((ps.zip vs).foldl (fun tmps (t, a) => tmps.setIfInBounds t a) tmps) := by
        rw [← Array.foldl_toList]; simp
      simp only [Frame.round]
      rw [this]; exact ht'
    · exact ⟨_, _, rfl, rfl, _, _, rfl, rfl, _, _, rfl, rfl, rfl⟩
  | defer d =>
    obtain ⟨n, hr, dd, hd, rfl⟩ := hrun
    obtain ⟨sg, tm, todo, df, md⟩ := a
    simp only [afterNx] at h
    cases hro : sg.round with
    | some l => rw [hro] at h; cases h
    | none =>
      rw [hro] at h; dsimp only at h
      have hf2 : FRel E' ⟨sg, tm, todo, d :: df, md⟩ { fr1 with defers := dd :: fr1.defers } :=
        ⟨hf.fn, hf.tm, hf.kind, hf.round, hf.todo, ⟨dd, fr1.defers, hd, hf.df, rfl⟩, hf.md⟩
      obtain ⟨a', hk, hf', hsg⟩ := finish_ok hf2 (undef_rel E') (k := fun fr => go ⟨fr, acs, t', nx', W'⟩) h
      exact ⟨_, E', _, cs, w', .one (apply_defer hask hr), ⟨hf', hcs, hm, Bot.same (by rw [hsg]) hbot⟩, hk⟩
  | recover =>
    obtain ⟨n, hr, rfl⟩ := hrun
    have hro : a.sg.round = none := by
      simp only [afterNx] at h
      unfold recoverA at h
      obtain ⟨⟨fn, n, kind, round⟩, tm, todo, df, md⟩ := a
      dsimp only at h ⊢
      cases round with
      | none => rfl
      | some l => cases h
    obtain ⟨hro', v, acs', hk, hb, h3⟩ := recover_ok (f0 := f0) (base := base) hf hcs hro (k := fun v cs => finishA a v false fun fr => go ⟨fr, cs, t', nx', W'⟩) h
    rcases h3 with ⟨ht, rfl, hcs'⟩ | ⟨val, cs', ht, hv, hcs'⟩
    · obtain ⟨a', hk', hf', hsg⟩ := finish_ok hf (val := .nilIface) (by simp only [VRel]) (k := fun fr => go ⟨fr, acs', t', nx', W'⟩) hk
      exact ⟨_, E', _, cs, w', .one (apply_recover_none hask hro' hr ht), ⟨hf', hcs', hm, Bot.same (by rw [hsg]) (hb _ hbot)⟩, hk'⟩
    · obtain ⟨a', hk', hf', hsg⟩ := finish_ok hf hv (k := fun fr => go ⟨fr, acs', t', nx', W'⟩) hk
      exact ⟨_, E', _, cs', w', .one (apply_recover_some hask hro' hr ht), ⟨hf', hcs', hm, Bot.same (by rw [hsg]) (hb _ hbot)⟩, hk'⟩
  | panic v =>
    obtain ⟨val, hr, hv⟩ := hrun
    simp only [afterNx, forceSV_eq] at h
    have hf' := raise_ok hf (c := [(v, false)]) (ch := [{ v := val, recovered := false }]) ⟨val, [], rfl, hv, rfl⟩
    obtain ⟨sg, tm, todo, df, md⟩ := a
    exact ⟨⟨⟨sg, tm, todo, df, raiseA md [(v, false)]⟩, acs, t', nx', W'⟩, E', _, cs, w', .one (apply_panic hask hr), ⟨hf', hcs, hm, Bot.same (a := ⟨sg, tm, todo, df, md⟩) (b := ⟨sg, tm, todo, df, raiseA md [(v, false)]⟩) rfl hbot⟩, h⟩
end after
end Go.Sx

namespace Go.Sx
open Go
set_option linter.unusedVariables false
set_option linter.unusedSimpArgs false

theorem eqBool_eq (a b : Bool) : eqBool a b = (a == b) := by cases a <;> cases b <;> rfl
theorem beq_some_bool (a b : Bool) : ((some a : Option Bool) == some b) = eqBool a b := by cases a <;> cases b <;> rfl
theorem notBool {E : Env} {v : SV} {u : Value} (h : VRel E v u) (h1 : ∀ b, v ≠ .bool b) (h2 : v ≠ .bad) (h3 : v ≠ .ubool) : ∀ b, u ≠ .bool b := by
  intro b e; subst e
  cases v <;> simp only [VRel] at h <;> first
    | exact h1 _ rfl
    | exact h2 rfl
    | exact h3 rfl
    | (cases h; done)
    | (obtain ⟨h, _⟩ := h; cases h; done)
    | (obtain ⟨_, _, h⟩ := h; cases h; done)
    | (obtain ⟨_, _, _, _, h⟩ := h; cases h; done)
    | (obtain ⟨_, _, _, _, _, h⟩ := h; cases h; done)
    | (obtain ⟨_, _, _, _, _, _, h⟩ := h; cases h; done)

theorem wanted_ok' {E : Env} {tm : Tr SV} {tmps : Array Value} {arr : Array Oper} {o : Oper} {b : Bool} (ht : ∀ j want oj (d : Nat), o.guard = some (j, want) → arr[j]? = some oj → oj.dst = some d → VRel E (tmGet tm d) (tmps.getD d undef)) (h : wantedA o.guard arr.toList tm = some b) :
    Region.wanted o (yielded arr tmps) = b := by
  unfold Region.wanted
  unfold wantedA at h
  cases hg : o.guard with
  | none => rw [hg] at h; cases h; rfl
  | some p =>
    obtain ⟨j, want⟩ := p
    rw [hg] at h; dsimp only at h ⊢
    rw [opAt_eq, Array.getElem?_toList] at h
    unfold yielded
    cases ho : arr[j]? with
    | none => rw [ho] at h; cases h; rfl
    | some oj =>
      rw [ho] at h; dsimp only at h
      cases hd : oj.dst with
      | none => rw [hd] at h; cases h; simp only [Option.bind_some, hd, Option.bind_none]; rfl
      | some d =>
        rw [hd] at h; dsimp only at h
        simp only [Option.bind_some, hd]
        have hr := ht j want oj d hg ho hd
        unfold tmGet at hr
        rw [Array.getD_eq_getD_getElem?] at hr
        have nb : (∀ b, (tmps[d]?).getD undef ≠ .bool b) → ((match tmps[d]? with | some (.bool b) => some b | _ => none : Option Bool) == some want) = false := by
          intro hn
          cases hx : tmps[d]? with
          | none => rfl
          | some u =>
            rw [hx] at hn
            cases u <;> first | rfl | exact absurd rfl (hn _)
        cases hv : tm.get d with
        | none =>
          rw [hv] at h hr; cases h
          exact nb (notBool hr (by simp [SV.undef]) (by simp [SV.undef]) (by simp [SV.undef]))
        | some v =>
          rw [hv] at h hr; dsimp only [wantedV] at h
          by_cases h1 : ∃ b, v = .bool b
          · obtain ⟨b', rfl⟩ := h1
            cases h
            simp only [VRel] at hr
            cases hx : tmps[d]? with
            | none => rw [hx] at hr; cases hr
            | some u =>
              rw [hx] at hr; simp only [Option.getD_some] at hr; subst hr
              exact beq_some_bool _ _
          · by_cases h2 : v = .bad
            · subst h2; cases h
            · by_cases h3 : v = .ubool
              · subst h3; cases h
              · have : b = false := by cases v <;> first | (cases h; rfl) | exact absurd ⟨_, rfl⟩ h1 | exact absurd rfl h2 | exact absurd rfl h3
                subst this
                exact nb (notBool hr (fun b e => h1 ⟨b, e⟩) h2 h3)
theorem wanted_ok {E : Env} {n : Nat} {tm : Tr SV} {tmps : Array Value} (ht : TRel E n tm tmps) {arr : Array Oper} {o : Oper} {b : Bool} (h : wantedA o.guard arr.toList tm = some b) :
    Region.wanted o (yielded arr tmps) = b := wanted_ok' (fun _ _ _ d _ _ _ => ht.get d) h

/-! ## Facts -/
def Out.fin (nx : Nat) : Out → Option (SV × List (Nat × Option ABlk) × Nat)
  | .pure v _ => some (v, [], nx)
  | .eff (.val v) d nn _ => some (v, d, nn)
  | _ => none
def FactsOk (T : PT) (P : Program) (facts : Facts) : Prop := ∀ f args t nx outs, facts f args t nx = some outs →
  ∀ E w vs H, (∀ n b, t.get n = some b → H n = some b) → R P E H w → (∀ out ∈ outs, ∀ v d nn, Out.fin nx out = some (v, d, nn) → ∀ n, nx ≤ n → n < nn → E n = none) → GRel T E → VRelL E args vs →
    Calls P f vs.toArray w fun e w' => ∃ out ∈ outs, ∃ v d nn, Out.fin nx out = some (v, d, nn) ∧ ∃ E' val, e = .returned val ∧ VRel E' v val ∧ Eff P E nx H w d nn E' w'

section
variable {T : PT} {P : Program} {lo : Nat} {E0 E : Env} {w0 w : World} {f0 : FuncId} {base : List Frame} {go : St → Bool} {facts : Facts}

theorem afterOut_ok (hT : TOk T P) {fr : Frame} {cs : List Frame} {s : Sem Next} {a : AFrame} {acs : List AFrame} {t : Tr ABlk} {nx : Nat} {W : List Nat}
    {fr1 : Frame} {w1 : World} (hask : Asks P fr (cs ++ base) w fr1 w1 s) (hf : FRel E a fr1) (hcs : FRelL E acs cs) (hm : Mem T P lo E0 w0 E t nx W w1) (hbot : Bot f0 a acs)
    {out : Out} (hop : OpOk P E nx t.get w1 s out) (h : afterOut T a acs t nx W out go = true) : Reach T P lo E0 w0 f0 base go (lone fr (cs ++ base) w) := by
  cases out with
  | pure v rd =>
    obtain ⟨val, hr, hv⟩ := hop
    exact afterNx_ok hT hask hf hcs hm hbot (nxt := .val v) ⟨.value val, hr, val, rfl, hv⟩ h
  | eff nxt d nn rd =>
    obtain ⟨E', w', he, hrun⟩ := hop
    simp only [afterOut, applyD_eq, forceNat_eq] at h
    exact afterNx_ok hT hask (hf.ext he.ext) (hcs.ext he.ext) (hm.eff he) hbot hrun h

theorem fin_after {a : AFrame} {acs : List AFrame} {t : Tr ABlk} {nx : Nat} {W : List Nat} {out : Out} {v : SV} {d : List (Nat × Option ABlk)} {nn : Nat} (hfin : Out.fin nx out = some (v, d, nn))
    (h : afterOut T a acs t nx W out go = true) : finishA a v false (fun fr => go ⟨fr, acs, applyT d t, nn, dW nx d ++ W⟩) = true := by
  cases out with
  | pure v' rd => cases hfin; exact h
  | eff nxt d' nn' rd =>
    cases nxt <;> simp only [Out.fin] at hfin <;> first | (cases hfin; done) | skip
    cases hfin
    simpa only [afterOut, applyD_eq, forceNat_eq, afterNx] using h

/-- a call by a fact -/
theorem factCall_ok (hF : FactsOk T P facts) {fr : Frame} {cs : List Frame} {s : Sem Next} {a : AFrame} {acs : List AFrame} {t : Tr ABlk} {nx : Nat} {W : List Nat} {f : FuncId} {args : List SV} {w1 : World}
    (hask : Asks P fr (cs ++ base) w fr w s) (hf : FRel E a fr) (hcs : FRelL E acs cs) (hm : Mem T P lo E0 w0 E t nx W w1) (hbot : Bot f0 a acs) (hrun : RunOk P E w w1 s (.enter f args))
    {outs : List Out} (hfact : facts f args t nx = some outs) (h : ∀ out ∈ outs, afterOut T a acs t nx W out go = true) : Reach T P lo E0 w0 f0 base go (lone fr (cs ++ base) w) := by
  obtain ⟨n, hr, vs, hvs, rfl⟩ := hrun
  obtain ⟨e, w', fr', ⟨out, hmem, v, d, nn, hfin, E', val, rfl, hv, he⟩, hcomes, hfn, hleave⟩ := hF f args t nx outs hfact E w1 vs t.get (fun _ _ x => x) hm.rel (fun _ _ _ _ _ _ n h1 _ => hm.free n h1) hm.glob hvs (fr :: (cs ++ base))
  have hk := fin_after hfin (h out hmem)
  obtain ⟨a', hk', hf', hsg⟩ := finish_ok (hf.ext he.ext) hv hk
  refine ⟨_, E', _, cs, w', .head (apply_enter hask hr) (Steps.trans hcomes (.one (step_leave_returned hleave))), ⟨hf', hcs.ext he.ext, hm.eff he, Bot.same (by rw [hsg]) hbot⟩, hk'⟩

theorem ask_op {fr : Frame} {cs : List Frame} {arr : Array Oper} {i : Nat} {idx : List Nat} {k : List Item} {o : Oper} (hm : fr.mode = .run) (htd : fr.todo = .inRegion arr (i :: idx) :: k) (ho : arr[i]? = some o)
    (hw : Region.wanted o (yielded arr fr.tmps) = true) : Asks P fr cs w fr w (o.semAt fr.roundOf (Act.mk fr.tmps fr.defers).eval) := by
  refine ⟨?_, by rw [htd]; simp⟩
  have := stepGR_op (P := P) (b := fr) (a := ⟨fr.tmps, fr.defers⟩) (k := k) (cs := cs) (w := w) (ops := arr) (i := i) (rest := idx) ho hw
  rw [← htd, run_self hm] at this
  exact congrArg GStep.bare this

theorem runOps_cons (ops : List Oper) (sg : Sig) (df : List ADef) (acs : List AFrame) (td : List AItem) (o : Oper) (rest : List Oper) (tm : Tr SV) (t : Tr ABlk) (nx : Nat) (w : List Nat) :
    runOps T facts ops sg df acs td go (o :: rest) tm t nx w =
      match wantedA o.guard ops tm with
      | none => false
      | some b => match b with
      | false => putTmp sg.n tm o.dst .undef false fun tm => runOps T facts ops sg df acs td go rest tm t nx w
      | true => (match isNext o.op with
        | some p => (match p with
          | (it, str) => (match oNext t nx str (evalOpnd T tm it) with
            | some outs => outsAll (fun out => afterOut T ⟨sg, tm, .inRegion ops (o :: rest) :: td, df, .run⟩ acs t nx w out go) outs
            | none => false))
        | none => (match aop T t nx (evalOpnd T tm) o.op with
          | none => false
          | some out => (match out with
            | .pure v _ => putTmp sg.n tm o.dst v false fun tm => runOps T facts ops sg df acs td go rest tm t nx w
            | .eff a d nn rd => (match a with
              | .val v => applyD d t fun t => forceNat nn fun nn => putTmp sg.n tm o.dst v false fun tm => runOps T facts ops sg df acs td go rest tm t nn (dW nx d ++ w)
              | .skip => applyD d t fun t => forceNat nn fun nn => putTmp sg.n tm o.dst .undef false fun tm => runOps T facts ops sg df acs td go rest tm t nn (dW nx d ++ w)
              | .enter f args => (match noEff d nn nx with
                | false => false
                | true => (match facts f args t nx with
                  | some outs => outsAll (fun out => afterOut T ⟨sg, tm, .inRegion ops (o :: rest) :: td, df, .run⟩ acs t nx w out go) outs
                  | none => afterNx T ⟨sg, tm, .inRegion ops (o :: rest) :: td, df, .run⟩ acs t nx w (.enter f args) go))
              | a => afterOut T ⟨sg, tm, .inRegion ops (o :: rest) :: td, df, .run⟩ acs t nx w (.eff a d nn rd) go)))) := rfl

theorem isNext_inv {op : Op} {p : Operand × Bool} (h : isNext op = some p) : op = .next p.1 p.2 := by
  cases op <;> simp only [isNext] at h <;> first | (cases h; done) | skip
  cases h; rfl
theorem outsAll_mem {k : Out → Bool} : ∀ {l : List Out}, outsAll k l = true → ∀ o ∈ l, k o = true
  | [], _, o, h => by cases h
  | x :: xs, h, o, ho => by
    simp only [outsAll] at h
    cases hx : k x with
    | false => rw [hx] at h; cases h
    | true =>
      rw [hx] at h
      rcases List.mem_cons.mp ho with rfl | y
      · exact hx
      · exact outsAll_mem h o y

open Classical in
/-- after an operation that yields, the others go on -/
theorem opStep_ok (hT : TOk T P) {sg : Sig} {tm : Tr SV} {df : List ADef} {acs : List AFrame} {cs : List Frame} {fr : Frame} {td : List AItem} {ops rest : List Oper} {o : Oper} {t' : Tr ABlk} {nx' : Nat} {W' : List Nat} {v : SV}
    (hf : FRel E ⟨sg, tm, .inRegion ops (o :: rest) :: td, df, .run⟩ fr) (hcs : FRelL E acs cs) {w2 : World} (hm : Mem T P lo E0 w0 E t' nx' W' w2) (hbot : Bot f0 ⟨sg, tm, .inRegion ops (o :: rest) :: td, df, .run⟩ acs)
    {val : Value} (hstep : Go.step P (lone fr (cs ++ base) w) = .next (lone (fr.finish val) (cs ++ base) w2)) (hv : VRel E v val)
    (ih : ∀ tm' fr', FRel E ⟨sg, tm', .inRegion ops rest :: td, df, .run⟩ fr' → runOps T facts ops sg df acs td go rest tm' t' nx' W' = true → Reach T P lo E0 w0 f0 base go (lone fr' (cs ++ base) w2))
    (h : putTmp sg.n tm o.dst v false (fun tm => runOps T facts ops sg df acs td go rest tm t' nx' W') = true) : Reach T P lo E0 w0 f0 base go (lone fr (cs ++ base) w) := by
  have h' : finishA ⟨sg, tm, .inRegion ops (o :: rest) :: td, df, .run⟩ v false (fun a => decide (∃ tm', a = ⟨sg, tm', .inRegion ops rest :: td, df, .run⟩ ∧ runOps T facts ops sg df acs td go rest tm' t' nx' W' = true)) = true := by
    rcases putTmp_inv h with ⟨e, hk⟩ | ⟨d, e, hd, hk⟩
    · simp only [finishA, putTmp, e]; exact decide_eq_true ⟨_, rfl, hk⟩
    · have hd' : Nat.ble (Nat.succ d) sg.n = true := Nat.ble_eq_true_of_le hd
      simp only [finishA, putTmp, e, hd', forceSV_eq, Tr.set_k]; exact decide_eq_true ⟨_, rfl, hk⟩
  obtain ⟨a', hk, hf', hsg⟩ := finish_ok hf hv h'
  obtain ⟨tm', rfl, hrun⟩ := of_decide_eq_true hk
  exact .head hstep (ih tm' _ hf' hrun)
end
end Go.Sx

namespace Go.Sx
open Go
set_option linter.unusedVariables false
set_option linter.unusedSimpArgs false

section
variable {T : PT} {P : Program} {lo : Nat} {E0 E : Env} {w0 w : World} {f0 : FuncId} {base : List Frame} {go : St → Bool} {facts : Facts}

theorem noEff_inv {d : List (Nat × Option ABlk)} {nn nx : Nat} (h : noEff d nn nx = true) : d = [] ∧ nn = nx := by
  cases d with
  | nil => exact ⟨rfl, beq_true h⟩
  | cons a b => cases h

theorem Mem.same {t : Tr ABlk} {nx nn : Nat} {W : List Nat} {w' : World} {E' : Env} (hm : Mem T P lo E0 w0 E t nx W w) (he : Eff P E nx t.get w [] nn E' w') (hn : nn = nx) : Mem T P lo E0 w0 E' t nx W w' := by
  have := hm.eff he
  subst hn
  simpa [applyT, dW] using this

theorem notDefer {t : Tr ABlk} {nx : Nat} {ev : Operand → SV} {op : Op} {out : Out} (h : aop T t nx ev op = some out) (hd : ∀ d, out ≠ .eff (.defer d) [] nx []) : ∀ c, op ≠ .defer c := by
  rintro c rfl
  have h' : oDefer nx ev c = some out := h
  obtain ⟨cal, args, tys⟩ := c
  unfold oDefer at h'
  dsimp only at h'
  cases cal <;> dsimp only at h' <;> first | (cases h'; done) | skip
  rename_i f
  cases hf : ev f <;> rw [hf] at h' <;> dsimp only at h' <;> first | (cases h'; done) | skip
  cases h'
  exact hd _ rfl

theorem runOps_ok (hT : TOk T P) (hF : FactsOk T P facts) {sg : Sig} {df : List ADef} {acs : List AFrame} {td : List AItem} {ops : List Oper} : ∀ (rest : List Oper) {tm : Tr SV} {t : Tr ABlk} {nx : Nat} {W : List Nat} {E : Env} {w : World} {fr : Frame} {cs : List Frame},
    FRel E ⟨sg, tm, .inRegion ops rest :: td, df, .run⟩ fr → FRelL E acs cs → Mem T P lo E0 w0 E t nx W w → Bot f0 ⟨sg, tm, .inRegion ops rest :: td, df, .run⟩ acs →
    runOps T facts ops sg df acs td go rest tm t nx W = true → Reach T P lo E0 w0 f0 base go (lone fr (cs ++ base) w)
  | [], tm, t, nx, W, E, w, fr, cs, hf, hcs, hm, hbot, h => by
    have hmode : fr.mode = .run := hf.md
    rcases hf.todo with ⟨i, is, htd, ⟨arr, idx, rfl, hops, hidx⟩, his⟩ | ⟨x, _⟩
    case inr => cases x
    cases idx with
    | cons j js => obtain ⟨o, l', e, _⟩ := hidx; cases e
    | nil =>
      have hs := stepR_region_end (P := P) (b := fr) (a := ⟨fr.tmps, fr.defers⟩) (k := is) (cs := cs ++ base) (w := w) (ops := arr)
      rw [← htd, run_self hmode] at hs
      refine ⟨⟨⟨sg, tm, td, df, .run⟩, acs, t, nx, W⟩, E, fr.atR ⟨fr.tmps, fr.defers⟩ is, cs, w, .one hs, ⟨⟨hf.fn, hf.tm, hf.kind, hf.round, .inl his, hf.df, rfl⟩, hcs, hm, hbot.fr⟩, h⟩
  | o :: rest, tm, t, nx, W, E, w, fr, cs, hf, hcs, hm, hbot, h => by
    have hmode : fr.mode = .run := hf.md
    have htodo : ∃ arr j js is, fr.todo = .inRegion arr (j :: js) :: is ∧ ops = arr.toList ∧ arr[j]? = some o := by
      rcases hf.todo with ⟨i, is, htd, ⟨arr, idx, rfl, hops, hidx⟩, his⟩ | ⟨x, _⟩
      case inr => cases x
      cases idx with
      | nil => simp [IdxRel] at hidx
      | cons j js => obtain ⟨o', l', e, ho, _⟩ := hidx; cases e; exact ⟨arr, j, js, is, htd, hops, ho⟩
    obtain ⟨arr, j, js, is, htd, hops, ho⟩ := htodo
    have hev : ∀ x, VRel E (evalOpnd T tm x) ((Act.mk fr.tmps fr.defers).eval x) := eval_rel hm.glob hf.tm fr.defers
    have ih : ∀ (tm' : Tr SV) (t' : Tr ABlk) (nx' : Nat) (W' : List Nat) (E' : Env) (w' : World) (fr' : Frame), FRelL E' acs cs → Mem T P lo E0 w0 E' t' nx' W' w' → FRel E' ⟨sg, tm', .inRegion ops rest :: td, df, .run⟩ fr' →
        runOps T facts ops sg df acs td go rest tm' t' nx' W' = true → Reach T P lo E0 w0 f0 base go (lone fr' (cs ++ base) w') :=
      fun tm' t' nx' W' E' w' fr' hcs' hm' hf' h' => runOps_ok hT hF rest hf' hcs' hm' hbot.fr h'
    rw [runOps_cons] at h
    cases hwa : wantedA o.guard ops tm with
    | none => rw [hwa] at h; cases h
    | some b =>
      rw [hwa] at h; dsimp only at h
      have hwant : Region.wanted o (yielded arr fr.tmps) = b := wanted_ok (n := sg.n) (tm := tm) hf.tm (by rw [← hops]; exact hwa)
      cases b with
      | false =>
        dsimp only at h
        have hs := stepR_op_skip (P := P) (b := fr) (a := ⟨fr.tmps, fr.defers⟩) (k := is) (cs := cs ++ base) (w := w) (ops := arr) (i := j) (rest := js) (by simp [ho, hwant])
        rw [← Frame.finish_atR, ← htd, run_self hmode] at hs
        exact opStep_ok hT hf hcs hm hbot hs (undef_rel E) (fun tm' fr' a b => ih tm' t nx W E w fr' hcs hm a b) h
      | true =>
        dsimp only at h
        have hask := ask_op (P := P) (cs := cs ++ base) (w := w) hmode htd ho hwant
        cases hnx : isNext o.op with
        | some p =>
          obtain ⟨it, str⟩ := p
          rw [hnx] at h; dsimp only at h
          cases hon : oNext t nx str (evalOpnd T tm it) with
          | none => rw [hon] at h; cases h
          | some outs =>
            rw [hon] at h; dsimp only at h
            have hop := isNext_inv hnx
            obtain ⟨out, hmem, hval⟩ := oNext_sound (ty := o.type) hm.rel hm.lt (hev it) hon
            have hk := outsAll_mem h out hmem
            rw [Oper.semAt_eq _ _ _ (by rw [hop]; intro c; simp)] at hask
            refine afterOut_ok hT hask hf hcs hm hbot (out := out) ?_ hk
            have := OpOk.ofVal (nx := nx) hval
            refine this.run ?_
            unfold execOp; rw [hop]
        | none =>
          rw [hnx] at h; dsimp only at h
          cases hao : aop T t nx (evalOpnd T tm) o.op with
          | none => rw [hao] at h; cases h
          | some out =>
            rw [hao] at h; dsimp only at h
            have hsound := aop_sound hT hm.rel (hm.free nx (Nat.le_refl _)) (fun n _ => hm.lt n) hev hao
            by_cases hdef : ∃ d, out = .eff (.defer d) [] nx []
            · obtain ⟨d, rfl⟩ := hdef
              dsimp only at h
              cases hro : sg.round with
              | some l => simp [afterOut, applyD, afterNx, hro] at h
              | none =>
                have hro' : fr.roundOf = none := by have := hf.round; rw [hro] at this; exact this
                rw [hro', Oper.semAt_none] at hask
                exact afterOut_ok hT hask hf hcs hm hbot hsound h
            · have hnd := notDefer hao (fun d e => hdef ⟨d, e⟩)
              rw [Oper.semAt_eq _ _ _ hnd] at hask
              cases out with
              | pure v rd =>
                obtain ⟨val, hr, hv⟩ := hsound
                exact opStep_ok hT hf hcs hm hbot (apply_value hask hr) hv (fun tm' fr' a b => ih tm' t nx W E w fr' hcs hm a b) h
              | eff a d nn rd =>
                dsimp only at h
                cases a with
                | val v =>
                  obtain ⟨E', w', he, n, hr, val, rfl, hv⟩ := hsound
                  simp only [applyD_eq, forceNat_eq] at h
                  have hm' := hm.eff he
                  exact opStep_ok hT (hf.ext he.ext) (hcs.ext he.ext) hm' hbot (apply_value hask hr) hv (fun tm' fr' a b => ih tm' _ _ _ E' w' fr' (hcs.ext he.ext) hm' a b) h
                | skip =>
                  obtain ⟨E', w', he, n, hr, rfl⟩ := hsound
                  simp only [applyD_eq, forceNat_eq] at h
                  have hm' := hm.eff he
                  exact opStep_ok hT (hf.ext he.ext) (hcs.ext he.ext) hm' hbot (apply_skip hask hr) (undef_rel E') (fun tm' fr' a b => ih tm' _ _ _ E' w' fr' (hcs.ext he.ext) hm' a b) h
                | enter f args =>
                  obtain ⟨E', w', he, hrun⟩ := hsound
                  dsimp only at h
                  cases hne : noEff d nn nx with
                  | false => rw [hne] at h; cases h
                  | true =>
                    rw [hne] at h; dsimp only at h
                    obtain ⟨rfl, rfl⟩ := noEff_inv hne
                    have hm' := hm.same he rfl
                    cases hfa : facts f args t nn with
                    | none =>
                      rw [hfa] at h; dsimp only at h
                      exact afterNx_ok hT hask (hf.ext he.ext) (hcs.ext he.ext) hm' hbot hrun h
                    | some outs =>
                      rw [hfa] at h; dsimp only at h
                      exact factCall_ok hF hask (hf.ext he.ext) (hcs.ext he.ext) hm' hbot hrun hfa (outsAll_mem h)
                | round l args => exact afterOut_ok hT hask hf hcs hm hbot hsound h
                | defer d => exact afterOut_ok hT hask hf hcs hm hbot hsound h
                | recover => exact afterOut_ok hT hask hf hcs hm hbot hsound h
                | panic v => exact afterOut_ok hT hask hf hcs hm hbot hsound h
end
end Go.Sx

namespace Go.Sx
open Go
set_option linter.unusedVariables false
set_option linter.unusedSimpArgs false

/-- a region that draws its order, by its text's order -/
def DrawOk (T : PT) (P : Program) (facts : Facts) : Prop := ∀ (arr : Array Oper) (n : Nat) (tm : Tr SV) (t : Tr ABlk) (nx : Nat) (k : Tr SV → Tr ABlk → Nat → List Nat → Bool),
  drawRun T facts arr.toList n t k arr.toList 0 [] [] tm nx = true →
  ∀ (E : Env) (w : World) (fr : Frame) (is : List Item) (cs : List Frame) (tau : Nat), R P E t.get w → (∀ m, nx ≤ m → E m = none) → GRel T E → fr.mode = .run →
    fr.todo = .inRegion arr (Region.linearise .any arr tau) :: is → TRel E n tm fr.tmps →
    ∃ tm' t' nx' W' E' w' tmps', Go.Steps P (lone fr cs w) (lone { fr with todo := is, tmps := tmps' } cs w') ∧ TRel E' n tm' tmps' ∧ Mem T P nx E w E' t' nx' W' w' ∧ k tm' t' nx' W' = true

section
variable {T : PT} {P : Program} {lo : Nat} {E0 E : Env} {w0 w : World} {f0 : FuncId} {base : List Frame} {go : St → Bool} {facts : Facts}
  {sg : Sig} {tm : Tr SV} {td : List AItem} {df : List ADef} {acs : List AFrame} {t : Tr ABlk} {nx : Nat} {W : List Nat} {fr : Frame} {cs : List Frame}

theorem todo_ok {td' : List AItem} (hf : FRel E ⟨sg, tm, td, df, .run⟩ fr) {is' : List Item} (his : IRelL E td' is') : FRel E ⟨sg, tm, td', df, .run⟩ (fr.atR ⟨fr.tmps, fr.defers⟩ is') :=
  ⟨hf.fn, hf.tm, hf.kind, hf.round, .inl his, hf.df, rfl⟩

theorem plain_ok {td' : List AItem} (hf : FRel E ⟨sg, tm, td, df, .run⟩ fr) (hcs : FRelL E acs cs) (hm : Mem T P lo E0 w0 E t nx W w) (hbot : Bot f0 ⟨sg, tm, td, df, .run⟩ acs) {is' : List Item} (his : IRelL E td' is')
    (hs : Go.step P (lone (fr.atR ⟨fr.tmps, fr.defers⟩ fr.todo) (cs ++ base) w) = .next (lone (fr.atR ⟨fr.tmps, fr.defers⟩ is') (cs ++ base) w)) (h : go ⟨⟨sg, tm, td', df, .run⟩, acs, t, nx, W⟩ = true) : Reach T P lo E0 w0 f0 base go (lone fr (cs ++ base) w) := by
  rw [run_self hf.md] at hs
  exact ⟨_, E, _, cs, w, .one hs, ⟨todo_ok hf his, hcs, hm, hbot.fr⟩, h⟩

/-- a block of the call's own is turned, without a new name -/
theorem Mem.turn (hm : Mem T P lo E0 w0 E t nx W w) {l : Nat} {b b' : ABlk} (hl : t.get l = some b) (hrw : rwB b = true) (hrw' : rwB b' = true) {e : Ent} (he : E l = some e) {o : Obj} (hb : BRel P E e b' (putObj w e.blk o)) :
    Mem T P lo E0 w0 E (t.put l (some b')) nx (l :: W) (putObj w e.blk o) := by
  have hlt := hm.lt _ _ hl
  have he' := iter_eff hm.rel hlt hl hrw hrw' he hb
  have := hm.eff he'
  have e1 : dW nx [(l, some b')] = [l] := dW_one nx l _ hlt
  rw [e1] at this
  exact this

/-- what a jump is, as code; and how a frame that is not a round leaves by it -/
theorem leave_ok (hf : FRel E ⟨sg, tm, td, df, .run⟩ fr) (hcs : FRelL E acs cs) (hm : Mem T P lo E0 w0 E t nx W w) (hbot : Bot f0 ⟨sg, tm, td, df, .run⟩ acs) {jump : Option Code}
    (hret : fr.roundOf = none → (jump = none ∨ jump = some .ret) → Go.step P (lone fr (cs ++ base) w) = .next (lone { fr with mode := .returning } (cs ++ base) w))
    (hround : ∀ l v w' c cs', fr.roundOf = some l → fr.kind = .normal → (Instr.endRound l jump).run P w = .ok v w' → Go.step P (lone fr (c :: cs') w) = .next (lone (c.finish v) cs' w'))
    (h : leaveA sg tm df acs t nx W jump go = true) : Reach T P lo E0 w0 f0 base go (lone fr (cs ++ base) w) := by
  obtain ⟨fn, n, kind, round⟩ := sg
  unfold leaveA at h
  dsimp only at h
  cases round with
  | none =>
    dsimp only at h
    have hro : fr.roundOf = none := hf.round
    have hj : jump = none ∨ jump = some .ret := by
      cases jump with
      | none => exact .inl rfl
      | some c => cases c <;> first | exact .inr rfl | (cases h; done)
    have hk : go ⟨⟨⟨fn, n, kind, none⟩, tm, [], df, .returning⟩, acs, t, nx, W⟩ = true := by
      rcases hj with rfl | rfl <;> exact h
    exact ⟨⟨⟨⟨fn, n, kind, none⟩, tm, [], df, .returning⟩, acs, t, nx, W⟩, E, _, cs, w, .one (hret hro hj), ⟨⟨hf.fn, hf.tm, hf.kind, hf.round, .inr ⟨rfl, by simp⟩, hf.df, rfl⟩, hcs, hm, hbot.fr⟩, hk⟩
  | some l =>
    dsimp only at h
    obtain ⟨st, pd, f, m, tm', ps, asg, body, d, e, tmps, e2, hk, hl, he, ht, hd, ho⟩ := loop_inv hm h
    cases acs with
    | nil => cases hk
    | cons c acs =>
      obtain ⟨cf, cfs, rfl, hcf, hcfs⟩ := hcs
      dsimp only at hk
      obtain ⟨e', he', hro⟩ := hf.round
      rw [he] at he'; cases he'
      cases kind <;> dsimp only at hk <;> first | (cases hk; done) | skip
      have hkd : fr.kind = .normal := hf.kind
      rw [Tr.set_k] at hk
      have hget : (getObj e.blk).run P w = .ok (.loop { state := st, pending := pd, fn := f, tmps, params := ps.toArray, assign := asg, body, defers := e2.blk }) w := by simp [getObj, Sem.run, ho]
      have hset := run_setObj (P := P) (w := w) (o := .loop { state := (if jump.isNone then .ready else .done), pending := jump, fn := f, tmps, params := ps.toArray, assign := asg, body, defers := e2.blk }) ho (by simp)
      have hend : (Instr.endRound e.blk jump).run P w = .ok (.bool jump.isNone) (putObj w e.blk (.loop { state := (if jump.isNone then .ready else .done), pending := jump, fn := f, tmps, params := ps.toArray, assign := asg, body, defers := e2.blk })) := by
        simp only [Instr.endRound, Instr.getLoop, Sem.run_bind, hget, Result.andThen_ok, Sem.run_pure, hset]
      have hs := hround e.blk _ _ cf (cfs ++ base) hro hkd hend
      have hm' := hm.turn hl (b' := .loop (jumpState jump) jump f m tm' ps asg body d) rfl rfl he
        (o := .loop { state := (if jump.isNone then .ready else .done), pending := jump, fn := f, tmps, params := ps.toArray, assign := asg, body, defers := e2.blk })
        ⟨_, putObj_same ho, tmps, e2, ht, hd, by cases jump <;> rfl⟩
      obtain ⟨a', hk', hf', hsg⟩ := finish_ok hcf (v := .bool jump.isNone) (val := .bool jump.isNone) (by simp only [VRel]) hk
      exact ⟨⟨a', acs, _, nx, l :: W⟩, E, _, cfs, _, .one hs, ⟨hf', hcfs, hm', Bot.same (a := c) (b := a') (by rw [hsg]) hbot⟩, hk'⟩

theorem run_begin {l : Nat} {st : LoopState} {pd : Option Code} {f : FuncId} {tmps : Array Value} {ps : Array Tmp} {asg body : Code} {dd : Nat}
    (ho : w.heap[l]? = some (.loop { state := .ready, pending := pd, fn := f, tmps, params := ps, assign := asg, body, defers := dd })) :
    (Instr.beginRound l).run P w = .ok () (putObj w l (.loop { state := .busy, pending := pd, fn := f, tmps, params := ps, assign := asg, body, defers := dd })) := by
  have hget : (getObj l).run P w = .ok (.loop { state := .ready, pending := pd, fn := f, tmps, params := ps, assign := asg, body, defers := dd }) w := by simp [getObj, Sem.run, ho]
  have hset := run_setObj (P := P) (w := w) (o := .loop { state := .busy, pending := pd, fn := f, tmps, params := ps, assign := asg, body, defers := dd }) ho (by simp)
  simp only [Instr.beginRound, Instr.getLoop, Sem.run_bind, hget, Result.andThen_ok, Sem.run_pure, hset]

theorem begin_ok (hf : FRel E ⟨sg, tm, .beginRound :: td, df, .run⟩ fr) (hcs : FRelL E acs cs) (hm : Mem T P lo E0 w0 E t nx W w) (hbot : Bot f0 ⟨sg, tm, .beginRound :: td, df, .run⟩ acs)
    (h : runBegin sg tm df acs t nx W go td = true) : Reach T P lo E0 w0 f0 base go (lone fr (cs ++ base) w) := by
  obtain ⟨fn, n, kind, round⟩ := sg
  unfold runBegin at h
  dsimp only at h
  rcases hf.todo with ⟨i, is, htd, rfl, his⟩ | ⟨x, _⟩
  case inr => cases x
  cases round with
  | none => cases h
  | some l =>
    dsimp only at h
    obtain ⟨st, pd, f, m, tm', ps, asg, body, d, e, tmps, e2, hk, hl, he, ht, hd, ho⟩ := loop_inv hm h
    obtain ⟨e', he', hro⟩ := hf.round
    rw [he] at he'; cases he'
    cases st <;> dsimp only at hk <;> first | (cases hk; done) | skip
    rw [Tr.set_k] at hk
    have hs := stepR_beginRound (P := P) (b := fr) (a := ⟨fr.tmps, fr.defers⟩) (k := is) (cs := cs ++ base) hro (run_begin (P := P) (w := w) (st := .ready) ho)
    rw [← htd, run_self hf.md] at hs
    have hm' := hm.turn hl (b' := .loop .busy pd f m tm' ps asg body d) rfl rfl he (o := .loop { state := .busy, pending := pd, fn := f, tmps, params := ps.toArray, assign := asg, body, defers := e2.blk }) ⟨_, putObj_same ho, tmps, e2, ht, hd, rfl⟩
    exact ⟨_, E, _, cs, _, .one hs, ⟨todo_ok hf his, hcs, hm', hbot.fr⟩, hk⟩

theorem stepR_endRange {b : Frame} {a : Act} {k : List Item} {l : Nat} {jump : Option Code} {w' : World} (h : (Instr.endLoop l).run P w = .ok jump w') :
    Go.step P (lone (b.atR a (.endRangeFunc l :: k)) cs w) = .next (lone (b.atR a ((jump.map Item.code).toList ++ k)) cs w') :=
  step_lone_go (by simp [stepG, stepG.exec, Frame.atR, Sem.runT_eq, h, GStep.bare_after])

theorem end_ok {l : Nat} (hf : FRel E ⟨sg, tm, .endRangeFunc l :: td, df, .run⟩ fr) (hcs : FRelL E acs cs) (hm : Mem T P lo E0 w0 E t nx W w) (hbot : Bot f0 ⟨sg, tm, .endRangeFunc l :: td, df, .run⟩ acs)
    (h : runEnd sg tm df acs t nx W go td l = true) : Reach T P lo E0 w0 f0 base go (lone fr (cs ++ base) w) := by
  unfold runEnd at h
  obtain ⟨st, pd, f, m, tm', ps, asg, body, d, e, tmps, e2, hk, hl, he, ht, hd, ho⟩ := loop_inv hm h
  rcases hf.todo with ⟨i, is, htd, ⟨e', he', rfl⟩, his⟩ | ⟨x, _⟩
  case inr => cases x
  rw [he] at he'; cases he'
  have hget : (getObj e.blk).run P w = .ok (.loop { state := st, pending := pd, fn := f, tmps, params := ps.toArray, assign := asg, body, defers := e2.blk }) w := by simp [getObj, Sem.run, ho]
  have hset := run_setObj (P := P) (w := w) (o := .loop { state := .exhausted, pending := pd, fn := f, tmps, params := ps.toArray, assign := asg, body, defers := e2.blk }) ho (by simp)
  have hst : (st == .busy) = false ∧ (t.set l (some (.loop .exhausted pd f m tm' ps asg body d)) fun t => go ⟨⟨sg, tm, jumpTo pd td, df, .run⟩, acs, t, nx, l :: W⟩) = true := by
    cases st <;> first | (cases hk; done) | exact ⟨rfl, hk⟩
  obtain ⟨hst, hk⟩ := hst
  rw [Tr.set_k] at hk
  have hend : (Instr.endLoop e.blk).run P w = .ok pd (putObj w e.blk (.loop { state := .exhausted, pending := pd, fn := f, tmps, params := ps.toArray, assign := asg, body, defers := e2.blk })) := by
    simp only [Instr.endLoop, Instr.getLoop, Sem.run_bind, hget, Result.andThen_ok, Sem.run_pure, hst, Bool.false_eq_true, if_false, hset]
  have hs := stepR_endRange (P := P) (b := fr) (a := ⟨fr.tmps, fr.defers⟩) (k := is) (cs := cs ++ base) hend
  rw [← htd, run_self hf.md] at hs
  have hm' := hm.turn hl (b' := .loop .exhausted pd f m tm' ps asg body d) rfl rfl he (o := .loop { state := .exhausted, pending := pd, fn := f, tmps, params := ps.toArray, assign := asg, body, defers := e2.blk }) ⟨_, putObj_same ho, tmps, e2, ht, hd, rfl⟩
  have his' : IRelL E (jumpTo pd td) ((pd.map Item.code).toList ++ is) := by
    cases pd with
    | none => exact his
    | some j => exact ⟨_, _, rfl, rfl, his⟩
  exact ⟨_, E, _, cs, _, .one hs, ⟨todo_ok hf his', hcs, hm', hbot.fr⟩, hk⟩

theorem rangeAsk {b : Frame} {a : Act} {k : List Item} {cs : List Frame} {g : Operand} {ps : Array Tmp} {assign body : Code} {l : Nat} {mark : List Deferred} {w₁ : World}
    (he : (Instr.enterLoop b.fn a.tmps ps assign body b.roundOf).run P w = .ok (l, mark) w₁) :
    Asks P (b.atR a (.code (.rangeFunc g ps assign body) :: k)) cs w (b.atR { a with defers := mark ++ a.defers } (.inRangeFunc l :: k)) w₁
      (do let d ← resolve a.eval { callee := .value g, args := #[.const (.func (.yield l) #[] #[])], argTypes := #[] } 0; invoke d.target d.args) := by
  refine ⟨?_, by simp [Frame.atR]⟩
  have hev := Frame.eval_atR b { a with defers := mark ++ a.defers } (.inRangeFunc l :: k)
  simp only [Frame.atR] at hev
  simp only [stepG, stepG.exec, Frame.atR, Sem.runT_eq, he, GStep.bare_after, hev]
  rfl
end
end Go.Sx

namespace Go.Sx
open Go
set_option linter.unusedVariables false
set_option linter.unusedSimpArgs false

section
variable {T : PT} {P : Program} {lo : Nat} {E0 E : Env} {w0 w : World} {f0 : FuncId} {base : List Frame} {go : St → Bool} {facts : Facts}
  {sg : Sig} {tm : Tr SV} {td : List AItem} {df : List ADef} {acs : List AFrame} {t : Tr ABlk} {nx : Nat} {W : List Nat} {fr : Frame} {cs : List Frame}

/-! ## Results -/
def readVar (tmps : Array Value) (r : ResultVar) : Sem Value := match r with
  | .tmp t => pure (tmps.getD t undef)
  | .cell a t => do loadVar t (← asAddr (tmps.getD a undef))
theorem results_eq (fn : Func) (tmps : Array Value) : results fn tmps = (do
  let vs ← fn.results.mapM (readVar tmps)
  pure (if h : vs.size = 1 then vs[0] else .tuple vs)) := rfl
theorem readVar_ok {n : Nat} {tmps : Array Value} (hT : TOk T P) (hR : R P E t.get w) (ht : TRel E n tm tmps) {r : ResultVar} {v : SV} (hv : readA T tm t r = some v) : ∃ u, (readVar tmps r).run P w = .ok u w ∧ VRel E v u := by
  cases r with
  | tmp x => cases hv; exact ⟨_, rfl, ht.get x⟩
  | cell a ty =>
    simp only [readA] at hv
    cases hl : oLoad T t ty (tmGet tm a) with
    | none => rw [hl] at hv; cases hv
    | some o =>
      rw [hl] at hv; dsimp only at hv
      obtain ⟨v', rd, rfl, val, h1, h2⟩ := oLoad_sound hT hR (ht.get a) hl
      cases hv
      refine ⟨val, ?_, h2⟩
      have hl' := hl
      unfold oLoad at hl'
      obtain ⟨m, off, hp, _⟩ := onPtr_inv hl' (by simp)
      have hr := ht.get a
      rw [hp] at hr; simp only [VRel] at hr
      obtain ⟨e, he, hv⟩ := hr
      simp only [readVar]
      rw [hv] at h1 ⊢
      simpa [Instr.loadAt, Instr.sureAddr, asAddr] using h1
theorem results_go {n : Nat} {tmps : Array Value} (hT : TOk T P) (hR : R P E t.get w) (ht : TRel E n tm tmps) : ∀ (rs : List ResultVar) {vs : List SV}, resultsA T tm t rs = some vs →
    ∃ us, (rs.mapM (readVar tmps)).run P w = .ok us w ∧ VRelL E vs us
  | [], vs, h => by cases h; exact ⟨[], by simp, VRelL.nil⟩
  | r :: rs, vs, h => by
    simp only [resultsA] at h
    cases hv : readA T tm t r with
    | none => rw [hv] at h; cases h
    | some v =>
      rw [hv] at h; dsimp only at h
      obtain ⟨u, hu, huv⟩ := readVar_ok hT hR ht hv
      cases hr : resultsA T tm t rs with
      | none => rw [hr] at h; cases h
      | some vs' =>
        rw [hr] at h; cases h
        obtain ⟨us, h1, h2⟩ := results_go hT hR ht rs hr
        refine ⟨u :: us, ?_, VRelL.cons huv h2⟩
        rw [List.mapM_cons]
        simp only [Sem.run_bind, hu, Result.andThen_ok, h1, Sem.run_pure]

theorem results_ok {fn : Func} {n : Nat} {tmps : Array Value} (hT : TOk T P) (hR : R P E t.get w) (ht : TRel E n tm tmps) {vs : List SV} (h : resultsA T tm t fn.results.toList = some vs) :
    ∃ val, (results fn tmps).run P w = .ok val w ∧ VRel E (tupleOf vs) val := by
  obtain ⟨us, h1, h2⟩ := results_go hT hR ht fn.results.toList h
  have hmap : (fn.results.mapM (readVar tmps)).run P w = .ok us.toArray w := by
    rw [Array.mapM_eq_mapM_toList]
    simp only [map_eq_pure_bind, Sem.run_bind, h1, Result.andThen_ok, Sem.run_pure]
  refine ⟨if h : us.toArray.size = 1 then us.toArray[0] else .tuple us.toArray, ?_, ?_⟩
  · rw [results_eq, Sem.run_bind, hmap]
    simp only [Result.andThen_ok, Sem.run_pure]
  · have hl := h2.length
    match vs, us, h2, hl with
    | [], [], h2, _ => simp only [tupleOf]; exact undef_rel E
    | [v], [u], h2, _ => obtain ⟨u', _, e, hu, _⟩ := h2.cons_inv; cases e; simpa [tupleOf] using hu
    | v :: v' :: vs, u :: u' :: us, h2, _ =>
      have : ¬ (u :: u' :: us).toArray.size = 1 := by simp
      rw [dif_neg this]
      simp only [tupleOf, VRel]
      exact ⟨_, h2, rfl⟩
end
end Go.Sx

namespace Go.Sx
open Go
set_option linter.unusedVariables false
set_option linter.unusedSimpArgs false

/-- a call's end -/
def Final (T : PT) (P : Program) (lo : Nat) (E0 : Env) (w0 : World) (f0 : FuncId) (base : List Frame) (fin : SV → Tr ABlk → Nat → List Nat → Bool) (m : Machine) : Prop :=
  ∃ v t nx W E fr w val, Go.Steps P m (lone fr base w) ∧ fr.fn = f0 ∧ fr.leaving P w (.returned val) ∧ VRel E v val ∧ Mem T P lo E0 w0 E t nx W w ∧ fin v t nx W = true

section
variable {T : PT} {P : Program} {lo : Nat} {E0 E : Env} {w0 w : World} {f0 : FuncId} {base : List Frame} {go : St → Bool} {fin : SV → Tr ABlk → Nat → List Nat → Bool} {facts : Facts}
  {sg : Sig} {tm : Tr SV} {td : List AItem} {df : List ADef} {acs : List AFrame} {t : Tr ABlk} {nx : Nat} {W : List Nat} {fr : Frame} {cs : List Frame}

/-! ## Ranges over functions -/
theorem run_enterLoop_none (fn : FuncId) (tmps : Array Value) (ps : Array Tmp) (a b : Code) : (Instr.enterLoop fn tmps ps a b none).run P w =
    .ok (w.heap.size + 1, [{ target := .collected w.heap.size, args := #[] }]) ((w.alloc (.deferred (some []))).alloc (.loop { state := .ready, pending := none, fn, tmps, params := ps, assign := a, body := b, defers := w.heap.size })) := by
  simp only [Instr.enterLoop, Sem.run_bind, run_newObj, Result.andThen_ok, Sem.run_pure, Array.size_push]
  rfl

theorem new_pair (hm : Mem T P lo E0 w0 E t nx W w) {b1 b2 : ABlk} {o1 o2 : Obj} (hb1 : ∀ E', Ext E E' → BRel P E' ⟨w.heap.size, 0, 0, []⟩ b1 (w.alloc o1))
    (hb2 : ∀ E', Ext (envPut E nx ⟨w.heap.size, 0, 0, []⟩) E' → BRel P E' ⟨w.heap.size + 1, 0, 0, []⟩ b2 ((w.alloc o1).alloc o2)) :
    Mem T P lo E0 w0 (envPut (envPut E nx ⟨w.heap.size, 0, 0, []⟩) (nx + 1) ⟨w.heap.size + 1, 0, 0, []⟩) ((t.put nx (some b1)).put (nx + 1) (some b2)) (nx + 2) W ((w.alloc o1).alloc o2) := by
  have h1 := hm.eff (new_blk hm.rel (hm.free nx (Nat.le_refl _)) (b := b1) (o := o1) hb1)
  have d1 : ∀ b, dW nx [(nx, b)] = [] := fun b => by
    simp only [dW]
    cases h : Nat.ble (Nat.succ nx) nx with
    | true => have := ble_true h; omega
    | false => rfl
  rw [d1] at h1
  have hs : (w.alloc o1).heap.size = w.heap.size + 1 := by simp
  have h2 := h1.eff (new_blk h1.rel (h1.free (nx + 1) (Nat.le_refl _)) (b := b2) (o := o2) (by rw [hs]; exact hb2))
  have d2 : ∀ b, dW (nx + 1) [(nx + 1, b)] = [] := fun b => by
    simp only [dW]
    cases h : Nat.ble (Nat.succ (nx + 1)) (nx + 1) with
    | true => have := ble_true h; omega
    | false => rfl
  simp only [d2, List.nil_append, hs, applyT] at h2
  exact h2

theorem rangeCall_ok (hT : TOk T P) {b : Frame} {a : Act} {k : List Item} {g : Operand} {ps : Array Tmp} {assign body : Code} {l : Nat} {e : Ent} {mark : List Deferred} {w₁ : World}
    (he : (Instr.enterLoop b.fn a.tmps ps assign body b.roundOf).run P w = .ok (e.blk, mark) w₁) (hm : Mem T P lo E0 w0 E t nx W w₁) (hl : E l = some e)
    (hf : FRel E ⟨sg, tm, .inRangeFunc l :: td, df, .run⟩ (b.atR { a with defers := mark ++ a.defers } (.inRangeFunc e.blk :: k))) (hcs : FRelL E acs cs) (hbot : Bot f0 ⟨sg, tm, .inRangeFunc l :: td, df, .run⟩ acs)
    (h : rangeCall T ⟨sg, tm, .inRangeFunc l :: td, df, .run⟩ acs t nx W (evalOpnd T tm g) l go = true) : Reach T P lo E0 w0 f0 base go (lone (b.atR a (.code (.rangeFunc g ps assign body) :: k)) (cs ++ base) w) := by
  have hask := rangeAsk (P := P) (k := k) (cs := cs ++ base) (g := g) (ps := ps) (assign := assign) (body := body) he
  unfold rangeCall at h
  have hev := eval_rel hm.glob (n := sg.n) (tmps := a.tmps) hf.tm a.defers g
  cases hg : evalOpnd T tm g with
  | func fn first cap =>
    rw [hg] at h hev; dsimp only at h
    simp only [VRel] at hev
    obtain ⟨va, vb, h1, h2, h3⟩ := hev
    cases hi : invokeA T t nx fn cap (first ++ [.yield l]) with
    | none => rw [hi] at h; cases h
    | some out =>
      rw [hi] at h; dsimp only at h
      have hy : VRelL E [.yield l] [.func (.yield e.blk) #[] #[]] := VRelL.cons (by simp only [VRel]; exact ⟨e, hl, rfl⟩) VRelL.nil
      have hs := invokeA_sound hT hm.rel h2 (h1.append hy) hi
      refine afterOut_ok hT hask hf hcs hm hbot (hs.run ?_) h
      have ea : (⟨a.tmps, a.defers⟩ : Act).eval g = a.eval g := rfl
      rw [ea] at h3
      have hmp : (#[Operand.const (.func (.yield e.blk) #[] #[])].map a.eval) = #[.func (.yield e.blk) #[] #[]] := by simp [Act.eval]
      simp only [resolve, h3, Deferred.ofValue, Sem.run_bind, Sem.run_pure, Result.andThen_ok, hmp]
      rw [← List.append_toArray]
  | _ => rw [hg] at h; cases h

theorem range_ok (hT : TOk T P) {g : Operand} {ps : Array Tmp} {assign body : Code} (hf : FRel E ⟨sg, tm, .code (.rangeFunc g ps assign body) :: td, df, .run⟩ fr) (hcs : FRelL E acs cs) (hm : Mem T P lo E0 w0 E t nx W w)
    (hbot : Bot f0 ⟨sg, tm, .code (.rangeFunc g ps assign body) :: td, df, .run⟩ acs) (h : runRange T sg tm df acs t nx W go td g ps.toList assign body = true) : Reach T P lo E0 w0 f0 base go (lone fr (cs ++ base) w) := by
  rcases hf.todo with ⟨i, is, htd, rfl, his⟩ | ⟨x, _⟩
  case inr => cases x
  have hself := run_self (fr := fr) hf.md
  rw [htd] at hself
  rw [← hself]
  obtain ⟨fn, n, kind, round⟩ := sg
  unfold runRange at h
  dsimp only at h
  cases round with
  | none =>
    dsimp only at h
    have hro : fr.roundOf = none := hf.round
    simp only [applyD_eq, forceNat_eq, applyT] at h
    have hm' := new_pair hm (b1 := .deferred (some [])) (b2 := .loop .ready none fn n tm ps.toList assign body nx) (o1 := .deferred (some []))
      (o2 := .loop { state := .ready, pending := none, fn := fr.fn, tmps := fr.tmps, params := ps, assign, body, defers := w.heap.size })
      (fun E' _ => ⟨[], alloc_new w _, rfl⟩)
      (fun E' hE => ⟨_, by have := alloc_new (w.alloc (.deferred (some []))) (.loop { state := .ready, pending := none, fn := fr.fn, tmps := fr.tmps, params := ps, assign, body, defers := w.heap.size }); simpa using this,
        fr.tmps, ⟨w.heap.size, 0, 0, []⟩, (hf.tm.ext ((envPut_ext (hm.free nx (Nat.le_refl _))).trans hE)), hE _ _ (envPut_same _ _), by simp [hf.fn]⟩)
    have hx : Ext E (envPut (envPut E nx ⟨w.heap.size, 0, 0, []⟩) (nx + 1) ⟨w.heap.size + 1, 0, 0, []⟩) := by
      have h1 := envPut_ext (e := ⟨w.heap.size, 0, 0, []⟩) (hm.free nx (Nat.le_refl _))
      have h2 : envPut E nx ⟨w.heap.size, 0, 0, []⟩ (nx + 1) = none := by
        unfold envPut; rw [if_neg (by omega)]; exact hm.free (nx + 1) (by omega)
      exact h1.trans (envPut_ext h2)
    have hn : envPut (envPut E nx ⟨w.heap.size, 0, 0, []⟩) (nx + 1) ⟨w.heap.size + 1, 0, 0, []⟩ nx = some ⟨w.heap.size, 0, 0, []⟩ := by
      unfold envPut; rw [if_neg (by omega), if_pos rfl]
    have henter := run_enterLoop_none (P := P) (w := w) fr.fn fr.tmps ps assign body
    refine rangeCall_ok (e := ⟨w.heap.size + 1, 0, 0, []⟩) (l := nx + 1) hT (by rw [hro]; exact henter) hm' (envPut_same _ _) ?_ (hcs.ext hx) hbot.fr h
    exact ⟨hf.fn, hf.tm.ext hx, hf.kind, hf.round.ext hx, .inl ⟨_, _, rfl, ⟨_, envPut_same _ _, rfl⟩, his.ext hx⟩, ⟨_, _, ⟨_, hn, rfl⟩, hf.df.ext hx, rfl⟩, rfl⟩
  | some o =>
    dsimp only at h
    obtain ⟨st, pd, f, m, tm', ps', asg, body', d, e, tmps, e2, hk, hl, he, ht, hd, ho⟩ := loop_inv hm h
    simp only [applyD_eq, forceNat_eq, applyT] at hk
    obtain ⟨e', he', hro⟩ := hf.round
    rw [he] at he'; cases he'
    have hget : (getObj e.blk).run P w = .ok (.loop { state := st, pending := pd, fn := f, tmps, params := ps'.toArray, assign := asg, body := body', defers := e2.blk }) w := by simp [getObj, Sem.run, ho]
    have henter : (Instr.enterLoop fr.fn fr.tmps ps assign body (some e.blk)).run P w = .ok (w.heap.size, []) (w.alloc (.loop { state := .ready, pending := none, fn := fr.fn, tmps := fr.tmps, params := ps, assign, body, defers := e2.blk })) := by
      simp only [Instr.enterLoop, Instr.getLoop, Sem.run_bind, hget, Result.andThen_ok, Sem.run_pure, run_newObj]; rfl
    have hnb := new_blk hm.rel (hm.free nx (Nat.le_refl _)) (b := .loop .ready none fn n tm ps.toList assign body d) (o := .loop { state := .ready, pending := none, fn := fr.fn, tmps := fr.tmps, params := ps, assign, body, defers := e2.blk })
      (fun E' hE => ⟨_, alloc_new w _, fr.tmps, e2, hf.tm.ext hE, hE _ _ hd, by simp [hf.fn]⟩)
    have hm' := hm.eff hnb
    have d1 : ∀ b, dW nx [(nx, b)] = [] := fun b => by
      simp only [dW]
      cases h : Nat.ble (Nat.succ nx) nx with
      | true => have := ble_true h; omega
      | false => rfl
    rw [d1] at hm'
    have hx := hnb.ext
    refine rangeCall_ok (e := ⟨w.heap.size, 0, 0, []⟩) (l := nx) hT (mark := []) (by rw [hro]; exact henter) hm' (envPut_same _ _) ?_ (hcs.ext hx) hbot.fr hk
    exact ⟨hf.fn, hf.tm.ext hx, hf.kind, hf.round.ext hx, .inl ⟨_, _, rfl, ⟨_, envPut_same _ _, rfl⟩, his.ext hx⟩, hf.df.ext hx, rfl⟩

/-! ## Deferred calls, and the end of a frame -/
theorem step_defer' {fr : Frame} {cs : List Frame} {w w' : World} {fn : Fn} {cap dargs : Array Value} {ds : List Deferred} {f : FuncId} {args : Array Value} (hm : fr.mode ≠ .run) (hd : fr.defers = { target := .fn fn cap, args := dargs } :: ds)
    (hi : (invoke (.fn fn cap) dargs).run P w = .ok (.enter f args) w') : Go.step P (lone fr cs w) = .next (lone (Frame.enter P f args .deferred) ({ fr with defers := ds } :: cs) w') := by
  refine step_lone_go ?_
  cases hmode : fr.mode with
  | run => exact absurd hmode hm
  | returning => simp [stepG, unwind, callDeferred, hmode, hd, hi]
  | panicking chain => simp [stepG, unwind, callDeferred, hmode, hd, hi]

theorem step_collected {fr : Frame} {cs : List Frame} {w w' : World} {b : Nat} {a : Array Value} {ds calls : List Deferred} (hm : fr.mode ≠ .run) (hd : fr.defers = { target := .collected b, args := a } :: ds)
    (hi : (Instr.takeDeferred b).run P w = .ok calls w') : Go.step P (lone fr cs w) = .next (lone { fr with defers := calls ++ ds } cs w') := by
  refine step_lone_go ?_
  cases hmode : fr.mode with
  | run => exact absurd hmode hm
  | returning => simp [stepG, unwind, hmode, hd, Sem.runT_eq, hi, GStep.bare_after]
  | panicking chain => simp [stepG, unwind, hmode, hd, Sem.runT_eq, hi, GStep.bare_after]

theorem md_ne {md : AMode} {m : FrameMode} (h : MRel E md m) (hne : md ≠ .run) : m ≠ .run := by
  rintro rfl
  cases md with
  | run => exact hne rfl
  | returning => cases h
  | panicking c => obtain ⟨ch, h, _⟩ := h; cases h
theorem DRelL.append : ∀ {xs : List ADef} {ds : List Deferred} {ys : List ADef} {es : List Deferred}, DRelL E xs ds → DRelL E ys es → DRelL E (xs ++ ys) (ds ++ es)
  | [], _, _, _, h, k => by simp only [DRelL] at h; subst h; exact k
  | x :: xs, _, _, _, ⟨d, ds', hd, hr, rfl⟩, k => ⟨d, _, hd, hr.append k, rfl⟩

theorem defer_ok (hT : TOk T P) {md : AMode} {d : ADef} {ds : List ADef} {todo : List AItem} (hne : md ≠ .run) (hf : FRel E ⟨sg, tm, todo, d :: ds, md⟩ fr) (hcs : FRelL E acs cs) (hm : Mem T P lo E0 w0 E t nx W w) (hbot : Bot f0 ⟨sg, tm, todo, d :: ds, md⟩ acs)
    (h : deferA T sg tm ds md acs t nx W go d = true) : Reach T P lo E0 w0 f0 base go (lone fr (cs ++ base) w) := by
  obtain ⟨dd, dds, hd, hds, hdf⟩ := hf.df
  have hmne : fr.mode ≠ .run := md_ne hf.md hne
  cases d with
  | collected b =>
    simp only [deferA] at h
    cases hb : t.get b with
    | none => rw [hb] at h; cases h
    | some bl =>
      rw [hb] at h; dsimp only at h
      cases bl <;> dsimp only at h <;> first | (cases h; done) | skip
      rename_i c
      cases c with
      | none => cases h
      | some l =>
        dsimp only at h
        rw [Tr.set_k] at h
        obtain ⟨e, he, rfl⟩ := hd
        obtain ⟨e', he', hbr⟩ := hm.rel.blk _ _ hb
        rw [he] at he'; cases he'
        obtain ⟨ll, ho, hll⟩ := hbr
        have hget : (getObj e.blk).run P w = .ok (.deferred (some ll)) w := by simp [getObj, Sem.run, ho]
        have htake : (Instr.takeDeferred e.blk).run P w = .ok ll (putObj w e.blk (.deferred none)) := by
          simp only [Instr.takeDeferred, Sem.run_bind, hget, Result.andThen_ok, run_setObj ho (by simp), Sem.run_pure]
        have hm' := hm.turn hb (b' := .deferred none) rfl rfl he (o := .deferred none) (putObj_same ho)
        refine ⟨⟨⟨sg, tm, [], l ++ ds, md⟩, acs, _, nx, b :: W⟩, E, _, cs, _, .one (step_collected hmne hdf htake), ⟨⟨hf.fn, hf.tm, hf.kind, hf.round, .inr ⟨rfl, hne⟩, hll.append hds, hf.md⟩, hcs, hm', hbot.fr⟩, h⟩
  | call fn cap args =>
    simp only [deferA] at h
    obtain ⟨vc, va, hc, ha, rfl⟩ := hd
    cases hi : invokeA T t nx fn cap args with
    | none => rw [hi] at h; cases h
    | some out =>
      rw [hi] at h; dsimp only at h
      have hs := invokeA_sound hT hm.rel hc ha hi
      cases out with
      | pure v rd => cases h
      | eff a d nn rd =>
        dsimp only at h
        cases a <;> dsimp only at h <;> first | (cases h; done) | skip
        rename_i f fargs
        cases hne' : noEff d nn nx with
        | false => rw [hne'] at h; cases h
        | true =>
          rw [hne'] at h; dsimp only at h
          obtain ⟨rfl, rfl⟩ := noEff_inv hne'
          obtain ⟨E', w', he, n, hr, vs, hvs, rfl⟩ := hs
          have hm' := hm.same he rfl
          obtain ⟨a', hk, hf', hfn⟩ := enter_ok hT hvs (k := fun g => go ⟨g, ⟨sg, tm, [], ds, md⟩ :: acs, t, nn, W⟩) h
          have hx := he.ext
          refine ⟨⟨a', ⟨sg, tm, [], ds, md⟩ :: acs, t, nn, W⟩, E', _, { fr with defers := dds } :: cs, w', .one (step_defer' hmne hdf hr), ⟨hf', ⟨_, cs, rfl, ⟨hf.fn, hf.tm.ext hx, hf.kind, hf.round.ext hx, .inr ⟨rfl, hne⟩, hds.ext hx, hf.md.ext hx⟩, hcs.ext hx⟩, hm', ?_⟩, hk⟩
          show Bot f0 ⟨sg, tm, [], ds, md⟩ acs
          exact hbot.fr

theorem settle_ok {md : AMode} {m : FrameMode} (h : MRel E md m) : MRel E (settleA md) (settle m) := by
  cases md with
  | run => cases h; exact rfl
  | returning => cases h; exact rfl
  | panicking c =>
    obtain ⟨ch, rfl, hc⟩ := h
    cases c with
    | nil => simp only [ChRel] at hc; subst hc; exact ⟨[], rfl, rfl⟩
    | cons p ps =>
      obtain ⟨v, b⟩ := p
      obtain ⟨u, us, rfl, hu, hps⟩ := hc
      have hdrop : ∀ {ps : List (SV × Bool)} {us : List PanicEntry}, ChRel E ps us → us.dropWhile (!·.goexit) = [] := by
        intro ps
        induction ps with
        | nil => intro us h; simp only [ChRel] at h; subst h; rfl
        | cons p ps ih =>
          intro us h
          obtain ⟨v, b⟩ := p
          obtain ⟨u, us', rfl, _, hr⟩ := h
          simpa [List.dropWhile_cons] using ih hr
      cases b with
      | true => simp only [settleA, settle, hdrop hps]; exact rfl
      | false => exact ⟨_, rfl, u, us, rfl, hu, hps⟩

theorem return_ok (hT : TOk T P) {fn : Func} {todo : List AItem} {vs : List SV} (hfn : T.fns.get sg.fn = some fn) (hf : FRel E ⟨sg, tm, todo, [], .returning⟩ fr) (hcs : FRelL E acs cs) (hm : Mem T P lo E0 w0 E t nx W w) (hbot : Bot f0 ⟨sg, tm, todo, [], .returning⟩ acs)
    (hres : resultsA T tm t fn.results.toList = some vs) (h : returnA sg.kind (tupleOf vs) acs t nx W go fin = true) : Reach T P lo E0 w0 f0 base go (lone fr (cs ++ base) w) ∨ Final T P lo E0 w0 f0 base fin (lone fr (cs ++ base) w) := by
  obtain ⟨val, hr, hv⟩ := results_ok hT hm.rel hf.tm hres
  have hPf : P.funcs[fr.fn]? = some fn := by rw [hf.fn]; exact (hT.fn _ _ hfn).1
  have hdf : fr.defers = [] := hf.df
  have hmode : fr.mode = .returning := hf.md
  cases hk : sg.kind <;> rw [hk] at h <;> simp only [returnA] at h <;> first | (cases h; done) | skip
  case normal =>
    have hkd : fr.kind = .normal := hf.kind.trans hk
    have hleave : fr.leaving P w (.returned val) := ⟨hmode, hdf, hkd, fn, hPf, hr⟩
    cases acs with
    | nil =>
      simp only [FRelL] at hcs; subst hcs
      dsimp only at h
      rw [forceSV_eq] at h
      exact .inr ⟨tupleOf vs, t, nx, W, E, fr, w, val, Go.Steps.refl _ _, hf.fn.trans hbot, hleave, hv, hm, h⟩
    | cons c acs =>
      obtain ⟨cf, cfs, rfl, hcf, hcfs⟩ := hcs
      dsimp only at h
      obtain ⟨a', hk', hf', hsg⟩ := finish_ok hcf hv h
      exact .inl ⟨⟨a', acs, t, nx, W⟩, E, _, cfs, w, .one (step_leave_returned hleave), ⟨hf', hcfs, hm, Bot.same (a := c) (b := a') (by rw [hsg]) hbot⟩, hk'⟩
  case deferred =>
    have hkd : fr.kind = .deferred := hf.kind.trans hk
    cases acs with
    | nil => cases h
    | cons c acs =>
      obtain ⟨cf, cfs, rfl, hcf, hcfs⟩ := hcs
      obtain ⟨csg, ctm, ctodo, cdf, cmd⟩ := c
      dsimp only at h
      refine .inl ⟨⟨⟨csg, ctm, ctodo, cdf, settleA cmd⟩, acs, t, nx, W⟩, E, _, cfs, w, .one (step_going_returned hkd ⟨hmode, hdf, fn, hPf, hr⟩), ⟨⟨hcf.fn, hcf.tm, hcf.kind, hcf.round, ?_, hcf.df, settle_ok hcf.md⟩, hcfs, hm, ?_⟩, h⟩
      · rcases hcf.todo with x | ⟨x, y⟩
        · exact .inl x
        · refine .inr ⟨x, ?_⟩
          cases cmd with
          | run => exact absurd rfl y
          | returning => simp [settleA]
          | panicking ch => cases ch with
            | nil => simp [settleA]
            | cons p ps => obtain ⟨v, b⟩ := p; cases b <;> simp [settleA]
      · exact Bot.fr (sg := csg) (tm := ctm) (td := ctodo) (df := cdf) (md := cmd) hbot
end
end Go.Sx

namespace Go.Sx
open Go
set_option linter.unusedVariables false
set_option linter.unusedSimpArgs false

section
variable {T : PT} {P : Program} {lo : Nat} {E0 E : Env} {w0 w : World} {f0 : FuncId} {base : List Frame} {go : St → Bool} {fin : SV → Tr ABlk → Nat → List Nat → Bool} {facts : Facts}
  {sg : Sig} {tm : Tr SV} {td : List AItem} {df : List ADef} {acs : List AFrame} {t : Tr ABlk} {nx : Nat} {W : List Nat} {fr : Frame} {cs : List Frame}

theorem idx_range' (arr : Array Oper) : ∀ (l : List Oper) (i : Nat), arr.toList.drop i = l → IdxRel arr (List.range' i l.length) l
  | [], i, h => rfl
  | o :: l, i, h => by
    refine ⟨o, l, rfl, ?_, idx_range' arr l (i + 1) ?_⟩
    · have := congrArg (·[0]?) h
      simpa using this
    · have := congrArg List.tail h
      simpa using this
theorem idx_range (arr : Array Oper) : IdxRel arr (List.range arr.size) arr.toList := by
  have := idx_range' arr arr.toList 0 rfl
  rw [List.range_eq_range']
  simpa using this

theorem Mem.drew (hm : Mem T P lo E0 w0 E t nx W w) : Mem T P lo E0 w0 E t nx W w.drew :=
  ⟨hm.rel.drew, hm.free, hm.glob, ⟨hm.since.ext, hm.since.fr.drew, hm.since.fresh⟩, hm.low, hm.lole⟩

theorem code_ok (hT : TOk T P) (hF : FactsOk T P facts) (hD : DrawOk T P facts) {c : Code} (hf : FRel E ⟨sg, tm, .code c :: td, df, .run⟩ fr) (hcs : FRelL E acs cs) (hm : Mem T P lo E0 w0 E t nx W w)
    (hbot : Bot f0 ⟨sg, tm, .code c :: td, df, .run⟩ acs) (h : runCode T facts sg tm df acs t nx W go (fun td => go ⟨⟨sg, tm, td, df, .run⟩, acs, t, nx, W⟩) td c = true) : Reach T P lo E0 w0 f0 base go (lone fr (cs ++ base) w) := by
  rcases hf.todo with ⟨i, is, htd, rfl, his⟩ | ⟨x, _⟩
  case inr => cases x
  have hself := run_self (fr := fr) hf.md
  rw [htd] at hself
  have plain : ∀ {td' : List AItem} {is' : List Item}, IRelL E td' is' → (∀ {b : Frame} {a : Act}, Go.step P (lone (b.atR a (.code c :: is)) (cs ++ base) w) = .next (lone (b.atR a is') (cs ++ base) w)) →
      go ⟨⟨sg, tm, td', df, .run⟩, acs, t, nx, W⟩ = true → Reach T P lo E0 w0 f0 base go (lone fr (cs ++ base) w) := by
    intro td' is' hi hs hg
    refine plain_ok hf hcs hm hbot hi ?_ hg
    rw [htd]; exact hs
  have hev : ∀ x, VRel E (evalOpnd T tm x) ((Act.mk fr.tmps fr.defers).eval x) := eval_rel hm.glob hf.tm fr.defers
  cases c with
  | skip => exact plain his stepR_skip h
  | region id ops draw =>
    simp only [runCode] at h
    cases draw with
    | false =>
      dsimp only at h
      have hs := stepR_region (P := P) (b := fr) (a := ⟨fr.tmps, fr.defers⟩) (k := is) (cs := cs ++ base) (w := w) (ops := ops) (id := id)
      rw [hself] at hs
      exact .head hs (runOps_ok hT hF _ (todo_ok hf ⟨_, _, rfl, ⟨ops, _, rfl, rfl, idx_range ops⟩, his⟩) hcs hm hbot.fr h)
    | true =>
      dsimp only at h
      have hs := stepR_region_draw (P := P) (b := fr) (a := ⟨fr.tmps, fr.defers⟩) (k := is) (cs := cs ++ base) (w := w) (ops := ops) (id := id)
      rw [hself, hT.mixed] at hs
      have hm1 := hm.drew
      obtain ⟨tm', t', nx', W', E', w', tmps', hsteps, ht', hm', hk⟩ := hD ops sg.n tm t nx _ h E w.drew (fr.atR ⟨fr.tmps, fr.defers⟩ (.inRegion ops (Region.linearise .any ops (w.tape w.drawn (.order fr.fn id))) :: is)) is (cs ++ base) _ hm1.rel hm1.free hm1.glob rfl rfl hf.tm
      have hx := hm'.since.ext
      refine ⟨⟨⟨sg, tm', td, df, .run⟩, acs, t', nx', W' ++ W⟩, E', _, cs, w', .head hs hsteps, ⟨⟨hf.fn, ht', hf.kind, hf.round.ext hx, .inl (his.ext hx), hf.df.ext hx, rfl⟩, hcs.ext hx, ⟨hm'.rel, hm'.free, hm'.glob, hm1.since.trans hm'.since, fun n hn => (hm'.low n hn).elim (hm1.low n) (fun x => .inr (Nat.le_trans hm1.lole x)), Nat.le_trans hm1.lole hm'.lole⟩, hbot.fr⟩, hk⟩
  | seq a b => exact plain (td' := .code a :: .code b :: td) (is' := .code a :: .code b :: is) ⟨_, _, rfl, rfl, _, _, rfl, rfl, his⟩ stepR_seq h
  | cond c x y =>
    simp only [runCode] at h
    have hc := hev c
    cases hcv : evalOpnd T tm c with
    | bool b =>
      rw [hcv] at h hc
      simp only [VRel] at hc
      have hs := stepR_cond (P := P) (b := fr) (k := is) (cs := cs ++ base) (w := w) (x := x) (y := y) hc
      rw [hself] at hs
      cases b with
      | true => exact ⟨_, E, _, cs, w, .one hs, ⟨todo_ok (td' := .code x :: td) (is' := .code x :: is) hf ⟨_, _, rfl, rfl, his⟩, hcs, hm, hbot.fr⟩, h⟩
      | false => exact ⟨_, E, _, cs, w, .one hs, ⟨todo_ok (td' := .code y :: td) (is' := .code y :: is) hf ⟨_, _, rfl, rfl, his⟩, hcs, hm, hbot.fr⟩, h⟩
    | ubool =>
      rw [hcv] at h hc
      simp only [VRel] at hc
      obtain ⟨b, hc⟩ := hc
      have hs := stepR_cond (P := P) (b := fr) (k := is) (cs := cs ++ base) (w := w) (x := x) (y := y) hc
      rw [hself] at hs
      dsimp only at h
      cases hx : go ⟨⟨sg, tm, .code x :: td, df, .run⟩, acs, t, nx, W⟩ with
      | false => rw [hx] at h; cases h
      | true =>
        rw [hx] at h
        cases b with
        | true => exact ⟨_, E, _, cs, w, .one hs, ⟨todo_ok (td' := .code x :: td) (is' := .code x :: is) hf ⟨_, _, rfl, rfl, his⟩, hcs, hm, hbot.fr⟩, hx⟩
        | false => exact ⟨_, E, _, cs, w, .one hs, ⟨todo_ok (td' := .code y :: td) (is' := .code y :: is) hf ⟨_, _, rfl, rfl, his⟩, hcs, hm, hbot.fr⟩, h⟩
    | _ => rw [hcv] at h; cases h
  | block id b => exact plain (td' := .code b :: .inBlock id :: td) (is' := .code b :: .inBlock id :: is) ⟨_, _, rfl, rfl, _, _, rfl, rfl, his⟩ stepR_block h
  | loop b => exact plain (td' := .code b :: .inLoop b :: td) (is' := .code b :: .inLoop b :: is) ⟨_, _, rfl, rfl, _, _, rfl, rfl, his⟩ stepR_loop h
  | rangeFunc f ps assign body => exact range_ok hT hf hcs hm hbot h
  | exit id =>
    simp only [runCode] at h
    have hx := exitTo_ok id his
    cases he : exitToA id td with
    | some k =>
      rw [he] at h hx
      obtain ⟨r', hr', hrel⟩ := hx
      exact plain hrel (stepR_exit hr') h
    | none =>
      rw [he] at h hx
      refine leave_ok hf hcs hm hbot (jump := some (.exit id)) ?_ ?_ h
      · intro _ hj; rcases hj with hj | hj <;> cases hj
      · intro l v w' c cs' hro hkd hr
        have := stepR_round_exit (P := P) (b := fr) (a := ⟨fr.tmps, fr.defers⟩) (k := is) (cs := cs') (c := c) hro hkd hx hr
        rwa [hself] at this
  | scope b => exact plain (td' := .code b :: .inScope b :: td) (is' := .code b :: .inScope b :: is) ⟨_, _, rfl, rfl, _, _, rfl, rfl, his⟩ (step_lone_go (by simp [stepG, stepG.exec, Frame.atR])) h
  | label l => exact plain his stepR_label h
  | goto l =>
    simp only [runCode] at h
    have hx := gotoIn_ok l his
    cases he : gotoInA l td with
    | some k =>
      rw [he] at h hx
      obtain ⟨r', hr', hrel⟩ := hx
      exact plain hrel (stepR_goto hr') h
    | none =>
      rw [he] at h hx
      refine leave_ok hf hcs hm hbot (jump := some (.goto l)) ?_ ?_ h
      · intro _ hj; rcases hj with hj | hj <;> cases hj
      · intro l' v w' c cs' hro hkd hr
        have := stepR_round_goto (P := P) (b := fr) (a := ⟨fr.tmps, fr.defers⟩) (k := is) (cs := cs') (c := c) hro hkd hx hr
        rwa [hself] at this
  | ret =>
    refine leave_ok hf hcs hm hbot (jump := some .ret) ?_ ?_ h
    · intro hro _
      have := stepR_ret (P := P) (b := fr) (a := ⟨fr.tmps, fr.defers⟩) (k := is) (cs := cs ++ base) (w := w) hro
      rwa [hself] at this
    · intro l v w' c cs' hro hkd hr
      have := stepR_round_ret (P := P) (b := fr) (a := ⟨fr.tmps, fr.defers⟩) (k := is) (cs := cs') (c := c) hro hkd hr
      rwa [hself] at this
  | refuse why => cases h

theorem stepA_ok (hT : TOk T P) (hF : FactsOk T P facts) (hD : DrawOk T P facts) {st : St} (hs : SRel T P lo E0 w0 f0 E st fr cs w) (h : stepA T facts st go fin = true) :
    Reach T P lo E0 w0 f0 base go (lone fr (cs ++ base) w) ∨ Final T P lo E0 w0 f0 base fin (lone fr (cs ++ base) w) := by
  obtain ⟨⟨sg, tm, todo, df, md⟩, acs, t, nx, W⟩ := st
  obtain ⟨hf, hcs, hm, hbot⟩ := hs
  dsimp only at hf hcs hm hbot
  simp only [stepA] at h
  cases md with
  | run =>
    dsimp only at h
    cases todo with
    | nil =>
      dsimp only at h
      have htd : fr.todo = [] := by
        rcases hf.todo with x | ⟨_, x⟩
        · exact x
        · exact absurd rfl x
      have hself := run_self (fr := fr) hf.md
      rw [htd] at hself
      refine .inl (leave_ok hf hcs hm hbot (jump := none) ?_ ?_ h)
      · intro hro _
        have := stepR_end (P := P) (b := fr) (a := ⟨fr.tmps, fr.defers⟩) (cs := cs ++ base) (w := w) hro
        rwa [hself] at this
      · intro l v w' c cs' hro hkd hr
        have := stepR_round_end (P := P) (b := fr) (a := ⟨fr.tmps, fr.defers⟩) (cs := cs') (c := c) hro hkd hr
        rwa [hself] at this
    | cons it k =>
      dsimp only at h
      left
      have hself := run_self (fr := fr) hf.md
      cases it with
      | code c => exact code_ok hT hF hD hf hcs hm hbot h
      | inBlock id =>
        rcases hf.todo with ⟨i, is, htd, rfl, his⟩ | ⟨x, _⟩
        case inr => cases x
        exact plain_ok hf hcs hm hbot his (by rw [htd]; exact stepR_inBlock) h
      | inLoop b =>
        rcases hf.todo with ⟨i, is, htd, rfl, his⟩ | ⟨x, _⟩
        case inr => cases x
        exact plain_ok hf hcs hm hbot (td' := .code b :: .inLoop b :: k) (is' := .code b :: .inLoop b :: is) ⟨_, _, rfl, rfl, _, _, rfl, rfl, his⟩ (by rw [htd]; exact stepR_inLoop) h
      | inScope b =>
        rcases hf.todo with ⟨i, is, htd, rfl, his⟩ | ⟨x, _⟩
        case inr => cases x
        exact plain_ok hf hcs hm hbot his (by rw [htd]; exact step_lone_go (by simp [stepG, stepG.exec, Frame.atR])) h
      | inRegion ops rest => exact runOps_ok hT hF rest hf hcs hm hbot h
      | inRangeFunc n => cases h
      | endRangeFunc l => exact end_ok hf hcs hm hbot h
      | beginRound => exact begin_ok hf hcs hm hbot h
  | returning =>
    dsimp only at h
    cases df with
    | cons d ds => exact .inl (defer_ok hT (by simp) hf hcs hm hbot h)
    | nil =>
      dsimp only at h
      cases hfn : T.fns.get sg.fn with
      | none => rw [hfn] at h; cases h
      | some fn =>
        rw [hfn] at h; dsimp only at h
        cases hr : resultsA T tm t fn.results.toList with
        | none => rw [hr] at h; cases h
        | some vs => rw [hr] at h; exact return_ok hT hfn hf hcs hm hbot hr h
  | panicking ch =>
    dsimp only at h
    cases df with
    | cons d ds => exact .inl (defer_ok hT (by simp) hf hcs hm hbot h)
    | nil =>
      dsimp only at h
      cases hfn : T.fns.get sg.fn with
      | none => rw [hfn] at h; cases h
      | some fn =>
        rw [hfn] at h; dsimp only at h
        cases acs with
        | nil => cases h
        | cons c acs =>
          obtain ⟨cf, cfs, rfl, hcf, hcfs⟩ := hcs
          obtain ⟨csg, ctm, ctodo, cdf, cmd⟩ := c
          dsimp only at h
          obtain ⟨pch, hpm, hch⟩ := hf.md
          have hPf : P.funcs[fr.fn]? = some fn := by rw [hf.fn]; exact (hT.fn _ _ hfn).1
          have hs := step_going_panicked (P := P) (fr := fr) (c := cf) (cs := cfs ++ base) (w := w) (chain := pch) ⟨hpm, hf.df, fn, hPf⟩
          rw [← Frame.raise_mode] at hs
          exact .inl ⟨⟨⟨csg, ctm, ctodo, cdf, raiseA cmd ch⟩, acs, t, nx, W⟩, E, _, cfs, w, .one hs, ⟨raise_ok hcf hch, hcfs, hm, Bot.fr (sg := csg) (tm := ctm) (td := ctodo) (df := cdf) (md := cmd) hbot⟩, h⟩

theorem iter_ok (hT : TOk T P) (hF : FactsOk T P facts) (hD : DrawOk T P facts) : ∀ (n : Nat) {st : St} {E : Env} {fr : Frame} {cs : List Frame} {w : World} {go : St → Bool}, SRel T P lo E0 w0 f0 E st fr cs w → iter T facts n st go fin = true →
    Reach T P lo E0 w0 f0 base go (lone fr (cs ++ base) w) ∨ Final T P lo E0 w0 f0 base fin (lone fr (cs ++ base) w)
  | 0, st, E, fr, cs, w, go, hs, h => stepA_ok hT hF hD hs h
  | n + 1, st, E, fr, cs, w, go, hs, h => by
    have h' : iter T facts n st (fun st' => iter T facts n st' go fin) fin = true := h
    rcases iter_ok hT hF hD n hs h' with ⟨st', E', fr', cs', w', h1, h2, h3⟩ | h1
    · rcases iter_ok hT hF hD n h2 h3 with ⟨st2, E2, fr2, cs2, w2, k1, k2, k3⟩ | ⟨v, t, nx, W, E2, fr2, w2, val, k1, k2⟩
      · exact .inl ⟨st2, E2, fr2, cs2, w2, h1.trans k1, k2, k3⟩
      · exact .inr ⟨v, t, nx, W, E2, fr2, w2, val, h1.trans k1, k2⟩
    · exact .inr h1

/-- a call that the engine runs to its end -/
theorem runC_ok (hT : TOk T P) (hF : FactsOk T P facts) (hD : DrawOk T P facts) {n : Nat} {f : FuncId} {args : List SV} (h : runC T facts n f args t nx fin = true)
    (hR : R P E t.get w) (hfree : ∀ m, nx ≤ m → E m = none) (hg : GRel T E) {vs : List Value} (hvs : VRelL E args vs) :
    Calls P f vs.toArray w fun e w' => ∃ v t' nx' W' E' val, e = .returned val ∧ VRel E' v val ∧ Mem T P nx E w E' t' nx' W' w' ∧ fin v t' nx' W' = true := by
  intro base
  obtain ⟨a, hk, hf, hfn⟩ := enter_ok hT hvs (k := fun fr => iter T facts n ⟨fr, [], t, nx, []⟩ (fun _ => false) fin) h
  have hs : SRel T P nx E w f E ⟨a, [], t, nx, []⟩ (Frame.enter P f vs.toArray .normal) [] w := ⟨hf, rfl, ⟨hR, hfree, hg, Since.refl _ _, fun n hn => .inl hn, Nat.le_refl _⟩, hfn⟩
  rcases iter_ok (base := base) hT hF hD n hs hk with ⟨st, E', fr', cs', w', _, _, h3⟩ | ⟨v, t', nx', W', E', fr', w', val, h1, h2, h3, h4, h5, h6⟩
  · cases h3
  · exact ⟨.returned val, w', fr', ⟨v, t', nx', W', E', val, rfl, h4, h5, h6⟩, h1, h2, h3⟩
end
end Go.Sx
