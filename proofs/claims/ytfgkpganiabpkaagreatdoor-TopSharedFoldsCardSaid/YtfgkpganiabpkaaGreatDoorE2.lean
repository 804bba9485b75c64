import Derived.Test.YtfgkpganiabpkaaGreatDoorE1
import Derived.Laws.Entries
import Derived.Laws.BytesString
import Derived.Laws.AppendOwn
import Derived.Laws.Strings
/- Proved in this claim (its last text holds the theorem): the given statement TopSharedFoldsCardSaid, with no condition of ours. This text is one part of that proof: the machine of runs apart from a program, with its laws. -/
namespace Go.Sx
open Go
set_option linter.unusedVariables false
set_option linter.unusedSimpArgs false

/-! ## What the tables must be -/
def KOk : TK → TypeDesc → Prop
  | .bool, d => d = .bool
  | .int k, d => d = .int k
  | .str, d => d = .string
  | .ptr e, d => d = .pointer e
  | .slice e, d => d = .slice e
  | .array n e, d => d = .array n e
  | .struct fs, d => ∃ l, d = .struct l ∧ fs = l.toList.map fun f => (f.offset, f.type)
  | .map k e, d => d = .map k e
  | .func, d => ∃ a b c, d = .func a b c
  | .iface n, d => ∃ ms, d = .interface ms ∧ ms.size = n
  | .other, d => match d with | .float _ | .complex _ | .unsafePointer | .chan .. | .tuple _ | .invalid | .named .. => True | _ => False

/-- the zero value, by its cells -/
def ZOk (agg : Bool) (zero : List SV) (z : Value) : Prop :=
  if agg = true then ∃ cs, z = .agg cs ∧ ∀ E, VRelL E zero cs.toList else ∃ x, zero = [x] ∧ z.cells = #[z] ∧ (∀ cs, z ≠ .agg cs) ∧ ∀ E, VRel E x z

structure TyOk (P : Program) (t : TypeId) (c : TyC) (i : TypeInfo) (d : TypeDesc) : Prop where
  info : P.info? t = some i
  under : P.underlying t = some d
  size : i.size = c.size
  bytes : i.bytes = c.bytes
  kind : KOk c.k d
  zero : c.zero.length = c.size → ∃ z, i.zero = some z ∧ ZOk (isAggK c.k) c.zero z
  cmp : c.eqok = true → (∀ ms, d ≠ .interface ms) → (∃ e, d = .slice e) ∨ (∃ k e, d = .map k e) ∨ (∃ a b v, d = .func a b v) ∨ i.comparable = true
  struct : c.eqok = true → (∃ l, d = .struct l) → P.stoodInHeld t = false ∧ ∀ l, d = .struct l → ∀ f ∈ l.toList, f.name ≠ "_"
  guard : c.eqok = true → ((∃ l, d = .struct l) ∨ (∃ n e, d = .array n e)) → P.eqGuardType P.depth t = false
  fields : ∀ l, d = .struct l → ∀ f ∈ l.toList, ∃ i, P.info? f.type = some i
  meths : ∀ name f p, findM name c.meths = some (f, p) → ∃ m, i.methods.find? (·.name == name) = some m ∧ m.path = #[] ∧ m.func = some (f, p)

structure TOk (T : PT) (P : Program) : Prop where
  ty : ∀ t c, T.ty.get t = some c → ∃ i d, TyOk P t c i d
  fn : ∀ f fn, T.fns.get f = some fn → P.funcs[f]? = some fn ∧ (fn.name == "runtime.NumGoroutine") = false
  mixed : P.follows .mixedOrders = true
  extIndex : ∀ f fn, T.fns.get f = some fn → fn.body = none → (fn.name == "internal/bytealg.IndexByteString") = true → Extern.findNext fn = none ∧ Extern.find fn = some Extern.BytealgIndexByte.indexByte
  extCount : ∀ f fn, T.fns.get f = some fn → fn.body = none → (fn.name == "internal/bytealg.CountString") = true → Extern.findNext fn = none ∧ Extern.find fn = some Extern.BytealgCount.count

section
variable {T : PT} {P : Program} {E : Env} {w : World}

/-- what is asked of a run that yields a value and turns nothing -/
def PureOk (P : Program) (E : Env) (w : World) (s : Sem Value) (v : SV) : Prop := ∃ val, s.run P w = .ok val w ∧ VRel E v val

structure Eff (P : Program) (E : Env) (nx : Nat) (H : HF) (w : World) (d : List (Nat × Option ABlk)) (nn : Nat) (E' : Env) (w' : World) : Prop where
  ext : Ext E E'
  dom : ∀ n, E' n ≠ none → E n ≠ none ∨ (nx ≤ n ∧ n < nn)
  le : nx ≤ nn
  rel : R P E' (applyF d H) w'
  fr : Fr E (dW nx d) w w'
  fresh : ∀ n e, E n = none → E' n = some e → w.heap.size ≤ e.blk ∨ ∃ m ∈ dW nx d, ∃ e', E m = some e' ∧ e'.blk = e.blk

def ValOk (P : Program) (E : Env) (nx : Nat) (H : HF) (w : World) (s : Sem Value) : Out → Prop
  | .pure v _ => PureOk P E w s v
  | .eff a d nn _ => ∃ v E' w' val, a = .val v ∧ s.run P w = .ok val w' ∧ VRel E' v val ∧ Eff P E nx H w d nn E' w'
def UnitOk (P : Program) (E : Env) (nx : Nat) (H : HF) (w : World) (s : Sem Unit) : Out → Prop
  | .pure _ _ => False
  | .eff a d nn _ => ∃ E' w', a = .skip ∧ s.run P w = .ok () w' ∧ Eff P E nx H w d nn E' w'

theorem Eff.refl {nx : Nat} {H : HF} (h : R P E H w) : Eff P E nx H w [] nx E w := ⟨Ext.refl E, fun n h => .inl h, Nat.le_refl _, h, Fr.refl _ _ _, fun n e h k => by rw [h] at k; cases k⟩

theorem agg_iff {k : TK} {d : TypeDesc} (h : KOk k d) : (match d with | .struct _ | .array _ _ => true | _ => false) = isAggK k := by
  cases k <;> simp only [KOk] at h <;> first
    | (subst h; rfl)
    | (obtain ⟨_, _, _, rfl⟩ := h; rfl)
    | (obtain ⟨_, rfl, _⟩ := h; rfl)
    | (cases d <;> first | rfl | exact h.elim)

theorem run_isAgg {t : TypeId} {d : TypeDesc} {k : TK} (hu : P.underlying t = some d) (hk : KOk k d) : (isAgg t).run P w = .ok (isAggK k) w := by
  rw [← agg_iff hk]
  unfold isAgg
  rw [Sem.run_bind, run_underlying hu, Result.andThen_ok]
  cases d <;> rfl
theorem run_sizeOf {t : TypeId} {i : TypeInfo} (hi : P.info? t = some i) : (sizeOf t).run P w = .ok i.size w := by
  simp [sizeOf, typeInfo, hi]
theorem run_typeInfo {t : TypeId} {i : TypeInfo} (hi : P.info? t = some i) : (typeInfo t).run P w = .ok i w := by
  simp [typeInfo, hi]
theorem run_zeroValue {t : TypeId} {i : TypeInfo} {z : Value} (hi : P.info? t = some i) (hz : i.zero = some z) : (zeroValue t).run P w = .ok z w := by
  simp [zeroValue, typeInfo, hi, hz]

/-! ### loads and stores -/
theorem loadVar_ok {t : TypeId} {c : TyC} {i : TypeInfo} {d : TypeDesc} (ht : TyOk P t c i d) {e : Ent} {cs : List SV} {arr : Array Value} {ty : TypeId} {fz : Nat × Nat}
    (hb : w.heap[e.blk]? = some (.cells arr ty fz)) (h2 : ∀ (i : Nat) (x : SV), cs[i]? = some x → ∃ v, arr[e.base + i]? = some v ∧ VRel E x v) (off : Nat) :
    (isAggK c.k = true → off + c.size ≤ cs.length → PureOk P E w (loadVar t ⟨e.blk, e.base + off, none⟩) (.agg ((cs.drop off).take c.size))) ∧
    (isAggK c.k = false → ∀ x, cs[off]? = some x → PureOk P E w (loadVar t ⟨e.blk, e.base + off, none⟩) x) := by
  constructor
  · intro ha hl
    obtain ⟨vs, hr, hrun⟩ := run_loadCells_ok (P := P) (E := E) hb h2 off c.size hl
    refine ⟨.agg vs.toArray, ?_, by simp only [VRel]; exact ⟨vs, hr, rfl⟩⟩
    simp only [loadVar, Sem.run_bind, run_isAgg ht.under ht.kind, ha, Result.andThen_ok, if_true, run_sizeOf ht.info, ht.size, hrun, Sem.run_pure]
  · intro ha x hx
    obtain ⟨v, hv, hr⟩ := h2 off x hx
    refine ⟨v, ?_, hr⟩
    simp only [loadVar, Sem.run_bind, run_isAgg ht.under ht.kind, ha, Result.andThen_ok, Bool.false_eq_true, if_false, run_load, cell_eq hb, hv]

theorem oLoad_sound (hT : TOk T P) {t : Tr ABlk} (hR : R P E t.get w) {ty : TypeId} {a : SV} {va : Value} (ha : VRel E a va) {out : Out} (h : oLoad T t ty a = some out) :
    ∃ v rd, out = .pure v rd ∧ PureOk P E w (Instr.loadAt ty va) v := by
  unfold oLoad at h
  obtain ⟨n, off, rfl, h⟩ := onPtr_inv h (by simp)
  obtain ⟨rw_, c, e, hc, h⟩ := onCells_inv h (by simp)
  obtain ⟨tc, htc, h⟩ := onSize_inv h (by simp)
  obtain ⟨i, d, ht⟩ := hT.ty _ _ htc
  simp only [VRel] at ha
  obtain ⟨ent, he, rfl⟩ := ha
  obtain ⟨ent', he', hb⟩ := hR.blk _ _ hc
  rw [he] at he'; cases he'
  obtain ⟨arr, fz, hb1, hb2, _⟩ := hb
  have key := loadVar_ok (E := E) ht hb1 hb2 off
  cases hagg : isAggK tc.k with
  | true =>
    rw [hagg] at h; dsimp only at h
    obtain ⟨hl, h⟩ := slcK_inv h (by simp)
    cases h
    exact ⟨_, _, rfl, by simpa [Instr.loadAt, Instr.sureAddr] using key.1 hagg hl⟩
  | false =>
    rw [hagg] at h; dsimp only at h
    rw [nth_eq] at h
    cases hx : c[off]? with
    | none => rw [hx] at h; cases h
    | some x => rw [hx] at h; cases h; exact ⟨_, _, rfl, by simpa [Instr.loadAt, Instr.sureAddr] using key.2 hagg x hx⟩

/-- the cells of a value -/
theorem cells_rel {x : SV} {v : Value} (h : VRel E x v) (hb : noBad x = true) : VRelL E x.cells v.cells.toList := by
  cases x <;> simp only [VRel] at h <;> first
    | (simp [noBad] at hb; done)
    | (obtain ⟨vs, hv, rfl⟩ := h; exact hv)
    | skip
  all_goals
    simp only [SV.cells]
    have hv : v.cells = #[v] := by
      first
        | (subst h; rfl)
        | (obtain ⟨rfl, _⟩ := h; rfl)
        | (obtain ⟨_, _, rfl⟩ := h; rfl)
        | (obtain ⟨_, _, _, _, rfl⟩ := h; rfl)
        | (obtain ⟨_, _, _, _, _, rfl⟩ := h; rfl)
        | (obtain ⟨_, _, _, _, _, _, rfl⟩ := h; rfl)
    rw [hv]
    refine VRelL.cons ?_ VRelL.nil
    simp only [VRel]
    exact h

/-- a row of cells of a block, written over: the block's reading -/
theorem BRel_write {e : Ent} {c vs : List SV} {ty : TypeId} {arr : Array Value} {fz : Nat × Nat} {us : List Value}
    (hb1 : w.heap[e.blk]? = some (.cells arr ty fz)) (hb2 : ∀ (i : Nat) (x : SV), c[i]? = some x → ∃ v, arr[e.base + i]? = some v ∧ VRel E x v)
    (hb3 : (∀ i, i < arr.size → ¬ (fz.1 ≤ i ∧ i < fz.2)) ∧ e.base ≤ arr.size ∧ ∀ i, P.info? ty = some i → e.base + e.cap * i.size ≤ arr.size)
    (hr : VRelL E vs us) {off : Nat} (hl : off + vs.length ≤ c.length) :
    e.base + off + us.length ≤ arr.size ∧
    BRel P E e (.cells true (c.take off ++ vs ++ c.drop (off + vs.length)) ty) (putObj w e.blk (.cells (arrW arr (e.base + off) us) ty fz)) := by
  have hlen := hr.length
  have hsz : e.base + off + us.length ≤ arr.size := by
    rcases Nat.eq_zero_or_pos vs.length with h0 | h0
    · rcases Nat.eq_zero_or_pos off with h1 | h1
      · rw [hlen, h0, h1]
        have := hb3.2.1; omega
      · obtain ⟨v, hv, _⟩ := hb2 (off - 1) c[off - 1] (by have : off - 1 < c.length := by omega
                                                          simp [this])
        have : e.base + (off - 1) < arr.size := by
          rcases Nat.lt_or_ge (e.base + (off - 1)) arr.size with y | y
          · exact y
          · simp [Array.getElem?_eq_none y] at hv
        omega
    · obtain ⟨v, hv, _⟩ := hb2 (off + vs.length - 1) c[off + vs.length - 1] (by have : off + vs.length - 1 < c.length := by omega
                                                                                simp [this])
      have : e.base + (off + vs.length - 1) < arr.size := by
        rcases Nat.lt_or_ge (e.base + (off + vs.length - 1)) arr.size with y | y
        · exact y
        · simp [Array.getElem?_eq_none y] at hv
      omega
  refine ⟨hsz, arrW arr (e.base + off) us, fz, putObj_same hb1, ?_, fun _ => ⟨?_, ?_, ?_⟩⟩
  · intro i x hx
    rw [arrW_get us arr (e.base + off) (e.base + i) hsz]
    by_cases hin : off ≤ i ∧ i < off + vs.length
    · rw [if_pos ⟨by omega, by omega⟩, show e.base + i - (e.base + off) = i - off by omega]
      have hx' : vs[i - off]? = some x := by
        rw [List.append_assoc, List.getElem?_append_right (by simp; omega)] at hx
        rw [List.getElem?_append_left (by simp; omega)] at hx
        rwa [show i - (c.take off).length = i - off by simp; omega] at hx
      exact hr.get (i - off) x hx'
    · rw [if_neg (by omega)]
      refine hb2 i x ?_
      rcases Nat.lt_or_ge i off with h1 | h1
      · rw [List.append_assoc, List.getElem?_append_left (by simp; omega)] at hx
        rw [List.getElem?_take] at hx; simpa [h1] using hx
      · rw [List.getElem?_append_right (by simp; omega)] at hx
        rw [List.getElem?_drop] at hx
        rwa [show off + vs.length + (i - (c.take off ++ vs).length) = i by simp; omega] at hx
  · intro i hi; rw [arrW_size] at hi; exact hb3.1 i hi
  · rw [arrW_size]; exact hb3.2.1
  · intro i hi; rw [arrW_size]; exact hb3.2.2 i hi

end
end Go.Sx

namespace Go.Sx
open Go
set_option linter.unusedVariables false
set_option linter.unusedSimpArgs false

section
variable {T : PT} {P : Program} {E : Env} {w : World} {nx : Nat}

theorem dW_nil_of (nx n : Nat) (b : Option ABlk) (h : ¬ n < nx) : dW nx [(n, b)] = [] := by
  simp only [dW]
  cases hb : Nat.ble (Nat.succ n) nx with
  | true => exact absurd (ble_true hb) h
  | false => rfl
theorem dW_one (nx n : Nat) (b : Option ABlk) (h : n < nx) : dW nx [(n, b)] = [n] := by
  simp only [dW]
  cases hb : Nat.ble (Nat.succ n) nx with
  | true => rfl
  | false => exact absurd h (ble_false hb)

/-- names that stand lie below the counter -/
def Below' (E : Env) (nx : Nat) : Prop := ∀ n, E n ≠ none → n < nx

theorem oStore_sound (hT : TOk T P) {t : Tr ABlk} (hR : R P E t.get w) {out : Out} (hlt : ∀ n ∈ out.rd, ∀ b, t.get n = some b → n < nx) {ty : TypeId} {a v : SV} {va vv : Value}
    (ha : VRel E a va) (hv : VRel E v vv) (h : oStore T t nx ty a v = some out) :
    UnitOk P E nx t.get w (Instr.storeAt ty va vv) out := by
  unfold oStore at h
  obtain ⟨n, off, rfl, g1⟩ := onPtr_inv h (by simp)
  clear h
  obtain ⟨rw_, c, e, hc, g2⟩ := onCells_inv g1 (by simp)
  clear g1
  obtain ⟨tc, htc, g3⟩ := onSize_inv g2 (by simp)
  clear g2
  obtain ⟨i, d, ht⟩ := hT.ty _ _ htc
  cases hz : Nat.beq (lenS v.cells) tc.size with
  | false => rw [hz] at g3; cases g3
  | true =>
    rw [hz] at g3; dsimp only at g3
    have hz := beq_true hz
    rw [lenS_eq] at hz
    unfold oStore2 at g3
    cases hw : rw_ && oneCells v.cells with
    | false => rw [hw] at g3; cases g3
    | true =>
      rw [hw] at g3; dsimp only at g3
      simp only [Bool.and_eq_true] at hw
      obtain ⟨hw1, h1⟩ := hw
      subst hw1
      obtain ⟨hl, g4⟩ := wrK_inv g3 (by simp)
      cases g4
      have hrel := cells_rel hv (by cases v <;> first | rfl | (simp [SV.cells, oneCells, oneCell] at h1))
      simp only [VRel] at ha
      obtain ⟨ent, he, rfl⟩ := ha
      obtain ⟨ent', he', hb⟩ := hR.blk _ _ hc
      rw [he] at he'; cases he'
      obtain ⟨arr, fz, hb1, hb2, hb3⟩ := hb
      have hb3 := hb3 rfl
      obtain ⟨hsz, hbr⟩ := BRel_write (P := P) hb1 hb2 hb3 hrel hl
      refine ⟨E, putObj w ent.blk (.cells (arrW arr (ent.base + off) vv.cells.toList) e fz), rfl, ?_, ⟨Ext.refl E, fun n h => .inl h, Nat.le_refl _, ?_, ?_, fun n e h k => by rw [h] at k; cases k⟩⟩
      · have hs : vv.cells.size = i.size := by rw [ht.size, ← hz, ← hrel.length]; simp
        simp only [Instr.storeAt, Instr.sureAddr, Sem.run_bind, Sem.run_pure, Result.andThen_ok, storeVar, run_sizeOf ht.info, hs, ne_eq, not_true_eq_false, if_false]
        have := run_storeCells (P := P) vv.cells.toList w arr (ent.base + off) 0 hb1 hb3.1 (oneCells_rel h1 hrel) (by simpa using hsz)
        simpa using this
      · simp only [applyF]; exact hR.write hc rfl rfl he hbr
      · rw [dW_one nx n _ (hlt _ (by simp [Out.rd]) _ hc)]; exact Fr.putObj _ he (by simp)

/-! ### new blocks -/
theorem new_cells {H : HF} (hR : R P E H w) (hn : E nx = none) {c : List SV} {vs : List Value} (hr : VRelL E c vs) (e : TypeId) (cap : Nat)
    (hcap : ∀ i, P.info? e = some i → cap * i.size ≤ vs.length) :
    Eff P E nx H w [(nx, some (.cells true c e))] (nx + 1) (envPut E nx ⟨w.heap.size, 0, cap, []⟩) (w.alloc (.cells vs.toArray e)) := by
  have hx := envPut_ext (e := ⟨w.heap.size, 0, cap, []⟩) hn
  refine ⟨hx, fun n h => ?_, by omega, ?_, ?_, fun n e h k => .inl (by rw [envPut_new h k]; exact Nat.le_refl _)⟩
  · by_cases y : n = nx
    · exact .inr ⟨by omega, by omega⟩
    · exact .inl (by simpa [envPut, y] using h)
  · simp only [applyF]
    refine hR.alloc hn rfl ⟨vs.toArray, (0, 0), alloc_new w _, ?_, fun _ => ⟨?_, by simp, ?_⟩⟩
    · intro i x hx'
      obtain ⟨v, hv, hr'⟩ := hr.get i x hx'
      exact ⟨v, by simpa using hv, VRel.ext hx _ _ hr'⟩
    · intro i _ hf; simp at hf
    · intro i hi; simpa using hcap i hi
  · rw [dW_nil_of _ _ _ (by omega)]; exact Fr.alloc _ _ _ _

theorem envPut_slice {n len c : Nat} {cap : Cap} {e : Ent} (hc : capRel e len cap c) : VRel (envPut E n e) (.slice n 0 len cap) (.slice (some ⟨e.blk, e.base, none⟩) len c) := by
  simp only [VRel]; exact ⟨e, envPut_same _ _, c, hc, by simp⟩
theorem envPut_ptr {n : Nat} {e : Ent} : VRel (envPut E n e) (.ptr n 0) (.pointer (some ⟨e.blk, e.base, none⟩)) := by
  simp only [VRel]; exact ⟨e, envPut_same _ _, by simp⟩

theorem run_newRow (e : TypeId) (a : Array Value) : (newRow e a).run P w = .ok ⟨w.heap.size, 0, none⟩ (w.alloc (.cells a e)) := by
  simp only [newRow, Sem.run_bind, run_newObj, Result.andThen_ok, Sem.run_pure]; rfl

theorem zero_cells {c : TyC} {i : TypeInfo} {d : TypeDesc} {t : TypeId} (ht : TyOk P t c i d) (hz : c.zero.length = c.size) :
    ∃ z, i.zero = some z ∧ (∀ E, VRelL E c.zero z.cells.toList) ∧ (∀ v, pack (isAggK c.k) c.zero = some v → ∀ E, VRel E v z) := by
  obtain ⟨z, h1, h2⟩ := ht.zero hz
  refine ⟨z, h1, ?_⟩
  unfold ZOk at h2
  cases hagg : isAggK c.k with
  | true =>
    simp only [hagg, if_true] at h2
    obtain ⟨cs, rfl, hr⟩ := h2
    refine ⟨hr, fun v hv E => ?_⟩
    simp [pack] at hv; subst hv
    simp only [VRel]; exact ⟨cs.toList, hr E, by simp⟩
  | false =>
    simp only [hagg, Bool.false_eq_true, if_false] at h2
    obtain ⟨x, hx, hc, _, hr⟩ := h2
    rw [hx, hc]
    refine ⟨fun E => VRelL.cons (hr E) VRelL.nil, fun v hv E => ?_⟩
    simp [pack] at hv; subst hv; exact hr E

theorem oAlloc_sound (hT : TOk T P) {H : HF} (hR : R P E H w) (hn : E nx = none) {e : TypeId} {out : Out} (h : oAlloc T nx e = some out) :
    ValOk P E nx H w (Instr.alloc e true (.tuple #[])) out := by
  unfold oAlloc at h
  obtain ⟨c, hc, hz, h⟩ := onZero_inv h (by simp)
  obtain ⟨i, d, ht⟩ := hT.ty _ _ hc
  obtain ⟨z, hiz, hr, _⟩ := zero_cells ht hz
  cases h
  refine ⟨.ptr nx 0, _, _, _, rfl, ?_, envPut_ptr, new_cells hR hn (hr E) e 0 (by intros; simp)⟩
  simp only [Instr.alloc, Sem.run_bind, run_zeroValue ht.info hiz, Result.andThen_ok, newVar, run_newRow, Sem.run_pure]

theorem oBox_sound {H : HF} (hR : R P E H w) (hn : E nx = none) {e : TypeId} {v : SV} {vv : Value} (hv : VRel E v vv) {out : Out} (h : oBox nx e v = some out) :
    ValOk P E nx H w (Instr.box e vv) out := by
  unfold oBox at h
  cases hb : noBad v with
  | false => rw [hb] at h; cases h
  | true =>
    rw [hb] at h; cases h
    refine ⟨.ptr nx 0, _, _, _, rfl, ?_, envPut_ptr, new_cells hR hn (cells_rel hv hb) e 0 (by intros; simp)⟩
    simp only [Instr.box, Sem.run_bind, newVar, run_newRow, Result.andThen_ok, Sem.run_pure]

/-! ### addresses -/
theorem onField_inv {β : Type} {d x : β} {ty : TypeId} {f : Nat} {k : Nat → Nat → Bool → β} (h : onField T ty f d k = x) (hx : x ≠ d) :
    ∃ c fs off ft cf, T.ty.get ty = some c ∧ c.k = .struct fs ∧ fs[f]? = some (off, ft) ∧ T.ty.get ft = some cf ∧ k off cf.size (isAggK cf.k) = x := by
  unfold onField at h
  obtain ⟨c, fs, hc, hk, h⟩ := onStruct_inv h hx
  rw [nthF_eq] at h
  cases hf : fs[f]? with
  | none => rw [hf] at h; exact absurd h.symm hx
  | some p =>
    obtain ⟨off, ft⟩ := p
    rw [hf] at h; dsimp only at h
    obtain ⟨cf, hcf, h⟩ := onSize_inv h hx
    exact ⟨c, fs, off, ft, cf, hc, hk, hf, hcf, h⟩

theorem struct_field {c : TyC} {i : TypeInfo} {d : TypeDesc} {t : TypeId} (ht : TyOk P t c i d) {fs : List (Nat × Nat)} (hk : c.k = .struct fs) {f off ft : Nat} (hf : fs[f]? = some (off, ft)) :
    ∃ l fd, P.underlying t = some (.struct l) ∧ l[f]? = some fd ∧ fd.offset = off ∧ fd.type = ft := by
  have := ht.kind
  rw [hk] at this
  obtain ⟨l, rfl, rfl⟩ := this
  rw [List.getElem?_map] at hf
  cases hl : l.toList[f]? with
  | none => rw [hl] at hf; cases hf
  | some fd =>
    rw [hl] at hf
    simp at hf
    exact ⟨l, fd, ht.under, by simpa using hl, hf.1, hf.2⟩

theorem oFieldAddr_sound (hT : TOk T P) {s : TypeId} {a : SV} {va : Value} (ha : VRel E a va) {f : Nat} {out : Out} (h : oFieldAddr T s a f = some out) :
    ∃ v rd, out = .pure v rd ∧ PureOk P E w (Instr.fieldAt s va f) v := by
  unfold oFieldAddr at h
  obtain ⟨c, fs, off, ft, cf, hc, hk, hf, hcf, h⟩ := onField_inv h (by simp)
  obtain ⟨i, d, ht⟩ := hT.ty _ _ hc
  obtain ⟨i', d', ht'⟩ := hT.ty _ _ hcf
  obtain ⟨l, fd, hu, hl, rfl, rfl⟩ := struct_field ht hk hf
  cases hz : Nat.beq cf.size 0 with
  | true => rw [hz] at h; cases h
  | false =>
    rw [hz] at h; dsimp only at h
    obtain ⟨n, o, rfl, h⟩ := onPtr_inv h (by simp)
    cases h
    simp only [VRel] at ha
    obtain ⟨ent, he, rfl⟩ := ha
    refine ⟨_, _, rfl, .pointer (some ⟨ent.blk, ent.base + (o + fd.offset), none⟩), ?_, by simp only [VRel]; exact ⟨ent, he, rfl⟩⟩
    have hne : ¬ i'.size = 0 := by
      rw [ht'.size]; intro y; rw [y] at hz; simp at hz
    simp only [Instr.fieldAt, Sem.run_bind, run_underlying hu, Result.andThen_ok, hl, Instr.sureAddr, Sem.run_pure, Go.fieldPlace, run_sizeOf ht'.info, hne, if_false, add_eq, Nat.add_assoc]

theorem oIndexAddr_sound (hT : TOk T P) {ty : TypeId} {x ix : SV} {vx vi : Value} (hx : VRel E x vx) (hi : VRel E ix vi) {out : Out} (h : oIndexAddr T ty x ix = some out) :
    ∃ v rd, out = .pure v rd ∧ PureOk P E w (Instr.indexAt ty vx vi) v := by
  unfold oIndexAddr at h
  obtain ⟨kd, i, rfl, h0⟩ := onNat_inv h (by simp)
  clear h
  simp only [VRel] at hi; subst hi
  have key : ∀ (n off len e : Nat), ixPtr T n off i len e = some out → ∀ ent, E n = some ent → i < len ∧ ∃ i' d', (∃ c, TyOk P e c i' d') ∧
      out = .pure (.ptr n (off + i * i'.size)) [] := by
    intro n off len e h ent he
    unfold ixPtr at h
    cases hb : Nat.ble (Nat.succ i) len with
    | false => rw [hb] at h; cases h
    | true =>
      rw [hb] at h; dsimp only at h
      obtain ⟨c, hc, h⟩ := onSize_inv h (by simp)
      obtain ⟨i', d', ht⟩ := hT.ty _ _ hc
      cases h
      exact ⟨ble_true hb, i', d', ⟨c, ht⟩, by rw [ht.size]; rfl⟩
  cases x <;> first | (cases h0; done) | skip
  case ptr n off =>
    obtain ⟨c, hc, h⟩ := onKind_inv h0 (by simp)
    clear h0
    obtain ⟨ti, d, ht⟩ := hT.ty _ _ hc
    cases hk : c.k <;> rw [hk] at h <;> first | (cases h; done) | skip
    rename_i len e
    have hd := ht.kind; rw [hk] at hd; simp only [KOk] at hd; subst hd
    simp only [VRel] at hx
    obtain ⟨ent, he, rfl⟩ := hx
    obtain ⟨hlt, i', d', ⟨c', ht'⟩, rfl⟩ := key n off len e h ent he
    refine ⟨_, _, rfl, .pointer (some ⟨ent.blk, ent.base + (off + i * i'.size), none⟩), ?_, by simp only [VRel]; exact ⟨ent, he, rfl⟩⟩
    have h1 : (0 : Int) ≤ (Int.ofNat i) ∧ (Int.ofNat i) < (len : Int) := by constructor <;> simp <;> omega
    simp only [Instr.indexAt, asIntOf, Sem.run_bind, Sem.run_pure, Result.andThen_ok, run_underlying ht.under, Instr.sureAddr, h1, and_self, if_true, run_sizeOf ht'.info]
    simp [add_eq, Nat.add_assoc]
  case slice n off len cap =>
    obtain ⟨c, e, hc, hk, h⟩ := onSliceT_inv h0 (by simp)
    clear h0
    obtain ⟨ti, d, ht⟩ := hT.ty _ _ hc
    have hd := ht.kind; rw [hk] at hd; simp only [KOk] at hd; subst hd
    simp only [VRel] at hx
    obtain ⟨ent, he, cc, hcc, rfl⟩ := hx
    obtain ⟨hlt, i', d', ⟨c', ht'⟩, rfl⟩ := key n off len e h ent he
    refine ⟨_, _, rfl, .pointer (some ⟨ent.blk, ent.base + (off + i * i'.size), none⟩), ?_, by simp only [VRel]; exact ⟨ent, he, rfl⟩⟩
    have h1 : (0 : Int) ≤ (Int.ofNat i) ∧ (Int.ofNat i) < (len : Int) := by constructor <;> simp <;> omega
    simp only [Instr.indexAt, asIntOf, Sem.run_bind, Sem.run_pure, Result.andThen_ok, run_underlying ht.under, Instr.sureAddr, h1, and_self, if_true, run_sizeOf ht'.info]
    simp [add_eq, Nat.add_assoc]

end
end Go.Sx

namespace Go.Sx
open Go
set_option linter.unusedVariables false
set_option linter.unusedSimpArgs false

section
variable {T : PT} {P : Program} {E : Env} {w : World} {nx : Nat}

theorem VRelL.slice : ∀ {xs : List SV} {vs : List Value}, VRelL E xs vs → ∀ (m n : Nat), VRelL E ((xs.drop m).take n) ((vs.drop m).take n)
  | [], vs, r, m, n => by simp only [VRelL] at r; subst r; simpa using VRelL.nil
  | x :: xs, vs, r, m, n => by
    simp only [VRelL] at r
    obtain ⟨v, vs', hv, hr, rfl⟩ := r
    cases m with
    | zero =>
      cases n with
      | zero => simpa using VRelL.nil
      | succ n => simpa using VRelL.cons hv (by simpa using VRelL.slice hr 0 n)
    | succ m => simpa using VRelL.slice hr m n

theorem part_ok {ft : TypeId} {cf : TyC} {i : TypeInfo} {d : TypeDesc} (ht : TyOk P ft cf i d) {cs : List SV} {vs : List Value} (hr : VRelL E cs vs) (off : Nat)
    {v : SV} (hv : pack (isAggK cf.k) ((cs.drop off).take cf.size) = some v) (hl : off + cf.size ≤ cs.length) : PureOk P E w (part ft vs.toArray off) v := by
  have hlen := hr.length
  rcases pack_inv hv with ⟨hagg, rfl⟩ | ⟨hagg, r, hx⟩
  · refine ⟨.agg (vs.toArray.extract off (off + i.size)), ?_, ?_⟩
    · simp only [part, Sem.run_bind, run_isAgg ht.under ht.kind, hagg, Result.andThen_ok, if_true, run_sizeOf ht.info, Sem.run_pure]
    · simp only [VRel]
      refine ⟨(vs.drop off).take cf.size, hr.slice off cf.size, ?_⟩
      congr 1
      apply Array.ext'
      simp [ht.size, List.take_drop, Nat.add_comm]
  · have h0 : cs[off]? = some v := by
      have h1 : ((cs.drop off).take cf.size)[0]? = some v := by rw [hx]; rfl
      rw [List.getElem?_take] at h1
      split at h1
      · simpa using h1
      · cases h1
    obtain ⟨u, hu, hvu⟩ := hr.get off v h0
    refine ⟨u, ?_, hvu⟩
    simp only [part, Sem.run_bind, run_isAgg ht.under ht.kind, hagg, Result.andThen_ok, Bool.false_eq_true, if_false]
    simp [hu]

theorem packR_inv {agg : Bool} {cs : List SV} {rd : List Nat} {out : Out} (h : packR agg cs rd = some out) : ∃ v, pack agg cs = some v ∧ out = .pure v rd := by
  unfold packR at h
  cases hp : pack agg cs with
  | none => rw [hp] at h; cases h
  | some v => rw [hp] at h; cases h; exact ⟨v, rfl, rfl⟩

theorem oField_sound (hT : TOk T P) {ty : TypeId} {x : SV} {vx : Value} (hx : VRel E x vx) {f : Nat} {out : Out} (h : oField T ty x f = some out) :
    ∃ v rd, out = .pure v rd ∧ PureOk P E w (Instr.field ty vx f) v := by
  unfold oField at h
  obtain ⟨c, fs, off, ft, cf, hc, hk, hf, hcf, h1⟩ := onField_inv h (by simp)
  obtain ⟨cs, rfl, h2⟩ := onAgg_inv h1 (by simp)
  obtain ⟨hl, h3⟩ := slcK_inv h2 (by simp)
  obtain ⟨v, hp, rfl⟩ := packR_inv h3
  obtain ⟨i, d, ht⟩ := hT.ty _ _ hc
  obtain ⟨i', d', ht'⟩ := hT.ty _ _ hcf
  obtain ⟨l, fd, hu, hlf, rfl, rfl⟩ := struct_field ht hk hf
  simp only [VRel] at hx
  obtain ⟨vs, hr, rfl⟩ := hx
  refine ⟨_, _, rfl, ?_⟩
  obtain ⟨val, hrun, hrel⟩ := part_ok (w := w) ht' hr fd.offset hp hl
  refine ⟨val, ?_, hrel⟩
  simp only [Instr.field, Sem.run_bind, run_underlying hu, Result.andThen_ok, hlf, asAgg, Sem.run_pure, hrun]

theorem mkBA_size (s : List Nat) : (mkBA s).size = s.length := by simp [mkBA, ByteArray.size]
theorem mkBA_get {s : List Nat} {i b : Nat} (h : s[i]? = some b) : (mkBA s)[i]? = some (UInt8.ofNat b) := by
  have hl : i < s.length := by
    rcases Nat.lt_or_ge i s.length with x | x
    · exact x
    · simp [List.getElem?_eq_none x] at h
  have hs : i < (mkBA s).size := by rw [mkBA_size]; exact hl
  rw [getElem?_pos (mkBA s) i hs]
  have : (mkBA s)[i] = (mkBA s).data[i]'hs := rfl
  rw [this]
  simp only [mkBA, List.getElem_toArray, List.getElem_map]
  rw [List.getElem?_eq_getElem hl] at h
  cases h; rfl
theorem ofNat_toNat {b : Nat} (h : b < 256) : (UInt8.ofNat b).toNat = b := by simp [UInt8.toNat_ofNat]; omega

theorem oIndex_sound (hT : TOk T P) {ty : TypeId} {x ix : SV} {vx vi : Value} (hx : VRel E x vx) (hi : VRel E ix vi) {out : Out} (h : oIndex T ty x ix = some out) :
    ∃ v rd, out = .pure v rd ∧ PureOk P E w (Instr.index ty vx vi) v := by
  unfold oIndex at h
  obtain ⟨kd, i, rfl, h0⟩ := onNat_inv h (by simp)
  clear h
  simp only [VRel] at hi; subst hi
  obtain ⟨c, hc, h1⟩ := onKind_inv h0 (by simp)
  clear h0
  obtain ⟨ti, d, ht⟩ := hT.ty _ _ hc
  cases hk : c.k <;> rw [hk] at h1 <;> first | (cases h1; done) | skip
  case str =>
    have hd := ht.kind; rw [hk] at hd; simp only [KOk] at hd; subst hd
    obtain ⟨s, rfl, h2⟩ := onStr_inv h1 (by simp)
    rw [nthN_eq] at h2
    cases hb : s[i]? with
    | none => rw [hb] at h2; cases h2
    | some b =>
      rw [hb] at h2; cases h2
      simp only [VRel] at hx
      obtain ⟨rfl, hs⟩ := hx
      have hb256 := hs b (List.mem_of_getElem? hb)
      refine ⟨_, _, rfl, .int .u8 b, ?_, by simp [VRel]⟩
      simp only [Instr.index, asIntOf, Sem.run_bind, Sem.run_pure, Result.andThen_ok, run_underlying ht.under]
      have h0 : (0 : Int) ≤ Int.ofNat i := by simp
      have h1 : (Int.ofNat i).toNat = i := by simp
      simp only [h0, if_true, h1, mkBA_get hb, ofNat_toNat hb256]
      rfl
  case array len e =>
    have hd := ht.kind; rw [hk] at hd; simp only [KOk] at hd; subst hd
    obtain ⟨cs, rfl, h2⟩ := onAgg_inv h1 (by simp)
    clear h1
    cases hb : Nat.ble (Nat.succ i) len with
    | false => rw [hb] at h2; cases h2
    | true =>
      rw [hb] at h2; dsimp only at h2
      have hlt := ble_true hb
      obtain ⟨ce, hce, h3⟩ := onSize_inv h2 (by simp)
      clear h2
      obtain ⟨hl, h4⟩ := slcK_inv h3 (by simp)
      clear h3
      obtain ⟨v, hp, rfl⟩ := packR_inv h4
      obtain ⟨i', d', ht'⟩ := hT.ty _ _ hce
      simp only [VRel] at hx
      obtain ⟨vs, hr, rfl⟩ := hx
      refine ⟨_, _, rfl, ?_⟩
      obtain ⟨val, hrun, hrel⟩ := part_ok (w := w) ht' hr (Nat.mul i ce.size) hp hl
      refine ⟨val, ?_, hrel⟩
      have h1 : (0 : Int) ≤ (Int.ofNat i) ∧ (Int.ofNat i) < (len : Int) := by constructor <;> simp <;> omega
      simp only [Instr.index, asIntOf, Sem.run_bind, Sem.run_pure, Result.andThen_ok, run_underlying ht.under, h1, and_self, if_true, run_sizeOf ht'.info]
      have h2 : (Int.ofNat i).toNat * i'.size = Nat.mul i ce.size := by rw [ht'.size]; simp
      rw [h2]; exact hrun

/-! ### literals -/
theorem foldl_arrW : ∀ (l : List Value) (k off : Nat) (a : Array Value),
    (l.zipIdx k).foldl (fun cs (c, j) => cs.setIfInBounds (off + j) c) a = arrW a (off + k) l
  | [], _, _, _ => rfl
  | v :: l, k, off, a => by
    simp only [List.zipIdx_cons, List.foldl_cons, arrW]
    rw [foldl_arrW l (k + 1) off]; rfl
theorem foldl_arrW' (c : Array Value) (off : Nat) (a : Array Value) :
    c.zipIdx.foldl (fun cs (c, j) => cs.setIfInBounds (off + j) c) a = arrW a off c.toList := by
  rw [← Array.foldl_toList, Array.toList_zipIdx]
  exact foldl_arrW c.toList 0 off a

theorem arrW_rel {cs vs : List SV} {a : Array Value} {us : List Value} (hr : VRelL E cs a.toList) (hu : VRelL E vs us) {off : Nat} (hl : off + vs.length ≤ cs.length) :
    VRelL E (cs.take off ++ vs ++ cs.drop (off + vs.length)) (arrW a off us).toList := by
  have h1 := hr.length
  have h2 := hu.length
  simp only [Array.length_toList] at h1
  refine VRelL.of_get (by simp [arrW_size]; omega) fun i x v hx hv => ?_
  rw [Array.getElem?_toList, arrW_get us a off i (by omega)] at hv
  by_cases hin : off ≤ i ∧ i < off + vs.length
  · rw [if_pos ⟨hin.1, by omega⟩] at hv
    have hx' : vs[i - off]? = some x := by
      rw [List.append_assoc, List.getElem?_append_right (by simp; omega)] at hx
      rw [List.getElem?_append_left (by simp; omega)] at hx
      rwa [show i - (cs.take off).length = i - off by simp; omega] at hx
    obtain ⟨v', a', b'⟩ := hu.get (i - off) x hx'
    rw [a'] at hv; cases hv; exact b'
  · rw [if_neg (by omega)] at hv
    have hx' : cs[i]? = some x := by
      rcases Nat.lt_or_ge i off with h1 | h1
      · rw [List.append_assoc, List.getElem?_append_left (by simp; omega)] at hx
        rw [List.getElem?_take] at hx; simpa [h1] using hx
      · rw [List.getElem?_append_right (by simp; omega)] at hx
        rw [List.getElem?_drop] at hx
        rwa [show off + vs.length + (i - (cs.take off ++ vs).length) = i by simp; omega] at hx
    obtain ⟨v', a', b'⟩ := hr.get i x hx'
    rw [Array.getElem?_toList] at a'
    rw [a'] at hv; cases hv; exact b'

/-- parts, related one by one -/
def PRel (E : Env) : List (Nat × SV) → List (Nat × Value) → Prop
  | [], ps => ps = []
  | (i, x) :: r, ps => ∃ v ps', VRel E x v ∧ PRel E r ps' ∧ ps = (i, v) :: ps'

theorem fill_ok {place : Nat → Option (Nat × Nat)} : ∀ (ps : List (Nat × SV)) (cs : List SV) (a : Array Value) (qs : List (Nat × Value)) (out : List SV),
    VRelL E cs a.toList → PRel E ps qs → fillC place cs ps = some out → ∃ b, Instr.fill place a qs = some b ∧ VRelL E out b.toList
  | [], cs, a, qs, out, hr, hp, h => by
    simp only [PRel] at hp; subst hp
    cases h
    exact ⟨a, rfl, hr⟩
  | (i, x) :: ps, cs, a, qs, out, hr, hp, h => by
    simp only [PRel] at hp
    obtain ⟨v, qs', hv, hp', rfl⟩ := hp
    unfold fillC at h
    cases hpl : place i with
    | none => rw [hpl] at h; cases h
    | some p =>
      obtain ⟨off, size⟩ := p
      rw [hpl] at h; dsimp only at h
      cases hz : noBad x && Nat.beq (lenS x.cells) size with
      | false => rw [hz] at h; cases h
      | true =>
        rw [hz] at h; dsimp only at h
        simp only [Bool.and_eq_true] at hz
        obtain ⟨hnb, hz⟩ := hz
        have hz := beq_true hz; rw [lenS_eq] at hz
        obtain ⟨hl, h'⟩ := wrK_inv h (by simp)
        have hc := cells_rel hv hnb
        have hlen := hc.length
        have hrl := hr.length
        simp only [Array.length_toList] at hlen hrl
        obtain ⟨b, hb1, hb2⟩ := fill_ok ps _ (arrW a off v.cells.toList) qs' out (arrW_rel hr hc hl) hp' h'
        refine ⟨b, ?_, hb2⟩
        unfold Instr.fill
        rw [hpl]; dsimp only
        have hc1 : (v.cells.size ≠ size || off + v.cells.size > a.size) = false := by simp; omega
        simp only [hc1, Bool.false_eq_true, if_false]
        rw [foldl_arrW']
        exact hb1

/-- the places of a struct's fields, as the model takes them -/
theorem run_places (hT : TOk T P) : ∀ (l : List Field), (∀ f ∈ l, ∃ i, P.info? f.type = some i) →
    ∃ pl : List (Nat × Nat), (l.mapM fun f => do pure (f.offset, ← sizeOf f.type) : Sem (List (Nat × Nat))).run P w = .ok pl w ∧
      (∀ (k : Nat) (f : Field) (i : TypeInfo), l[k]? = some f → P.info? f.type = some i → pl[k]? = some (f.offset, i.size)) ∧ pl.length = l.length
  | [], _ => ⟨[], by simp, by simp, rfl⟩
  | f :: l, h => by
    obtain ⟨pl, h1, h2, h3⟩ := run_places hT l (fun g hg => h g (by simp [hg]))
    obtain ⟨i, hi⟩ := h f (by simp)
    refine ⟨(f.offset, i.size) :: pl, ?_, ?_, by simp [h3]⟩
    · simp only [List.mapM_cons, Sem.run_bind, run_sizeOf hi, Result.andThen_ok, Sem.run_pure, h1]
    · intro k g j hk hj
      cases k with
      | zero => simp at hk; subst hk; rw [hi] at hj; cases hj; rfl
      | succ k => simpa using h2 k g j (by simpa using hk) hj
end
end Go.Sx

namespace Go.Sx
open Go
set_option linter.unusedVariables false
set_option linter.unusedSimpArgs false

section
variable {T : PT} {P : Program} {E : Env} {w : World} {nx : Nat}

theorem fill_mono {pl pl' : Nat → Option (Nat × Nat)} (h : ∀ i p, pl i = some p → pl' i = some p) : ∀ (qs : List (Nat × Value)) (a b : Array Value),
    Instr.fill pl a qs = some b → Instr.fill pl' a qs = some b
  | [], a, b, hb => hb
  | (i, v) :: qs, a, b, hb => by
    unfold Instr.fill at hb ⊢
    cases hp : pl i with
    | none => rw [hp] at hb; cases hb
    | some p =>
      obtain ⟨off, size⟩ := p
      rw [hp] at hb; rw [h i _ hp]; dsimp only at hb ⊢
      split at hb
      · cases hb
      · rename_i hc; rw [if_neg hc]; exact fill_mono h qs _ _ hb

theorem run_mapM_places (hT : TOk T P) (fs : Array Field) (h : ∀ f ∈ fs.toList, ∃ i, P.info? f.type = some i) :
    ∃ pl : List (Nat × Nat), (fs.mapM fun f => do pure (f.offset, ← sizeOf f.type) : Sem (Array (Nat × Nat))).run P w = .ok pl.toArray w ∧
      (∀ (k : Nat) (f : Field) (i : TypeInfo), fs.toList[k]? = some f → P.info? f.type = some i → pl[k]? = some (f.offset, i.size)) := by
  obtain ⟨pl, h1, h2, _⟩ := run_places (w := w) hT fs.toList h
  refine ⟨pl, ?_, h2⟩
  rw [Array.mapM_eq_mapM_toList]
  show Sem.run P (List.toArray <$> _) w = _
  rw [map_eq_pure_bind, Sem.run_bind, h1]; rfl

theorem fieldPl_inv {fs : List (Nat × Nat)} {i off z : Nat} (h : fieldPl T fs i = some (off, z)) : ∃ ft cf, fs[i]? = some (off, ft) ∧ T.ty.get ft = some cf ∧ z = cf.size := by
  unfold fieldPl at h
  rw [nthF_eq] at h
  cases hf : fs[i]? with
  | none => rw [hf] at h; cases h
  | some p =>
    obtain ⟨o, ft⟩ := p
    rw [hf] at h; dsimp only at h
    obtain ⟨cf, hcf, h⟩ := onSize_inv h (by simp)
    cases h
    exact ⟨ft, cf, rfl, hcf, rfl⟩

theorem zero_agg {t : TypeId} {c : TyC} {i : TypeInfo} {d : TypeDesc} (ht : TyOk P t c i d) (hz : c.zero.length = c.size) (hagg : isAggK c.k = true) :
    ∃ cs, i.zero = some (.agg cs) ∧ ∀ E, VRelL E c.zero cs.toList := by
  obtain ⟨z, h1, h2⟩ := ht.zero hz
  unfold ZOk at h2
  simp only [hagg, if_true] at h2
  obtain ⟨cs, rfl, hr⟩ := h2
  exact ⟨cs, h1, hr⟩

theorem oBuild_sound (hT : TOk T P) {ty : TypeId} {ps : List (Nat × SV)} {qs : Array (Nat × Value)} (hp : PRel E ps qs.toList) {out : Out} (h : oBuild T ty ps = some out) :
    ∃ v rd, out = .pure v rd ∧ PureOk P E w (Instr.build ty qs) v := by
  unfold oBuild at h
  obtain ⟨c, hc, h1⟩ := onTy_inv h (by simp)
  clear h
  obtain ⟨i, d, ht⟩ := hT.ty _ _ hc
  cases hz : Nat.beq (lenS c.zero) c.size with
  | false => dsimp only at h1; rw [hz] at h1; cases h1
  | true =>
  dsimp only at h1; rw [hz] at h1; dsimp only at h1
  have hz := beq_true hz
  rw [lenS_eq] at hz
  cases hk : c.k <;> rw [hk] at h1 <;> first | (cases h1; done) | skip
  case struct fs =>
    dsimp only at h1
    obtain ⟨cs0, hi0, hr0⟩ := zero_agg ht hz (by rw [hk]; rfl)
    have hd := ht.kind; rw [hk] at hd
    obtain ⟨l, rfl, rfl⟩ := hd
    cases hf : fillC (fieldPl T (l.toList.map fun f => (f.offset, f.type))) c.zero ps with
    | none => rw [hf] at h1; cases h1
    | some cs =>
      rw [hf] at h1; cases h1
      obtain ⟨b, hb, hrel⟩ := fill_ok ps _ cs0 qs.toList cs (hr0 E) hp hf
      obtain ⟨pl, hpl, hpl2⟩ := run_mapM_places (w := w) hT l (ht.fields l rfl)
      have hb' := fill_mono (pl' := (pl.toArray[·]?)) (fun k p hp => by
        obtain ⟨off, z⟩ := p
        obtain ⟨ft, cf, h1, h2, rfl⟩ := fieldPl_inv hp
        obtain ⟨i', d', ht'⟩ := hT.ty _ _ h2
        rw [List.getElem?_map] at h1
        cases hl : l.toList[k]? with
        | none => rw [hl] at h1; cases h1
        | some f =>
          rw [hl] at h1; simp at h1
          obtain ⟨rfl, rfl⟩ := h1
          have := hpl2 k f i' hl ht'.info
          simp only [List.getElem?_toArray, this, ht'.size]) qs.toList _ _ hb
      refine ⟨_, _, rfl, .agg b, ?_, by simp only [VRel]; exact ⟨b.toList, hrel, by simp⟩⟩
      simp only [Instr.build, Sem.run_bind, run_zeroValue ht.info hi0, Result.andThen_ok, run_underlying ht.under, hpl, Value.cells]
      rw [hb']; simp
  case array n e =>
    dsimp only at h1
    obtain ⟨cs0, hi0, hr0⟩ := zero_agg ht hz (by rw [hk]; rfl)
    have hd := ht.kind; rw [hk] at hd; simp only [KOk] at hd; subst hd
    obtain ⟨ce, hce, h2⟩ := onSize_inv h1 (by simp)
    obtain ⟨i', d', ht'⟩ := hT.ty _ _ hce
    cases hf : fillC (fun i => some (Nat.mul i ce.size, ce.size)) c.zero ps with
    | none => rw [hf] at h2; cases h2
    | some cs =>
      rw [hf] at h2; cases h2
      obtain ⟨b, hb, hrel⟩ := fill_ok ps _ cs0 qs.toList cs (hr0 E) hp hf
      refine ⟨_, _, rfl, .agg b, ?_, by simp only [VRel]; exact ⟨b.toList, hrel, by simp⟩⟩
      have hb2 : Instr.fill (fun i => some (i * ce.size, ce.size)) cs0 qs.toList = some b := hb
      simp only [Instr.build, Sem.run_bind, run_zeroValue ht.info hi0, Result.andThen_ok, run_underlying ht.under, Value.cells, run_sizeOf ht'.info, ht'.size, hb2, Sem.run_pure]

/-! ### rows of zero values -/
theorem repl_succ (z : List SV) (n : Nat) : repl z (n + 1) = z ++ repl z n := rfl
theorem repl_length (z : List SV) : ∀ n, (repl z n).length = n * z.length
  | 0 => by show ([] : List SV).length = _; simp
  | n + 1 => by rw [repl_succ, List.length_append, repl_length z n, Nat.succ_mul, Nat.add_comm]
theorem repl_get (z : List SV) : ∀ (n i : Nat), i < n * z.length → (repl z n)[i]? = z[i % z.length]?
  | 0, i, h => by simp at h
  | n + 1, i, h => by
    rw [repl_succ]
    rw [Nat.succ_mul] at h
    by_cases hi : i < z.length
    · rw [List.getElem?_append_left hi, Nat.mod_eq_of_lt hi]
    · have hi : z.length ≤ i := by omega
      rw [List.getElem?_append_right hi, repl_get z n (i - z.length) (by omega), Nat.mod_eq_sub_mod hi]

theorem zeros_rel {zs : List SV} {zv : Array Value} (hr : VRelL E zs zv.toList) (h0 : zs.length ≠ 0) (n : Nat) :
    VRelL E (repl zs n) ((Array.range (n * zs.length)).map (zv[· % zv.size]!)).toList := by
  have hl : zv.size = zs.length := by have := hr.length; simpa using this
  refine VRelL.of_get (by simp [repl_length]) fun i x v hx hv => ?_
  have hi : i < n * zs.length := by
    rcases Nat.lt_or_ge i (n * zs.length) with y | y
    · exact y
    · rw [List.getElem?_eq_none (by rw [repl_length]; exact y)] at hx; cases hx
  rw [repl_get zs n i hi] at hx
  obtain ⟨u, hu, hvu⟩ := hr.get _ _ hx
  have : v = u := by
    rw [Array.getElem?_toList, Array.getElem?_map, Array.getElem?_range, if_pos hi] at hv
    have hv' : zv[i % zv.size]! = v := Option.some.inj hv
    rw [← hv', hl]
    rw [Array.getElem?_toList] at hu
    rw [getElem!_def, hu]
  rw [this]; exact hvu

theorem oBuildSlice_sound (hT : TOk T P) {H : HF} (hR : R P E H w) (hn : E nx = none) {ty : TypeId} {len : Nat} {ps : List (Nat × SV)} {qs : Array (Nat × Value)} (hp : PRel E ps qs.toList)
    {out : Out} (h : oBuildSlice T nx ty len ps = some out) : ValOk P E nx H w (Instr.buildSlice ty len qs) out := by
  unfold oBuildSlice at h
  obtain ⟨c, e, hc, hk, h1⟩ := onSliceT_inv h (by simp)
  clear h
  obtain ⟨i, d, ht⟩ := hT.ty _ _ hc
  have hd := ht.kind; rw [hk] at hd; simp only [KOk] at hd; subst hd
  obtain ⟨ce, hce, hz, h2⟩ := onZero_inv h1 (by simp)
  clear h1
  obtain ⟨i', d', ht'⟩ := hT.ty _ _ hce
  cases hb : !Nat.beq ce.size 0 && Nat.ble (Nat.mul len ce.size) 16777216 && Nat.beq (lenS ce.zero) ce.size with
  | false => rw [hb] at h2; cases h2
  | true =>
    rw [hb] at h2; dsimp only at h2
    simp only [Bool.and_eq_true, Bool.not_eq_true'] at hb
    obtain ⟨⟨hb1, hb2⟩, _⟩ := hb
    have hb2 : len * ce.size ≤ 16777216 := ble_true hb2
    have hne : ce.size ≠ 0 := fun y => by rw [y] at hb1; simp at hb1
    obtain ⟨z, hiz, hr, _⟩ := zero_cells ht' hz
    cases hf : fillC (fun i => some (Nat.mul i ce.size, ce.size)) (repl ce.zero len) ps with
    | none => rw [hf] at h2; cases h2
    | some cs =>
      rw [hf] at h2; cases h2
      by_cases h0 : len * ce.size = 0
      · have hl0 : len = 0 := by
          rcases Nat.mul_eq_zero.1 h0 with y | y
          · exact y
          · exact absurd y hne
        subst hl0
        have hrn : VRelL E (repl ce.zero 0) (#[] : Array Value).toList := VRelL.nil
        obtain ⟨b, hb, hrel⟩ := fill_ok ps _ #[] qs.toList cs hrn hp hf
        have hb' : Instr.fill (fun i => some (i * ce.size, ce.size)) #[] qs.toList = some b := hb
        have hc2 := new_cells (nx := nx) hR hn hrel e 0 (by intros; simp)
        refine ⟨_, _, _, .slice (some ⟨w.heap.size, 0, none⟩) 0 0, rfl, ?_, ?_, hc2⟩
        · have h00 : (Array.range 0).map ((#[] : Array Value)[· % (#[] : Array Value).size]!) = #[] := by simp
          have hle : ¬ 0 * ce.size > 2 ^ 24 := by omega
          simp only [Instr.buildSlice, Sem.run_bind, run_underlying ht.under, run_sizeOf ht'.info, ht'.size, Result.andThen_ok, hle, if_false, Sem.run_pure]
          simp only [h0, if_true, Sem.run_bind, Sem.run_pure, Result.andThen_ok, h00, hb', run_newRow]
        · exact envPut_slice ⟨Nat.le_refl _, rfl⟩
      · have hzl : ce.zero.length ≠ 0 := by rw [hz]; exact hne
        have hzr := zeros_rel (hr E) hzl len
        rw [hz] at hzr
        obtain ⟨b, hb, hrel⟩ := fill_ok ps _ _ qs.toList cs hzr hp hf
        have hb' : Instr.fill (fun i => some (i * ce.size, ce.size)) _ qs.toList = some b := hb
        have hc2 := new_cells (nx := nx) hR hn hrel e 0 (by intros; simp)
        refine ⟨_, _, _, .slice (some ⟨w.heap.size, 0, none⟩) len len, rfl, ?_, ?_, hc2⟩
        · have hle : ¬ len * ce.size > 2 ^ 24 := by omega
          simp only [Instr.buildSlice, Sem.run_bind, run_underlying ht.under, run_sizeOf ht'.info, ht'.size, Result.andThen_ok, hle, h0, if_false, run_zeroValue ht'.info hiz, Sem.run_pure, hb', run_newRow]
        · exact envPut_slice ⟨Nat.le_refl _, rfl⟩

theorem wrap_id {n : Nat} (h : n < 9223372036854775808) : IntKind.i64.wrap (Int.ofNat n) = (n : Int) := by
  simp [IntKind.wrap, IntKind.bits, IntKind.signed]; omega

theorem oMakeSlice_sound (hT : TOk T P) {H : HF} (hR : R P E H w) (hn : E nx = none) {ty : TypeId} {l c : SV} {vl vc : Value} (hl : VRel E l vl) (hcv : VRel E c vc)
    {out : Out} (h : oMakeSlice T nx ty l c = some out) : ValOk P E nx H w (Instr.makeSlice ty vl vc) out := by
  unfold oMakeSlice at h
  obtain ⟨tc, e, htc, hk, h1⟩ := onSliceT_inv h (by simp)
  clear h
  obtain ⟨i, d, ht⟩ := hT.ty _ _ htc
  have hd := ht.kind; rw [hk] at hd; simp only [KOk] at hd; subst hd
  obtain ⟨kl, l, rfl, h2⟩ := onNat_inv h1 (by simp)
  clear h1
  obtain ⟨kc, c, rfl, h3⟩ := onNat_inv h2 (by simp)
  clear h2
  obtain ⟨ce, hce, h4⟩ := onTy_inv h3 (by simp)
  clear h3
  obtain ⟨i', d', ht'⟩ := hT.ty _ _ hce
  simp only [VRel] at hl hcv
  subst hl; subst hcv
  cases hb : !Nat.beq ce.size 0 && Nat.ble c 1048576 && Nat.ble ce.bytes 1048576 && Nat.ble l c && Nat.beq (lenS ce.zero) ce.size with
  | false => dsimp only at h4; rw [hb] at h4; cases h4
  | true =>
    dsimp only at h4; rw [hb] at h4; dsimp only at h4; cases h4
    simp only [Bool.and_eq_true, Bool.not_eq_true'] at hb
    obtain ⟨⟨⟨⟨hb1, hb2⟩, hb3⟩, hb4⟩, hb5⟩ := hb
    have hne : ce.size ≠ 0 := fun y => by rw [y] at hb1; simp at hb1
    have hb2 := ble_true hb2
    have hb3 := ble_true hb3
    have hb4 := ble_true hb4
    have hz := beq_true hb5; rw [lenS_eq] at hz
    obtain ⟨z, hiz, hr, _⟩ := zero_cells ht' hz
    have hwl : IntKind.i64.wrap (Int.ofNat l) = (l : Int) := wrap_id (by omega)
    have hwc : IntKind.i64.wrap (Int.ofNat c) = (c : Int) := wrap_id (by omega)
    have hbig : ¬ ((c : Int) < 0 ∨ (i'.bytes : Int) * (c : Int) > 2 ^ 48) := by
      rw [ht'.bytes]
      have : ce.bytes * c ≤ 1048576 * 1048576 := Nat.mul_le_mul hb3 hb2
      have h2 : ((ce.bytes * c : Nat) : Int) ≤ ((1048576 * 1048576 : Nat) : Int) := Int.ofNat_le.2 this
      rw [Int.natCast_mul] at h2
      omega
    have hne' : ce.zero.length ≠ 0 := by rw [hz]; exact hne
    have hzr := zeros_rel (hr E) hne' c
    rw [hz] at hzr
    have hc2 := new_cells (nx := nx) hR hn hzr e 0 (by intros; simp)
    refine ⟨_, _, _, .slice (some ⟨w.heap.size, 0, none⟩) l c, rfl, ?_, envPut_slice ⟨hb4, rfl⟩, hc2⟩
    have hgt : ¬ ((l : Int) > (c : Int)) := by omega
    have hlt : ¬ ((l : Int) < 0) := by omega
    simp only [Instr.makeSlice, asInt, asIntOf, Sem.run_bind, run_underlying ht.under, Result.andThen_ok, Sem.run_pure, run_typeInfo ht'.info, hwl, hwc]
    have hcond : (decide ((c : Int) < 0) || decide ((i'.bytes : Int) * (c : Int) > 2 ^ 48)) = false := by
      simp only [Bool.or_eq_false_iff, decide_eq_false_iff_not]
      exact ⟨fun y => hbig (.inl y), fun y => hbig (.inr y)⟩
    simp only [hcond, hgt, hlt, decide_false, Bool.or_self, Bool.false_eq_true, or_self, if_false, Sem.run_bind, run_askRoom, Result.andThen_ok, run_sizeOf ht'.info, ht'.size, Int.toNat_natCast]
    by_cases h0 : c * ce.size = 0
    · have h00 : ∀ z : Array Value, (Array.range 0).map (z[· % z.size]!) = #[] := fun z => by simp
      simp only [h0, if_true, Sem.run_bind, Sem.run_pure, Result.andThen_ok, h00, run_newRow]
    · simp only [h0, if_false, Sem.run_bind, Sem.run_pure, Result.andThen_ok, run_zeroValue ht'.info hiz, run_newRow]
end
end Go.Sx

namespace Go.Sx
open Go
set_option linter.unusedVariables false
set_option linter.unusedSimpArgs false

section
variable {T : PT} {P : Program} {E : Env} {w : World} {nx : Nat}

/-- optional operands -/
def ORel (E : Env) : Option SV → Option Value → Prop
  | none, v => v = none
  | some x, v => ∃ y, v = some y ∧ VRel E x y

theorem bound_some {v : SV} {y : Value} (hv : VRel E v y) {most dflt i : Nat} (h : bound (some v) most dflt = some i) (cap : Nat) (hc : most ≤ cap) (code : BoundsCode) :
    i ≤ most ∧ (Instr.sliceBound y cap code).run P w = .ok i w := by
  unfold bound at h
  dsimp only at h
  obtain ⟨kd, n, rfl, g⟩ := onNat_inv h (by simp)
  clear h
  simp only [VRel] at hv; subst hv
  cases hb : Nat.ble n most with
  | false => rw [hb] at g; cases g
  | true =>
    rw [hb] at g; cases g
    have hb := ble_true hb
    have h1 : (0 : Int) ≤ Int.ofNat i ∧ Int.ofNat i ≤ (cap : Int) := by constructor <;> simp <;> omega
    refine ⟨hb, ?_⟩
    simp only [Instr.sliceBound, asIntOf, Sem.run_bind, Sem.run_pure, Result.andThen_ok, h1, and_self, if_true]
    simp

theorem boundsK_inv {β : Type} {d x : β} {len cap : Nat} {lo hi mx : Option SV} {k : Nat → Nat → Nat → β} (h : boundsK len cap lo hi mx d k = x) (hx : x ≠ d) :
    ∃ l h m, bound mx cap cap = some m ∧ bound hi m len = some h ∧ bound lo h 0 = some l ∧ k l h m = x ∧ (mx.isSome && hi.isNone) = false := by
  unfold boundsK at h
  cases hb : mx.isSome && hi.isNone with
  | true => rw [hb] at h; exact absurd h.symm hx
  | false =>
    rw [hb] at h; dsimp only at h
    cases h1 : bound mx cap cap with
    | none => rw [h1] at h; exact absurd h.symm hx
    | some m =>
      rw [h1] at h; dsimp only at h
      cases h2 : bound hi m len with
      | none => rw [h2] at h; exact absurd h.symm hx
      | some hh =>
        rw [h2] at h; dsimp only at h
        cases h3 : bound lo hh 0 with
        | none => rw [h3] at h; exact absurd h.symm hx
        | some l => rw [h3] at h; exact ⟨l, hh, m, rfl, h2, h3, h, rfl⟩

theorem run_lo {lo : Option SV} {vlo : Option Value} (hlo : ORel E lo vlo) {h l : Nat} (hb : bound lo h 0 = some l) :
    l ≤ h ∧ ((vlo = none ∧ l = 0) ∨ ∃ v, vlo = some v ∧ ∀ code, (Instr.sliceBound v h code).run P w = .ok l w) := by
  cases lo with
  | none => simp only [ORel] at hlo; subst hlo; simp [bound] at hb; subst hb; exact ⟨Nat.zero_le _, .inl ⟨rfl, rfl⟩⟩
  | some x =>
    simp only [ORel] at hlo; obtain ⟨y, rfl, hy⟩ := hlo
    exact ⟨(bound_some (P := P) (w := w) hy hb h (Nat.le_refl _) .index).1, .inr ⟨y, rfl, fun code => (bound_some hy hb h (Nat.le_refl _) code).2⟩⟩

/-- within a room that is known -/
theorem run_bounds {len cap : Nat} (hle : len ≤ cap) {lo hi mx : Option SV} {vlo vhi vmx : Option Value} (hlo : ORel E lo vlo) (hhi : ORel E hi vhi) (hmx : ORel E mx vmx)
    {l h m : Nat} (h1 : bound mx cap cap = some m) (h2 : bound hi m len = some h) (h3 : bound lo h 0 = some l) (h4 : (mx.isSome && hi.isNone) = false) (b : Bool) :
    l ≤ h ∧ h ≤ m ∧ m ≤ cap ∧ (Instr.sliceBounds b len cap vlo vhi vmx).run P w = .ok (l, h, m) w := by
  obtain ⟨hl, hrl⟩ := run_lo (P := P) (w := w) hlo h3
  cases mx with
  | none =>
    simp only [ORel] at hmx; subst hmx
    simp [bound] at h1; subst h1
    cases hi with
    | none =>
      simp only [ORel] at hhi; subst hhi
      simp [bound] at h2; subst h2
      refine ⟨hl, hle, Nat.le_refl _, ?_⟩
      rcases hrl with ⟨rfl, rfl⟩ | ⟨v, rfl, hrl⟩
      · simp only [Instr.sliceBounds, Sem.run_bind, Sem.run_pure, Result.andThen_ok]
      · simp only [Instr.sliceBounds, Sem.run_bind, Sem.run_pure, Result.andThen_ok, hrl]
    | some y =>
      simp only [ORel] at hhi; obtain ⟨vy, rfl, hy⟩ := hhi
      obtain ⟨a, b'⟩ := bound_some (P := P) (w := w) hy h2 cap (Nat.le_refl _) (if b then .sliceAcap else .sliceAlen)
      refine ⟨hl, a, Nat.le_refl _, ?_⟩
      rcases hrl with ⟨rfl, rfl⟩ | ⟨v, rfl, hrl⟩
      · simp only [Instr.sliceBounds, Sem.run_bind, Sem.run_pure, Result.andThen_ok, b']
      · simp only [Instr.sliceBounds, Sem.run_bind, Sem.run_pure, Result.andThen_ok, b', hrl]
  | some x =>
    simp only [ORel] at hmx; obtain ⟨vx, rfl, hx⟩ := hmx
    obtain ⟨a, b'⟩ := bound_some (P := P) (w := w) hx h1 cap (Nat.le_refl _) (if b then .slice3Acap else .slice3Alen)
    cases hi with
    | none => simp at h4
    | some y =>
      simp only [ORel] at hhi; obtain ⟨vy, rfl, hy⟩ := hhi
      obtain ⟨a2, b2⟩ := bound_some (P := P) (w := w) hy h2 m (Nat.le_refl _) .slice3B
      refine ⟨hl, a2, a, ?_⟩
      rcases hrl with ⟨rfl, rfl⟩ | ⟨v, rfl, hrl⟩
      · simp only [Instr.sliceBounds, Sem.run_bind, Sem.run_pure, Result.andThen_ok, b', b2]
      · simp only [Instr.sliceBounds, Sem.run_bind, Sem.run_pure, Result.andThen_ok, b', b2, hrl]

/-- within a room that isn't: as far as the length -/
theorem run_bounds_rest {len cap : Nat} (hle : len ≤ cap) {lo hi mx : Option SV} {vlo vhi vmx : Option Value} (hlo : ORel E lo vlo) (hhi : ORel E hi vhi) (hmx : ORel E mx vmx)
    {l h m : Nat} (h1 : bound mx len len = some m) (h2 : bound hi m len = some h) (h3 : bound lo h 0 = some l) (h4 : (mx.isSome && hi.isNone) = false) (b : Bool) :
    l ≤ h ∧ h ≤ len ∧ h ≤ m ∧ (Instr.sliceBounds b len cap vlo vhi vmx).run P w = .ok (l, h, if mx.isSome then m else cap) w := by
  obtain ⟨hl, hrl⟩ := run_lo (P := P) (w := w) hlo h3
  cases mx with
  | none =>
    simp only [ORel] at hmx; subst hmx
    simp [bound] at h1; subst h1
    cases hi with
    | none =>
      simp only [ORel] at hhi; subst hhi
      simp [bound] at h2; subst h2
      refine ⟨hl, Nat.le_refl _, Nat.le_refl _, ?_⟩
      rcases hrl with ⟨rfl, rfl⟩ | ⟨v, rfl, hrl⟩
      · simp only [Instr.sliceBounds, Sem.run_bind, Sem.run_pure, Result.andThen_ok]; try rfl
      · simp only [Instr.sliceBounds, Sem.run_bind, Sem.run_pure, Result.andThen_ok, hrl]; try rfl
    | some y =>
      simp only [ORel] at hhi; obtain ⟨vy, rfl, hy⟩ := hhi
      obtain ⟨a, b'⟩ := bound_some (P := P) (w := w) hy h2 cap hle (if b then .sliceAcap else .sliceAlen)
      refine ⟨hl, a, a, ?_⟩
      rcases hrl with ⟨rfl, rfl⟩ | ⟨v, rfl, hrl⟩
      · simp only [Instr.sliceBounds, Sem.run_bind, Sem.run_pure, Result.andThen_ok, b']; try rfl
      · simp only [Instr.sliceBounds, Sem.run_bind, Sem.run_pure, Result.andThen_ok, b', hrl]; try rfl
  | some x =>
    simp only [ORel] at hmx; obtain ⟨vx, rfl, hx⟩ := hmx
    obtain ⟨a, b'⟩ := bound_some (P := P) (w := w) hx h1 cap hle (if b then .slice3Acap else .slice3Alen)
    cases hi with
    | none => simp at h4
    | some y =>
      simp only [ORel] at hhi; obtain ⟨vy, rfl, hy⟩ := hhi
      obtain ⟨a2, b2⟩ := bound_some (P := P) (w := w) hy h2 m (Nat.le_refl _) .slice3B
      refine ⟨hl, by omega, a2, ?_⟩
      rcases hrl with ⟨rfl, rfl⟩ | ⟨v, rfl, hrl⟩
      · simp only [Instr.sliceBounds, Sem.run_bind, Sem.run_pure, Result.andThen_ok, b', b2]; try rfl
      · simp only [Instr.sliceBounds, Sem.run_bind, Sem.run_pure, Result.andThen_ok, b', b2, hrl]; try rfl

theorem takeN_eq {β : Type} : ∀ (l : List Nat) (n : Nat) (k : List Nat → β), takeN l n k = k (l.take n)
  | [], n, k => by cases n <;> rfl
  | y :: ys, 0, k => rfl
  | y :: ys, n + 1, k => takeN_eq ys n fun xs => k (y :: xs)
theorem dropN_eq : ∀ (l : List Nat) (n : Nat), dropN l n = l.drop n
  | [], n => by cases n <;> rfl
  | y :: ys, 0 => rfl
  | y :: ys, n + 1 => dropN_eq ys n

theorem mkBA_extract (s : List Nat) (l h : Nat) : (mkBA s).extract l h = mkBA ((s.drop l).take (h - l)) := by
  apply ByteArray.ext
  rw [ByteArray.data_extract]
  simp only [mkBA]
  apply Array.ext'
  simp [List.map_drop, List.map_take, List.take_drop]

theorem cutAddr_ok {e : Ent} {n off l h m z : Nat} (he : E n = some e) (h1 : l ≤ h) (h2 : h ≤ m) :
    VRel E (cutAddr n off l h m z) (.slice (some (if m = l then ⟨e.blk, e.base + off, none⟩ else (⟨e.blk, e.base + off, none⟩ : Addr).add (l * z))) (h - l) (m - l)) := by
  unfold cutAddr
  simp only [VRel]
  refine ⟨e, he, m - l, ⟨by show h - l ≤ m - l; omega, rfl⟩, ?_⟩
  cases hb : Nat.beq m l with
  | true => have := beq_true hb; subst this; simp
  | false =>
    have : m ≠ l := fun y => by subst y; simp at hb
    simp only [this, if_false, add_eq]
    show Value.slice (some ⟨e.blk, e.base + off + l * z, none⟩) _ _ = Value.slice (some ⟨e.blk, e.base + (off + l * z), none⟩) _ _
    rw [Nat.add_assoc]; rfl

end
end Go.Sx

namespace Go.Sx
open Go
set_option linter.unusedVariables false
set_option linter.unusedSimpArgs false

section
variable {T : PT} {P : Program} {E : Env} {w : World} {nx : Nat}

theorem oSlice_sound (hT : TOk T P) {ty : TypeId} {x : SV} {lo hi mx : Option SV} {vx : Value} {vlo vhi vmx : Option Value} (hx : VRel E x vx)
    (hlo : ORel E lo vlo) (hhi : ORel E hi vhi) (hmx : ORel E mx vmx) {out : Out} (h : oSlice T ty x lo hi mx = some out) :
    ∃ v rd, out = .pure v rd ∧ PureOk P E w (Instr.sliceAt ty vx vlo vhi vmx) v := by
  unfold oSlice at h
  cases x <;> first | (cases h; done) | skip
  case str s =>
    cases mx with
    | some _ => cases h
    | none =>
    simp only [ORel] at hmx; subst hmx
    obtain ⟨c, hc, h1⟩ := onKind_inv h (by simp)
    clear h
    obtain ⟨ti, d, ht⟩ := hT.ty _ _ hc
    cases hk : c.k <;> rw [hk] at h1 <;> first | (cases h1; done) | skip
    dsimp only at h1
    have hd := ht.kind; rw [hk] at hd; simp only [KOk] at hd; subst hd
    simp only [VRel] at hx
    obtain ⟨rfl, hs⟩ := hx
    obtain ⟨l, hh, m, b1, b2, b3, h2, b4⟩ := boundsK_inv h1 (by simp)
    clear h1
    rw [takeN_eq, dropN_eq] at h2
    cases h2
    obtain ⟨a1, a2, a3, hrun⟩ := run_bounds (P := P) (w := w) (E := E) (Nat.le_refl _) hlo hhi (vmx := none) (mx := none) (by simp [ORel]) b1 b2 b3 b4 false
    refine ⟨_, _, rfl, .string ((mkBA s).extract l hh), ?_, ?_⟩
    · rw [lenN_eq] at hrun
      simp only [Instr.sliceAt, Instr.slice, Sem.run_bind, run_underlying ht.under, Result.andThen_ok, Option.isSome_none, Bool.false_eq_true, if_false, mkBA_size, hrun, Sem.run_pure]
    · simp only [VRel]
      refine ⟨by rw [mkBA_extract]; rfl, fun b hb => hs b ?_⟩
      exact List.mem_of_mem_drop (List.mem_of_mem_take hb)
  case slice n off len cap =>
    obtain ⟨c, e, hc, hk, h1⟩ := onSliceT_inv h (by simp)
    clear h
    obtain ⟨ti, d, ht⟩ := hT.ty _ _ hc
    have hd := ht.kind; rw [hk] at hd; simp only [KOk] at hd; subst hd
    obtain ⟨ce, hce, h2⟩ := onSize_inv h1 (by simp)
    clear h1
    obtain ⟨i', d', ht'⟩ := hT.ty _ _ hce
    simp only [VRel] at hx
    obtain ⟨ent, he, cc, ⟨hle, hcc⟩, rfl⟩ := hx
    unfold sliceSlice at h2
    cases cap with
    | known cp =>
      dsimp only at h2 hcc; subst hcc
      obtain ⟨l, hh, m, b1, b2, b3, h3, b4⟩ := boundsK_inv h2 (by simp)
      clear h2
      cases h3
      obtain ⟨a1, a2, a3, hrun⟩ := run_bounds (P := P) (w := w) hle hlo hhi hmx b1 b2 b3 b4 true
      refine ⟨_, _, rfl, _, ?_, cutAddr_ok he a1 a2⟩
      simp only [Instr.sliceAt, Instr.slice, Sem.run_bind, run_underlying ht.under, Result.andThen_ok, hrun, run_sizeOf ht'.info, ht'.size, Sem.run_pure]
      congr 2
      split <;> rfl
    | rest k =>
      dsimp only at h2 hcc
      unfold sliceRest at h2
      cases mx with
      | none =>
        dsimp only at h2
        obtain ⟨l, hh, m, b1, b2, b3, h3, b4⟩ := boundsK_inv h2 (by simp)
        clear h2
        obtain ⟨a1, a2, a3, hrun⟩ := run_bounds_rest (P := P) (w := w) hle hlo hhi hmx b1 b2 b3 b4 true
        cases hb : Nat.beq l len with
        | true => rw [hb] at h3; cases h3
        | false =>
          rw [hb] at h3; cases h3
          have hne : l ≠ len := fun y => by subst y; simp at hb
          have hne' : ¬ cc = l := by omega
          refine ⟨_, _, rfl, .slice (some ((⟨ent.blk, ent.base + off, none⟩ : Addr).add (l * ce.size))) (hh - l) (cc - l), ?_, ?_⟩
          · simp only [Instr.sliceAt, Instr.slice, Sem.run_bind, run_underlying ht.under, Result.andThen_ok, hrun, run_sizeOf ht'.info, ht'.size, Sem.run_pure, Option.isSome_none, Bool.false_eq_true, if_false, hne']
            rfl
          · simp only [VRel]
            refine ⟨ent, he, cc - l, ⟨by show hh - l ≤ cc - l; omega, by show cc - l + (k + l) = ent.cap; omega⟩, ?_⟩
            rw [add_eq, Nat.add_assoc]; rfl
      | some mv =>
        dsimp only at h2
        obtain ⟨l, hh, m, b1, b2, b3, h3, b4⟩ := boundsK_inv h2 (by simp)
        clear h2
        cases h3
        obtain ⟨a1, a2, a3, hrun⟩ := run_bounds_rest (P := P) (w := w) hle hlo hhi hmx b1 b2 b3 b4 true
        refine ⟨_, _, rfl, _, ?_, cutAddr_ok he a1 a3⟩
        simp only [Instr.sliceAt, Instr.slice, Sem.run_bind, run_underlying ht.under, Result.andThen_ok, hrun, run_sizeOf ht'.info, ht'.size, Sem.run_pure, Option.isSome_some, if_true]
        congr 2
        split <;> rfl
  case nilslice =>
    obtain ⟨c, e, hc, hk, h1⟩ := onSliceT_inv h (by simp)
    clear h
    obtain ⟨ti, d, ht⟩ := hT.ty _ _ hc
    have hd := ht.kind; rw [hk] at hd; simp only [KOk] at hd; subst hd
    simp only [VRel] at hx; subst hx
    obtain ⟨ce, hce, h2⟩ := onSize_inv h1 (by simp)
    clear h1
    obtain ⟨i', d', ht'⟩ := hT.ty _ _ hce
    obtain ⟨l, hh, m, b1, b2, b3, h3, b4⟩ := boundsK_inv h2 (by simp)
    cases h3
    obtain ⟨a1, a2, a3, hrun⟩ := run_bounds (P := P) (w := w) (E := E) (Nat.le_refl _) hlo hhi hmx b1 b2 b3 b4 true
    obtain rfl : m = 0 := by omega
    obtain rfl : hh = 0 := by omega
    obtain rfl : l = 0 := by omega
    refine ⟨_, _, rfl, .slice none 0 0, ?_, by simp [VRel]⟩
    simp only [Instr.sliceAt, Instr.slice, Sem.run_bind, run_underlying ht.under, Result.andThen_ok, hrun, run_sizeOf ht'.info, Sem.run_pure, if_true]
  case ptr n off =>
    obtain ⟨c, hc, h1⟩ := onKind_inv h (by simp)
    clear h
    obtain ⟨ti, d, ht⟩ := hT.ty _ _ hc
    cases hk : c.k <;> rw [hk] at h1 <;> first | (cases h1; done) | skip
    dsimp only at h1
    rename_i len e
    have hd := ht.kind; rw [hk] at hd; simp only [KOk] at hd; subst hd
    obtain ⟨ce, hce, h2⟩ := onSize_inv h1 (by simp)
    clear h1
    obtain ⟨i', d', ht'⟩ := hT.ty _ _ hce
    simp only [VRel] at hx
    obtain ⟨ent, he, rfl⟩ := hx
    obtain ⟨l, hh, m, b1, b2, b3, h3, b4⟩ := boundsK_inv h2 (by simp)
    clear h2
    cases h3
    obtain ⟨a1, a2, a3, hrun⟩ := run_bounds (P := P) (w := w) (Nat.le_refl len) hlo hhi hmx b1 b2 b3 b4 false
    refine ⟨_, _, rfl, _, ?_, cutAddr_ok he a1 a2⟩
    simp only [Instr.sliceAt, Instr.sureAddr, Sem.run_bind, run_underlying ht.under, Result.andThen_ok, hrun, run_sizeOf ht'.info, ht'.size, Sem.run_pure]
end
end Go.Sx

namespace Go.Sx
open Go
set_option linter.unusedVariables false
set_option linter.unusedSimpArgs false

section
variable {T : PT} {P : Program} {E : Env} {w : World} {nx : Nat}

theorem isU8_inv (hT : TOk T P) {e : Nat} (h : isU8 T e = true) : P.underlying e = some (.int .u8) ∧ ∃ c i d, T.ty.get e = some c ∧ TyOk P e c i d ∧ i.size = 1 := by
  unfold isU8 at h
  obtain ⟨c, hc, h1⟩ := onTy_inv h (by simp)
  clear h
  obtain ⟨i, d, ht⟩ := hT.ty _ _ hc
  dsimp only at h1
  cases hk : c.k <;> rw [hk] at h1 <;> first | (cases h1; done) | skip
  rename_i kd
  have hd := ht.kind; rw [hk] at hd; simp only [KOk] at hd; subst hd
  simp only [Bool.and_eq_true] at h1
  have h2 : kindIx kd = 4 := beq_true h1.1
  have h3 := beq_true h1.2
  refine ⟨?_, c, i, _, hc, ht, by rw [ht.size, h3]⟩
  cases kd <;> simp [kindIx] at h2
  exact ht.under

theorem bytes_rel {E : Env} : ∀ {s : List Nat}, VRelL E (s.map byteSV) ((s.map fun (b : Nat) => Value.int .u8 (b : Int)))
  | [] => VRelL.nil
  | b :: s => VRelL.cons (by simp only [byteSV, VRel]; rfl) bytes_rel

theorem mkBA_ints {s : List Nat} (hs : ∀ b ∈ s, b < 256) : (mkBA s).data.map (fun b => Value.int .u8 (b.toNat : Int)) = (s.map fun (b : Nat) => Value.int .u8 (b : Int)).toArray := by
  simp only [mkBA]
  apply Array.ext'
  simp only [List.map_toArray, List.map_map]
  apply List.map_congr_left
  intro b hb
  simp [Nat.mod_eq_of_lt (hs b hb)]

/-- a new block that has been frozen behind its end -/
theorem alloc_freeze (w : World) (a : Array Value) (e : TypeId) : (w.alloc (.cells a e)).freeze ⟨w.heap.size, a.size, none⟩ 1 = w.alloc (.cells a e (a.size, a.size + 1)) := by
  unfold World.freeze
  simp only [show ¬ (1 = 0) by omega, if_false]
  show ({ w with heap := _ } : World) = { w with heap := _ }
  congr 1
  show (w.heap.push (Obj.cells a e (0, 0))).modify w.heap.size _ = w.heap.push _
  apply Array.ext_getElem?
  intro i
  rw [Array.getElem?_modify]
  by_cases hi : i = w.heap.size
  · subst hi; simp
  · have : ¬ w.heap.size = i := fun y => hi y.symm
    simp [Array.getElem?_push, this, hi]

theorem new_cells' {H : HF} (hR : R P E H w) (hn : E nx = none) {c : List SV} {arr : Array Value} (hr : ∀ (i : Nat) (x : SV), c[i]? = some x → ∃ v, arr[i]? = some v ∧ VRel E x v)
    (e : TypeId) (cap : Nat) (hcap : ∀ i, P.info? e = some i → cap * i.size ≤ arr.size) (fz : Nat × Nat) (hfz : ∀ i, i < arr.size → ¬ (fz.1 ≤ i ∧ i < fz.2)) :
    Eff P E nx H w [(nx, some (.cells true c e))] (nx + 1) (envPut E nx ⟨w.heap.size, 0, cap, []⟩) (w.drew.alloc (.cells arr e fz)) := by
  have hx := envPut_ext (e := ⟨w.heap.size, 0, cap, []⟩) hn
  refine ⟨hx, fun n h => ?_, by omega, ?_, ?_, fun n e h k => .inl (by rw [envPut_new h k]; exact Nat.le_refl _)⟩
  · by_cases y : n = nx
    · exact .inr ⟨by omega, by omega⟩
    · exact .inl (by simpa [envPut, y] using h)
  · simp only [applyF]
    refine hR.drew.alloc hn rfl ⟨arr, fz, alloc_new w.drew _, ?_, fun _ => ⟨hfz, by simp, ?_⟩⟩
    · intro i x hx'
      obtain ⟨v, hv, hr'⟩ := hr i x hx'
      exact ⟨v, by simpa using hv, VRel.ext hx _ _ hr'⟩
    · intro i hi; simpa using hcap i hi
  · rw [dW_nil_of _ _ _ (by omega)]; exact Fr.allocD _ _ _ _

theorem bytesOfCells_inv {E : Env} : ∀ {cs : List SV} {s : List Nat} {vs : List Value}, bytesOfCells cs = some s → VRelL E cs vs → (∀ b ∈ s, b < 256) ∧ vs = s.map fun (b : Nat) => Value.int .u8 (b : Int)
  | [], s, vs, h, r => by simp [bytesOfCells] at h; subst h; simp only [VRelL] at r; subst r; simp
  | c :: cs, s, vs, h, r => by
    simp only [VRelL] at r
    obtain ⟨v, vs', hv, hr, rfl⟩ := r
    unfold bytesOfCells at h
    obtain ⟨k, b, rfl, h1⟩ := onNat_inv h (by simp)
    clear h
    cases hb : Nat.beq (kindIx k) 4 && Nat.ble b 255 with
    | false => rw [hb] at h1; cases h1
    | true =>
      rw [hb] at h1; dsimp only at h1
      simp only [Bool.and_eq_true] at hb
      have hk : kindIx k = 4 := beq_true hb.1
      have hb2 := ble_true hb.2
      cases hc : bytesOfCells cs with
      | none => rw [hc] at h1; cases h1
      | some s' =>
        rw [hc] at h1; cases h1
        obtain ⟨a1, a2⟩ := bytesOfCells_inv hc hr
        have hku : k = .u8 := by cases k <;> simp [kindIx] at hk; rfl
        subst hku
        simp only [VRel] at hv
        subst hv
        refine ⟨fun x hx => ?_, by rw [a2]; rfl⟩
        rcases List.mem_cons.1 hx with rfl | hx
        · omega
        · exact a1 x hx

theorem foldl_push : ∀ (s : List Nat) (a : ByteArray), (s.map fun (b : Nat) => (b : Int)).foldl (fun r n => r.push (UInt8.ofNat n.toNat)) a = ⟨a.data ++ (s.map UInt8.ofNat).toArray⟩
  | [], a => by simp
  | b :: s, a => by
    rw [List.map_cons, List.foldl_cons, foldl_push s]
    simp [ByteArray.push]

theorem oConvert_sound (hT : TOk T P) {t : Tr ABlk} (hR : R P E t.get w) (hn : E nx = none) {src dst : TypeId} {x : SV} {vx : Value} (hx : VRel E x vx) {out : Out}
    (h : oConvert T t nx src dst x = some out) : ValOk P E nx t.get w (convert src dst vx) out := by
  unfold oConvert at h
  obtain ⟨cs, hcs, h1⟩ := onKind_inv h (by simp)
  clear h
  obtain ⟨cd, hcd, h2⟩ := onKind_inv h1 (by simp)
  clear h1
  obtain ⟨is, ds, hts⟩ := hT.ty _ _ hcs
  obtain ⟨id', dd, htd⟩ := hT.ty _ _ hcd
  cases x <;> first | (cases h2; done) | skip
  case int k n =>
    cases hk : cd.k <;> rw [hk] at h2 <;> first | (cases h2; done) | skip
    rename_i kd
    cases h2
    have hd := htd.kind; rw [hk] at hd; simp only [KOk] at hd; subst hd
    simp only [VRel] at hx; subst hx
    refine ⟨.int kd (kd.wrap n), ?_, by simp only [VRel, wrapI_eq]⟩
    simp [convert, Sem.run_bind, run_underlying hts.under, run_underlying htd.under, Conv.intToInt]
  case str s =>
    simp only [VRel] at hx
    obtain ⟨rfl, hs⟩ := hx
    cases hk : cd.k <;> rw [hk] at h2 <;> first | (cases h2; done) | skip
    case str =>
      cases h2
      have hd := htd.kind; rw [hk] at hd; simp only [KOk] at hd; subst hd
      refine ⟨.string (mkBA s), ?_, by simp only [VRel]; exact ⟨trivial, hs⟩⟩
      simp [convert, Sem.run_bind, run_underlying hts.under, run_underlying htd.under]
    case slice e =>
      dsimp only at h2
      have hd := htd.kind; rw [hk] at hd; simp only [KOk] at hd; subst hd
      cases hu : isU8 T e && Nat.ble (lenN s) 1048576 with
      | false => rw [hu] at h2; cases h2
      | true =>
        rw [hu] at h2; cases h2
        simp only [Bool.and_eq_true] at hu
        obtain ⟨hu8, c8, i8, d8, hc8, ht8, hsize⟩ := isU8_inv hT hu.1
        have hlen := ble_true hu.2; rw [lenN_eq] at hlen
        let cap := grownCap w s.length 0 e
        have hge : s.length ≤ cap := grownCap_ge w s.length 0 e
        let arr : Array Value := (s.map fun (b : Nat) => Value.int .u8 (b : Int)).toArray ++ Array.replicate (cap - s.length) (.int .u8 0)
        have hasz : arr.size = cap := by simp [arr]; omega
        have key := new_cells' (E := E) (nx := nx) (arr := arr) hR hn (c := s.map byteSV) (by
          intro i x hx
          obtain ⟨v, hv, hr⟩ := (bytes_rel (E := E) (s := s)).get i x hx
          refine ⟨v, ?_, hr⟩
          simp only [arr]
          rw [Array.getElem?_append_left (by
            have := List.getElem?_eq_some_iff.1 hx
            obtain ⟨a, _⟩ := this
            simpa using a)]
          simpa using hv) e cap (by
            intro i hi
            rw [ht8.info] at hi; cases hi
            rw [hsize, hasz]; omega) (arr.size, arr.size + 1) (by intro i hi hf; simp at hf; omega)
        refine ⟨.slice nx 0 (lenN s) (.rest 0), _, _, .slice (some ⟨w.heap.size, 0, none⟩) s.length cap, rfl, ?_, ?_, key⟩
        · have hrun : (Conv.stringToBytes e (mkBA s)).run P w = .ok (.slice (some ⟨w.heap.size, 0, none⟩) s.length cap) (w.drew.alloc (.cells arr e (arr.size, arr.size + 1))) := by
            have hch : (choose (.appendCap s.length 0 e)).run P w = .ok cap w.drew := by
              rw [run_choose]; rfl
            have hfr := alloc_freeze w.drew arr e
            simp only [Conv.stringToBytes, Sem.run_bind, mkBA_size, hch, Result.andThen_ok, mkBA_ints hs, run_newRow, markStringish, run_shape]
            have hsh : (w.drew.alloc (.cells arr e)).shape? w.heap.size = some (e, arr.size) := by
              have := alloc_new w.drew (.cells arr e)
              unfold World.shape?
              rw [show (w.drew.alloc (.cells arr e)).heap[w.heap.size]? = _ from this]
            have hh : w.drew.heap.size = w.heap.size := rfl
            simp only [hh, show (s.map fun (b : Nat) => Value.int .u8 (b : Int)).toArray ++ Array.replicate (cap - s.length) (Value.int .u8 0) = arr from rfl, hsh, run_freeze, Result.andThen_ok, Sem.run_pure]
            rw [show (w.drew.alloc (.cells arr e)).freeze ⟨w.heap.size, arr.size, none⟩ 1 = _ from hfr]
          simp only [convert, Sem.run_bind, run_underlying hts.under, run_underlying htd.under, Result.andThen_ok, run_underlying hu8, hrun]
        · rw [lenN_eq]; exact envPut_slice ⟨hge, by simp⟩
  case nilslice =>
    simp only [VRel] at hx; subst hx
    cases hk : cd.k <;> rw [hk] at h2 <;> first | (cases h2; done) | skip
    dsimp only at h2
    have hd := htd.kind; rw [hk] at hd; simp only [KOk] at hd; subst hd
    cases hks : cs.k <;> rw [hks] at h2 <;> first | (cases h2; done) | skip
    rename_i e
    dsimp only at h2
    cases hu : isU8 T e with
    | false => rw [hu] at h2; cases h2
    | true =>
      rw [hu] at h2; cases h2
      obtain ⟨hu8, _⟩ := isU8_inv hT hu
      have hds := hts.kind; rw [hks] at hds; simp only [KOk] at hds; subst hds
      refine ⟨.string (mkBA []), ?_, by simp [VRel]⟩
      rw [run_convert_bytes_string w src dst e none 0 0 hts.under hu8 htd.under]
      simp [Conv.bytesToString]; rfl
  case slice n off len cap =>
    cases hk : cd.k <;> rw [hk] at h2 <;> first | (cases h2; done) | skip
    dsimp only at h2
    have hd := htd.kind; rw [hk] at hd; simp only [KOk] at hd; subst hd
    cases hks : cs.k <;> rw [hks] at h2 <;> first | (cases h2; done) | skip
    rename_i e
    dsimp only at h2
    cases hu : isU8 T e with
    | false => rw [hu] at h2; cases h2
    | true =>
      rw [hu] at h2; dsimp only at h2
      obtain ⟨hu8, _⟩ := isU8_inv hT hu
      have hds := hts.kind; rw [hks] at hds; simp only [KOk] at hds; subst hds
      obtain ⟨rw_, c, e', hc, h3⟩ := onCells_inv h2 (by simp)
      clear h2
      obtain ⟨hl, h4⟩ := slcK_inv h3 (by simp)
      clear h3
      simp only [VRel] at hx
      obtain ⟨ent, he, cc, hcc, rfl⟩ := hx
      obtain ⟨ent', he', hb⟩ := hR.blk _ _ hc
      rw [he] at he'; cases he'
      obtain ⟨arr, fz, hb1, hb2, _⟩ := hb
      cases hbs : bytesOfCells ((c.drop off).take len) with
      | none => rw [hbs] at h4; cases h4
      | some s =>
        rw [hbs] at h4; cases h4
        obtain ⟨vs, hr, hrun⟩ := run_loadCells_ok (P := P) (E := E) hb1 hb2 off len hl
        obtain ⟨hs, rfl⟩ := bytesOfCells_inv hbs hr
        have hrun' : (loadCells ⟨ent.blk, ent.base + off, none⟩ len).run P w = .ok ((s.map fun (b : Nat) => (b : Int)).map (Value.int .u8)).toArray w := by
          rw [hrun, List.map_map]; rfl
        refine ⟨.string (mkBA s), ?_, by simp only [VRel]; exact ⟨trivial, hs⟩⟩
        rw [run_convert_bytes_string w src dst e _ len cc hts.under hu8 htd.under, run_bytesToString w _ len cc _ hrun', foldl_push]
        show Result.ok (Value.string ⟨#[] ++ (s.map UInt8.ofNat).toArray⟩) w = _
        rw [Array.empty_append]; rfl
end
end Go.Sx

namespace Go.Sx
open Go
set_option linter.unusedVariables false
set_option linter.unusedSimpArgs false

section
variable {T : PT} {P : Program} {E : Env} {w : World} {nx : Nat}

theorem bitsOf_eq (k : IntKind) (a : Int) : bitsOf k a = (BitVec.ofInt k.bits a).toNat := by
  rw [BitVec.toNat_ofInt]
  cases a with
  | ofNat m => simp only [bitsOf]; show m % 2 ^ k.bits = ((m : Int) % ((2 ^ k.bits : Nat) : Int)).toNat; rw [← Int.natCast_emod]; exact (Int.toNat_natCast _).symm
  | negSucc m => simp only [bitsOf]; norm_cast

theorem dec_not (a b : Int) : decide (a ≤ b) = !decide (b < a) := by
  by_cases h : b < a
  · have : ¬ a ≤ b := by omega
    simp [h, this]
  · have : a ≤ b := by omega
    simp [h, this]

theorem intBin_sound {op : BinOp} {k : IntKind} {a b : Int} {v : SV} (h : intBin op k a b = some v) (hs : isShift op = false) (xt : TypeId) :
    PureOk P E w (binOp op xt (.int k a) (.int k b)) v := by
  cases op <;> simp only [intBin] at h <;> first | (cases h; done) | skip
  case add => cases h; exact ⟨.int k (k.wrap (a + b)), by simp [binOp, Op.intArith], by simp only [VRel, wrapI_eq, iadd_eq]⟩
  case sub => cases h; exact ⟨.int k (k.wrap (a - b)), by simp [binOp, Op.intArith], by simp only [VRel, wrapI_eq, isub_eq]⟩
  case mul => cases h; exact ⟨.int k (k.wrap (a * b)), by simp [binOp, Op.intArith], by simp only [VRel, wrapI_eq]⟩
  case quo =>
    unfold intDivB at h
    rw [intEq_eq] at h
    cases hb : (b == 0) with
    | true => rw [hb] at h; cases h
    | false =>
      rw [hb] at h; cases h
      have hb : ¬ b = 0 := by simpa using hb
      exact ⟨.int k (k.wrap (a.tdiv b)), by simp [binOp, Op.intDiv, hb], by simp only [VRel]⟩
  case rem =>
    unfold intDivB at h
    rw [intEq_eq] at h
    cases hb : (b == 0) with
    | true => rw [hb] at h; cases h
    | false =>
      rw [hb] at h; cases h
      have hb : ¬ b = 0 := by simpa using hb
      exact ⟨.int k (a.tmod b), by simp [binOp, Op.intDiv, hb], by simp only [VRel]⟩
  case and =>
    cases h
    refine ⟨.int k (k.wrap ((BitVec.ofInt k.bits a &&& BitVec.ofInt k.bits b).toNat)), by simp [binOp, Op.intBits], ?_⟩
    simp only [VRel, wrapI_eq, bitsOf_eq, BitVec.toNat_and]; rfl
  case or =>
    cases h
    refine ⟨.int k (k.wrap ((BitVec.ofInt k.bits a ||| BitVec.ofInt k.bits b).toNat)), by simp [binOp, Op.intBits], ?_⟩
    simp only [VRel, wrapI_eq, bitsOf_eq, BitVec.toNat_or]; rfl
  case xor =>
    cases h
    refine ⟨.int k (k.wrap ((BitVec.ofInt k.bits a ^^^ BitVec.ofInt k.bits b).toNat)), by simp [binOp, Op.intBits], ?_⟩
    simp only [VRel, wrapI_eq, bitsOf_eq, BitVec.toNat_xor]; rfl
  case andNot =>
    cases h
    refine ⟨.int k (k.wrap ((BitVec.ofInt k.bits a &&& ~~~ BitVec.ofInt k.bits b).toNat)), by simp [binOp, Op.intBits], ?_⟩
    simp only [VRel, wrapI_eq, bitsOf_eq, BitVec.toNat_and, BitVec.toNat_not]; rfl
  case eql => cases h; exact ⟨.bool (a == b), by simp [binOp, Op.intCmp], by simp only [VRel, intEq_eq]⟩
  case neq => cases h; exact ⟨.bool (a != b), by simp [binOp, Op.intCmp], by simp only [VRel, intEq_eq]; rfl⟩
  case lss => cases h; exact ⟨.bool (decide (a < b)), by simp [binOp, Op.intCmp], by simp only [VRel, intLt_eq]⟩
  case leq => cases h; exact ⟨.bool (decide (a ≤ b)), by simp [binOp, Op.intCmp], by simp only [VRel, intLt_eq]; congr 1; exact dec_not a b⟩
  case gtr => cases h; exact ⟨.bool (decide (a > b)), by simp [binOp, Op.intCmp], by simp only [VRel, intLt_eq]⟩
  case geq => cases h; exact ⟨.bool (decide (a ≥ b)), by simp [binOp, Op.intCmp], by simp only [VRel, intLt_eq]; congr 1; exact dec_not b a⟩

theorem shiftI_sound {op : BinOp} {k k' : IntKind} {a : Int} {n : Nat} {out : Out} (hs : isShift op = true) (h : shiftI op k a n = some out) (xt : TypeId) :
    ∃ v rd, out = .pure v rd ∧ PureOk P E w (binOp op xt (.int k a) (.int k' (Int.ofNat n))) v := by
  have h0 : ¬ ((n : Int) < 0) := by omega
  cases op <;> simp only [isShift] at hs <;> first | (cases hs; done) | skip
  case shl =>
    cases h
    refine ⟨_, _, rfl, .int k (k.wrap (a * 2 ^ (min n k.bits))), ?_, ?_⟩
    · simp [binOp, Op.shift, h0]
    · simp only [VRel, wrapI_eq]; rw [show Int.ofNat (Nat.pow 2 (Nat.min n k.bits)) = ((2 : Int) ^ (min n k.bits)) from (Int.natCast_pow 2 _)]
  case shr =>
    cases a with
    | ofNat m =>
      cases h
      refine ⟨_, _, rfl, .int k ((Int.ofNat m).fdiv (2 ^ (min n k.bits))), ?_, ?_⟩
      · simp [binOp, Op.shift, h0]
      · simp only [VRel]; congr 1
        show (m : Int).fdiv (2 ^ min n k.bits) = ((m / 2 ^ min n k.bits : Nat) : Int)
        rw [Int.ofNat_fdiv, Int.natCast_pow]; rfl
    | negSucc m =>
      cases h
      refine ⟨_, _, rfl, .int k ((Int.negSucc m).fdiv (2 ^ (min n k.bits))), ?_, ?_⟩
      · simp [binOp, Op.shift, h0]
      · simp only [VRel]; rw [show Int.ofNat (Nat.pow 2 (Nat.min n k.bits)) = ((2 : Int) ^ (min n k.bits)) from (Int.natCast_pow 2 _)]

theorem mkBA_toList (s : List Nat) : (mkBA s).toList = s.map UInt8.ofNat := by rw [ByteArray.toList_eq]; simp [mkBA]
theorem u8_inj {a b : Nat} (ha : a < 256) (hb : b < 256) : UInt8.ofNat a = UInt8.ofNat b ↔ a = b := by
  constructor
  · intro h; have := congrArg UInt8.toNat h; rwa [ofNat_toNat ha, ofNat_toNat hb] at this
  · intro h; rw [h]
theorem map_u8 : ∀ {a b : List Nat}, (∀ x ∈ a, x < 256) → (∀ x ∈ b, x < 256) → (a.map UInt8.ofNat == b.map UInt8.ofNat) = natsEq a b
  | [], [], _, _ => rfl
  | [], _ :: _, _, _ => rfl
  | _ :: _, [], _, _ => rfl
  | x :: a, y :: b, ha, hb => by
    rw [natsEq_eq]
    have ih := map_u8 (a := a) (b := b) (fun z hz => ha z (by simp [hz])) (fun z hz => hb z (by simp [hz]))
    rw [natsEq_eq] at ih
    simp only [List.map_cons, List.cons_beq_cons, ih]
    congr 1
    by_cases h : x = y
    · subst h; simp
    · have : ¬ UInt8.ofNat x = UInt8.ofNat y := fun k => h ((u8_inj (ha x (by simp)) (hb y (by simp))).1 k)
      simp only [beq_eq_false_iff_ne.2 h, beq_eq_false_iff_ne.2 this]
theorem map_lt : ∀ {a b : List Nat}, (∀ x ∈ a, x < 256) → (∀ x ∈ b, x < 256) → Op.bytesLess (a.map UInt8.ofNat) (b.map UInt8.ofNat) = strLt a b
  | [], [], _, _ => rfl
  | [], _ :: _, _, _ => rfl
  | _ :: _, [], _, _ => rfl
  | x :: a, y :: b, ha, hb => by
    have ih := map_lt (a := a) (b := b) (fun z hz => ha z (by simp [hz])) (fun z hz => hb z (by simp [hz]))
    simp only [List.map_cons, Op.bytesLess, strLt, ih]
    have hx := ha x (by simp)
    have hy := hb y (by simp)
    congr 1
    · show decide (UInt8.ofNat x < UInt8.ofNat y) = Nat.blt x y
      have hi : (UInt8.ofNat x < UInt8.ofNat y) ↔ x < y := by rw [UInt8.lt_iff_toNat_lt, ofNat_toNat hx, ofNat_toNat hy]
      cases h : Nat.blt x y with
      | true => exact decide_eq_true (hi.2 (by simpa using h))
      | false =>
        refine decide_eq_false fun k => ?_
        have h2 : ¬ x < y := fun z => by rw [show Nat.blt x y = true from Nat.ble_eq_true_of_le z] at h; cases h
        exact h2 (hi.1 k)
    · congr 1
      by_cases h : x = y
      · subst h; simp
      · have : ¬ UInt8.ofNat x = UInt8.ofNat y := fun k => h ((u8_inj hx hy).1 k)
        rw [beq_eq_false_iff_ne.2 this]
        cases hb : Nat.beq x y with
        | true => exact absurd (beq_true hb) h
        | false => rfl

theorem strBin_sound {op : BinOp} {a b : List Nat} {out : Out} (ha : ∀ x ∈ a, x < 256) (hb : ∀ x ∈ b, x < 256) (h : strBin op a b = some out) (xt : TypeId) :
    ∃ v rd, out = .pure v rd ∧ PureOk P E w (binOp op xt (.string (mkBA a)) (.string (mkBA b))) v := by
  have hl : ∀ op, (op ≠ .add) → (binOp op xt (.string (mkBA a)) (.string (mkBA b))) = Op.stringOp op (mkBA a) (mkBA b) := fun op _ => by cases op <;> rfl
  have heq : ((mkBA a).toList == (mkBA b).toList) = natsEq a b := by rw [mkBA_toList, mkBA_toList, map_u8 ha hb]
  have hlt : Op.bytesLess (mkBA a).toList (mkBA b).toList = strLt a b := by rw [mkBA_toList, mkBA_toList, map_lt ha hb]
  cases op <;> simp only [strBin] at h <;> first | (cases h; done) | skip
  case add =>
    cases hc : Nat.ble (Nat.add (lenN a) (lenN b)) 1048576 with
    | false => rw [hc] at h; cases h
    | true =>
      rw [hc] at h; cases h
      have := ble_true hc
      rw [lenN_eq, lenN_eq] at this
      have this : a.length + b.length ≤ 1048576 := this
      refine ⟨_, _, rfl, .string (mkBA a ++ mkBA b), ?_, ?_⟩
      · have hmax : ¬ (((mkBA a).size + (mkBA b).size : Nat) : Int) > IntKind.i64.max := by
          rw [mkBA_size, mkBA_size]; simp [IntKind.max, IntKind.bits, IntKind.signed]; omega
        show Sem.run P (Op.stringOp .add (mkBA a) (mkBA b)) w = _
        simp only [Op.stringOp, hmax, if_false, Sem.run_pure]
      · simp only [VRel]
        refine ⟨?_, fun x hx => ?_⟩
        · congr 1
          apply ByteArray.ext
          simp [mkBA]
        · rcases List.mem_append.1 hx with h | h
          · exact ha x h
          · exact hb x h
  all_goals
    cases h
    refine ⟨_, _, rfl, .bool _, ?_, by simp only [VRel]; rfl⟩
    rw [hl _ (by simp)]
    simp only [Op.stringOp, heq, hlt, Sem.run_pure]

theorem oUn_sound {op : UnOp} {x : SV} {vx : Value} (hx : VRel E x vx) {out : Out} (h : oUn op x = some out) :
    ∃ v rd, out = .pure v rd ∧ PureOk P E w (Op.unary op vx) v := by
  cases op <;> simp only [oUn] at h <;> first | (cases h; done) | skip
  case not =>
    obtain ⟨b, rfl, h1⟩ := onBool_inv h (by simp)
    simp only [VRel] at hx; subst hx
    cases b
    · cases h1; exact ⟨_, _, rfl, .bool true, rfl, by simp [VRel]⟩
    · cases h1; exact ⟨_, _, rfl, .bool false, rfl, by simp [VRel]⟩
  case neg =>
    obtain ⟨k, n, rfl, h1⟩ := onInt_inv h (by simp)
    cases h1
    simp only [VRel] at hx; subst hx
    exact ⟨_, _, rfl, .int k (k.wrap (0 - n)), rfl, by simp only [VRel, wrapI_eq, ineg_eq]⟩
end
end Go.Sx
