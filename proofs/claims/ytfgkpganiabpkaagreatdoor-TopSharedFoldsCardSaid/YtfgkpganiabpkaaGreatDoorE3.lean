import Derived.Test.YtfgkpganiabpkaaGreatDoorE2
import Derived.Laws.StructEq
import Derived.Laws.Externs
/- Proved in this claim (its last text holds the theorem): the given statement TopSharedFoldsCardSaid, with no condition of ours. This text is one part of that proof: the machine of runs apart from a program, with its laws. -/
namespace Go.Sx
open Go
set_option linter.unusedVariables false
set_option linter.unusedSimpArgs false

section
variable {T : PT} {P : Program} {E : Env} {w : World} {nx : Nat}

theorem eqNil_inv {a b : Nat} {x y : SV} {r : Bool} (h : eqNil a b x y = some r) :
    (shOf x = a ∧ shOf y = a ∧ r = true) ∨ (shOf x = a ∧ shOf y = b ∧ r = false) ∨ (shOf x = b ∧ shOf y = a ∧ r = false) := by
  unfold eqNil at h
  cases h1 : Nat.beq (shOf x) a with
  | true =>
    rw [h1] at h; dsimp only at h
    cases h2 : Nat.beq (shOf y) a with
    | true => rw [h2] at h; cases h; exact .inl ⟨beq_true h1, beq_true h2, rfl⟩
    | false =>
      rw [h2] at h; dsimp only at h
      cases h3 : Nat.beq (shOf y) b with
      | true => rw [h3] at h; cases h; exact .inr (.inl ⟨beq_true h1, beq_true h3, rfl⟩)
      | false => rw [h3] at h; cases h
  | false =>
    rw [h1] at h; dsimp only at h
    cases h2 : Nat.beq (shOf x) b && Nat.beq (shOf y) a with
    | true =>
      rw [h2] at h; cases h
      simp only [Bool.and_eq_true] at h2
      exact .inr (.inr ⟨beq_true h2.1, beq_true h2.2, rfl⟩)
    | false => rw [h2] at h; cases h
theorem sh1 {x : SV} {v : Value} (h : shOf x = 1) (hv : VRel E x v) : v = .pointer none := by cases x <;> simp [shOf] at h; simpa only [VRel] using hv
theorem sh2 {x : SV} {v : Value} (h : shOf x = 2) (hv : VRel E x v) : ∃ a, v = .pointer (some a) := by
  cases x <;> simp [shOf] at h; simp only [VRel] at hv; obtain ⟨e, _, rfl⟩ := hv; exact ⟨_, rfl⟩
theorem sh3 {x : SV} {v : Value} (h : shOf x = 3) (hv : VRel E x v) : v = .nilIface := by cases x <;> simp [shOf] at h; simpa only [VRel] using hv
theorem sh4 {x : SV} {v : Value} (h : shOf x = 4) (hv : VRel E x v) : ∃ t u, v = .iface t u := by
  cases x <;> simp [shOf] at h; simp only [VRel] at hv; obtain ⟨u, _, rfl⟩ := hv; exact ⟨_, _, rfl⟩
theorem sh5 {x : SV} {v : Value} (h : shOf x = 5) (hv : VRel E x v) : v = .slice none 0 0 := by cases x <;> simp [shOf] at h; simpa only [VRel] using hv
theorem sh6 {x : SV} {v : Value} (h : shOf x = 6) (hv : VRel E x v) : ∃ a n c, v = .slice (some a) n c := by
  cases x <;> simp [shOf] at h; simp only [VRel] at hv; obtain ⟨_, _, _, _, rfl⟩ := hv; exact ⟨_, _, _, rfl⟩
theorem sh7 {x : SV} {v : Value} (h : shOf x = 7) (hv : VRel E x v) : v = .map none := by cases x <;> simp [shOf] at h; simpa only [VRel] using hv
theorem sh8 {x : SV} {v : Value} (h : shOf x = 8) (hv : VRel E x v) : ∃ a, v = .map (some a) := by
  cases x <;> simp [shOf] at h; simp only [VRel] at hv; obtain ⟨_, _, rfl⟩ := hv; exact ⟨_, rfl⟩
theorem sh9 {x : SV} {v : Value} (h : shOf x = 9) (hv : VRel E x v) : v = .nilFunc := by cases x <;> simp [shOf] at h; simpa only [VRel] using hv
theorem sh10 {x : SV} {v : Value} (h : shOf x = 10) (hv : VRel E x v) : ∃ a b c, v = .func a b c := by
  cases x <;> simp [shOf] at h
  · simp only [VRel] at hv; obtain ⟨_, _, _, _, rfl⟩ := hv; exact ⟨_, _, _, rfl⟩
  · simp only [VRel] at hv; obtain ⟨_, _, rfl⟩ := hv; exact ⟨_, _, _, rfl⟩

theorem partOf_ok {ft : TypeId} {cf : TyC} {i : TypeInfo} {d : TypeDesc} (ht : TyOk P ft cf i d) {cs : List SV} {vs : List Value} (hr : VRelL E cs vs) {off : Nat}
    {v : SV} (h : eqIn.partOf cs off cf.size (isAggK cf.k) = some v) : PureOk P E w (part ft vs.toArray off) v := by
  unfold eqIn.partOf at h
  obtain ⟨hl, hp⟩ := slcK_inv h (by simp)
  exact part_ok ht hr off hp hl

def EqOk (P : Program) (E : Env) (w : World) (f : TypeId → SV → SV → Option Bool) (dep : Nat) : Prop :=
  ∀ ty x y b vx vy, f ty x y = some b → VRel E x vx → VRel E y vy → (Op.equalIn dep ty vx vy).run P w = .ok b w

theorem eqFields_ok (hT : TOk T P) {ih : TypeId → SV → SV → Option Bool} {dep : Nat} (hih : EqOk P E w ih dep) {xs ys : List SV} {vx vy : List Value} (hx : VRelL E xs vx) (hy : VRelL E ys vy) :
    ∀ (l : List Field) (b : Bool), (∀ f ∈ l, f.name ≠ "_") → eqIn.eqFields T ih xs ys (l.map fun f => (f.offset, f.type)) = some b →
    (Op.eqFields dep vx.toArray vy.toArray l).run P w = .ok b w
  | [], b, _, h => by
    simp only [List.map_nil, eqIn.eqFields] at h; cases h; rfl
  | f :: l, b, hn, h => by
    simp only [List.map_cons, eqIn.eqFields] at h
    obtain ⟨cf, hcf, h1⟩ := onSize_inv h (by simp)
    clear h
    obtain ⟨i, d, ht⟩ := hT.ty _ _ hcf
    cases ha : eqIn.partOf xs f.offset cf.size (isAggK cf.k) with
    | none => rw [ha] at h1; cases h1
    | some a =>
      rw [ha] at h1; dsimp only at h1
      cases hb : eqIn.partOf ys f.offset cf.size (isAggK cf.k) with
      | none => rw [hb] at h1; cases h1
      | some c =>
        rw [hb] at h1; dsimp only at h1
        obtain ⟨va, ra, hva⟩ := partOf_ok (w := w) ht hx ha
        obtain ⟨vb, rb, hvb⟩ := partOf_ok (w := w) ht hy hb
        cases hr : ih f.type a c with
        | none => rw [hr] at h1; cases h1
        | some r =>
          rw [hr] at h1
          have hrun := hih _ _ _ _ _ _ hr hva hvb
          have hname := hn f (by simp)
          cases r with
          | true =>
            dsimp only at h1
            have := eqFields_ok hT hih hx hy l b (fun g hg => hn g (by simp [hg])) h1
            simp only [Op.eqFields, hname, ne_eq, not_false_eq_true, if_true, Sem.run_bind, ra, rb, Result.andThen_ok, hrun, Bool.not_true, Bool.false_eq_true, if_false, this]
          | false =>
            cases h1
            simp only [Op.eqFields, hname, ne_eq, not_false_eq_true, if_true, Sem.run_bind, ra, rb, Result.andThen_ok, hrun, Bool.not_false, Sem.run_pure]

/-- the elements of two arrays, one after the other -/
def eqItemsM (d : Nat) (e : TypeId) (n : Nat) (xs ys : Array Value) : List Nat → Sem Bool
  | [] => pure true
  | i :: is => do
    let a ← part e xs (i * n)
    let b ← part e ys (i * n)
    let r ← Op.equalIn d e a b
    if (!r) = true then pure false else eqItemsM d e n xs ys is
theorem run_equalIn_arr (w : World) (d : Nat) {t e : TypeId} {n : Nat} {i : TypeInfo} (xs ys : Array Value) (hu : P.underlying t = some (.array n e)) (hi : P.info? e = some i) :
    (Op.equalIn (d + 1) t (.agg xs) (.agg ys)).run P w = (eqItemsM d e i.size xs ys (List.range' 0 n)).run P w := by
  simp only [Op.equalIn, Sem.run_bind, run_underlying hu, Result.andThen_ok, run_sizeOf hi]
  simp only [Std.Legacy.Range.forIn_eq_forIn_range', Std.Legacy.Range.size, Nat.sub_zero, Nat.add_one_sub_one, Nat.div_one]
  generalize List.range' 0 n = is
  induction is generalizing w with
  | nil => simp [eqItemsM]
  | cons j is ih =>
    simp only [List.forIn_cons, eqItemsM, Sem.run_bind]
    generalize (part e xs (j * i.size)).run P w = r1
    cases r1 with
    | ok a w1 =>
      simp only [Result.andThen_ok]
      generalize (part e ys (j * i.size)).run P w1 = r2
      cases r2 with
      | ok b w2 =>
        simp only [Result.andThen_ok]
        generalize (Op.equalIn d e a b).run P w2 = r3
        cases r3 with
        | ok r w3 =>
          cases r
          · simp only [Result.andThen_ok, Bool.not_false, if_true, Sem.run_pure]
          · simp only [Result.andThen_ok, Bool.not_true, Bool.false_eq_true, if_false, Sem.run_pure]
            exact ih w3
        | halt x w3 => simp [Result.andThen]
      | halt x w2 => simp [Result.andThen]
    | halt x w1 => simp [Result.andThen]
theorem eqElems_ok {ih : TypeId → SV → SV → Option Bool} {dep : Nat} (hih : EqOk P E w ih dep) {xs ys : List SV} {vx vy : List Value} (hx : VRelL E xs vx) (hy : VRelL E ys vy) {e : TypeId} {ce : TyC} {i : TypeInfo} {d : TypeDesc} (ht : TyOk P e ce i d) :
    ∀ (n j : Nat) (b : Bool), eqIn.eqElems (ih e) xs ys ce.size (isAggK ce.k) n (j * ce.size) = some b → (eqItemsM dep e i.size vx.toArray vy.toArray (List.range' j n)).run P w = .ok b w
  | 0, j, b, h => by simp only [eqIn.eqElems] at h; cases h; rfl
  | n + 1, j, b, h => by
    simp only [eqIn.eqElems] at h
    cases ha : eqIn.partOf xs (j * ce.size) ce.size (isAggK ce.k) with
    | none => rw [ha] at h; cases h
    | some a =>
      rw [ha] at h; dsimp only at h
      cases hb : eqIn.partOf ys (j * ce.size) ce.size (isAggK ce.k) with
      | none => rw [hb] at h; cases h
      | some c =>
        rw [hb] at h; dsimp only at h
        obtain ⟨va, ra, hva⟩ := partOf_ok (w := w) ht hx ha
        obtain ⟨vb, rb, hvb⟩ := partOf_ok (w := w) ht hy hb
        cases hr : ih e a c with
        | none => rw [hr] at h; cases h
        | some r =>
          rw [hr] at h
          have hrun := hih _ _ _ _ _ _ hr hva hvb
          rw [List.range'_succ]
          simp only [eqItemsM, Sem.run_bind, ht.size, ra, rb, Result.andThen_ok, hrun]
          cases r with
          | true =>
            dsimp only at h
            have := eqElems_ok hih hx hy ht n (j + 1) b (by rw [Nat.add_mul, Nat.one_mul]; exact h)
            rw [ht.size] at this
            simpa using this
          | false => cases h; simp

theorem plainEq_inv (hT : TOk T P) {t : TypeId} (h : plainEq T t = true) {c : TyC} (hc : T.ty.get t = some c) (hok : c.eqok = true) :
    ∃ i, P.info? t = some i ∧ i.comparable = true := by
  unfold plainEq at h
  obtain ⟨c', hc', h1⟩ := onKind_inv h (by simp)
  rw [hc] at hc'; cases hc'
  obtain ⟨i, d, ht⟩ := hT.ty _ _ hc
  have hk := ht.kind
  refine ⟨i, ht.info, ?_⟩
  have := ht.cmp hok
  cases hkk : c.k <;> rw [hkk] at h1 hk <;> first | (cases h1; done) | skip
  all_goals
    simp only [KOk] at hk
    first
      | subst hk
      | (obtain ⟨_, rfl, _⟩ := hk)
    simpa using this

theorem eqIn_ok (hT : TOk T P) : ∀ (d dep : Nat), d ≤ dep → EqOk P E w (eqIn T d) dep
  | 0, _, _ => fun ty x y b vx vy h => by cases h
  | d + 1, 0, h => absurd h (by omega)
  | d + 1, dep + 1, hle => fun ty x y b vx vy h hx hy => by
    have ih := eqIn_ok hT d dep (by omega)
    change onTy T ty none _ = _ at h
    obtain ⟨c, hc, h1⟩ := onTy_inv h (by simp)
    clear h
    obtain ⟨i, ds, ht⟩ := hT.ty _ _ hc
    dsimp only at h1
    cases hok : c.eqok with
    | false => rw [hok] at h1; cases h1
    | true =>
    rw [hok] at h1; dsimp only at h1
    have hk := ht.kind
    have hu := ht.under
    cases hkk : c.k <;> rw [hkk] at h1 hk <;> dsimp only at h1 <;> first | (cases h1; done) | skip
    case bool =>
      simp only [KOk] at hk; subst hk
      cases x <;> first | (cases h1; done) | skip
      cases y <;> first | (cases h1; done) | skip
      cases h1
      simp only [VRel] at hx hy; subst hx; subst hy
      rename_i p q
      rw [run_equalIn_bool w _ _ _ _ hu]
      cases p <;> cases q <;> rfl
    case int k =>
      simp only [KOk] at hk; subst hk
      obtain ⟨k1, a, rfl, h2⟩ := onInt_inv h1 (by simp)
      unfold eqInt at h2
      obtain ⟨k2, b', rfl, h3⟩ := onInt_inv h2 (by simp)
      cases hke : kindEq k1 k2 with
      | false => rw [hke] at h3; cases h3
      | true =>
        rw [hke] at h3; cases h3
        have := kindEq_inv hke; subst this
        simp only [VRel] at hx hy; subst hx; subst hy
        rw [run_equalIn_int w _ _ _ _ _ _ hu, intEq_eq]
    case str =>
      simp only [KOk] at hk; subst hk
      obtain ⟨s1, rfl, h2⟩ := onStr_inv h1 (by simp)
      obtain ⟨s2, rfl, h3⟩ := onStr_inv h2 (by simp)
      cases h3
      simp only [VRel] at hx hy
      obtain ⟨rfl, hs1⟩ := hx
      obtain ⟨rfl, hs2⟩ := hy
      rw [run_equalIn_string w _ _ _ _ hu, mkBA_toList, mkBA_toList, map_u8 hs1 hs2]
    case ptr e =>
      simp only [KOk] at hk; subst hk
      rcases eqNil_inv h1 with ⟨a, b', rfl⟩ | ⟨a, b', rfl⟩ | ⟨a, b', rfl⟩
      · rw [sh1 a hx, sh1 b' hy]; simp [Op.equalIn, run_underlying hu]
      · obtain ⟨_, rfl⟩ := sh2 b' hy; rw [sh1 a hx]; simp [Op.equalIn, run_underlying hu]
      · obtain ⟨_, rfl⟩ := sh2 a hx; rw [sh1 b' hy]; simp [Op.equalIn, run_underlying hu]
    case slice e =>
      simp only [KOk] at hk; subst hk
      rcases eqNil_inv h1 with ⟨a, b', rfl⟩ | ⟨a, b', rfl⟩ | ⟨a, b', rfl⟩
      · rw [sh5 a hx, sh5 b' hy]; simp [Op.equalIn, run_underlying hu]
      · obtain ⟨_, _, _, rfl⟩ := sh6 b' hy; rw [sh5 a hx]; simp [Op.equalIn, run_underlying hu]
      · obtain ⟨_, _, _, rfl⟩ := sh6 a hx; rw [sh5 b' hy]; simp [Op.equalIn, run_underlying hu]
    case map k e =>
      simp only [KOk] at hk; subst hk
      rcases eqNil_inv h1 with ⟨a, b', rfl⟩ | ⟨a, b', rfl⟩ | ⟨a, b', rfl⟩
      · rw [sh7 a hx, sh7 b' hy]; simp [Op.equalIn, run_underlying hu]
      · obtain ⟨_, rfl⟩ := sh8 b' hy; rw [sh7 a hx]; simp [Op.equalIn, run_underlying hu]
      · obtain ⟨_, rfl⟩ := sh8 a hx; rw [sh7 b' hy]; simp [Op.equalIn, run_underlying hu]
    case func =>
      simp only [KOk] at hk; obtain ⟨p1, p2, p3, rfl⟩ := hk
      rcases eqNil_inv h1 with ⟨a, b', rfl⟩ | ⟨a, b', rfl⟩ | ⟨a, b', rfl⟩
      · rw [sh9 a hx, sh9 b' hy]; simp [Op.equalIn, run_underlying hu]
      · obtain ⟨_, _, _, rfl⟩ := sh10 b' hy; rw [sh9 a hx]; simp [Op.equalIn, run_underlying hu]
      · obtain ⟨_, _, _, rfl⟩ := sh10 a hx; rw [sh9 b' hy]; simp [Op.equalIn, run_underlying hu]
    case struct fs =>
      simp only [KOk] at hk; obtain ⟨l, rfl, rfl⟩ := hk
      obtain ⟨xs, rfl, h2⟩ := onAgg_inv h1 (by simp)
      obtain ⟨ys, rfl, h3⟩ := onAgg_inv h2 (by simp)
      simp only [VRel] at hx hy
      obtain ⟨vx', hx', rfl⟩ := hx
      obtain ⟨vy', hy', rfl⟩ := hy
      obtain ⟨hs, hn⟩ := ht.struct hok ⟨l, rfl⟩
      have hf : P.fieldsOf ty = l := by unfold Program.fieldsOf; rw [hu]
      rw [run_equalIn_struct w dep ty _ _ (by rw [hf]; exact hu) hs, hf]
      exact eqFields_ok hT ih hx' hy' l.toList b (hn l rfl) h3
    case array len e =>
      simp only [KOk] at hk; subst hk
      obtain ⟨xs, rfl, h2⟩ := onAgg_inv h1 (by simp)
      obtain ⟨ys, rfl, h3⟩ := onAgg_inv h2 (by simp)
      obtain ⟨ce, hce, h4⟩ := onSize_inv h3 (by simp)
      obtain ⟨ie, de, hte⟩ := hT.ty _ _ hce
      simp only [VRel] at hx hy
      obtain ⟨vx', hx', rfl⟩ := hx
      obtain ⟨vy', hy', rfl⟩ := hy
      rw [run_equalIn_arr w dep _ _ hu hte.info]
      exact eqElems_ok ih hx' hy' hte len 0 b (by rw [Nat.zero_mul]; exact h4)
    case iface n =>
      simp only [KOk] at hk; obtain ⟨ms, rfl, _⟩ := hk
      cases h4 : Nat.beq (shOf x) 4 && Nat.beq (shOf y) 4 with
      | false =>
        rw [h4] at h1; dsimp only at h1
        rcases eqNil_inv h1 with ⟨a, b', rfl⟩ | ⟨a, b', rfl⟩ | ⟨a, b', rfl⟩
        · rw [sh3 a hx, sh3 b' hy]; simp [Op.equalIn, run_underlying hu]
        · obtain ⟨_, _, rfl⟩ := sh4 b' hy; rw [sh3 a hx]; simp [Op.equalIn, run_underlying hu]
        · obtain ⟨_, _, rfl⟩ := sh4 a hx; rw [sh3 b' hy]; simp [Op.equalIn, run_underlying hu]
      | true =>
        rw [h4] at h1; dsimp only at h1
        cases x <;> first | (cases h1; done) | skip
        cases y <;> first | (cases h1; done) | skip
        rename_i t1 x1 t2 x2
        dsimp only at h1
        simp only [VRel] at hx hy
        obtain ⟨v1, hv1, rfl⟩ := hx
        obtain ⟨v2, hv2, rfl⟩ := hy
        cases ht12 : Nat.beq t1 t2 with
        | false =>
          rw [ht12] at h1; cases h1
          have hne : ¬ t1 = t2 := fun y => by subst y; simp at ht12
          simp [Op.equalIn, run_underlying hu, hne]
        | true =>
          rw [ht12] at h1; dsimp only at h1
          have := beq_true ht12; subst this
          cases hp : plainEq T t1 with
          | false => rw [hp] at h1; cases h1
          | true =>
            rw [hp] at h1; dsimp only at h1
            have hrun := ih _ _ _ _ _ _ h1 hv1 hv2
            have hex : ∃ c1, T.ty.get t1 = some c1 ∧ c1.eqok = true := by
              cases d with
              | zero => cases h1
              | succ d =>
                change onTy T t1 none _ = _ at h1
                obtain ⟨c1, hc1, h5⟩ := onTy_inv h1 (by simp)
                refine ⟨c1, hc1, ?_⟩
                cases h6 : c1.eqok with
                | true => rfl
                | false => rw [h6] at h5; cases h5
            obtain ⟨c1, hc1, hok1⟩ := hex
            obtain ⟨i1, hi1, hcm⟩ := plainEq_inv hT hp hc1 hok1
            simp only [Op.equalIn, Sem.run_bind, run_underlying hu, Result.andThen_ok, ne_eq, not_true_eq_false, if_false, run_typeInfo hi1, hcm, Bool.not_true, Bool.false_eq_true, hrun]
end
end Go.Sx

namespace Go.Sx
open Go
set_option linter.unusedVariables false
set_option linter.unusedSimpArgs false

section
variable {T : PT} {P : Program} {E : Env} {w : World} {nx : Nat}

def Pair (a b : Nat) (x y : SV) : Prop := (shOf x = a ∨ shOf x = b) ∧ (shOf y = a ∨ shOf y = b)
theorem pair_of {a b : Nat} {x y : SV} {r : Bool} (h : eqNil a b x y = some r) : Pair a b x y := by
  rcases eqNil_inv h with ⟨p, q, _⟩ | ⟨p, q, _⟩ | ⟨p, q, _⟩
  · exact ⟨.inl p, .inl q⟩
  · exact ⟨.inl p, .inr q⟩
  · exact ⟨.inr p, .inl q⟩

theorem eqIn_shape (hT : TOk T P) {d : Nat} {ty : TypeId} {x y : SV} {b : Bool} (h : eqIn T d ty x y = some b) :
    (∃ p q, x = .bool p ∧ y = .bool q) ∨ (∃ k a, x = .int k a) ∨ (∃ s, x = .str s) ∨ Pair 1 2 x y ∨ Pair 5 6 x y ∨ Pair 7 8 x y ∨ Pair 9 10 x y ∨ Pair 3 4 x y ∨
      (∃ xs ys, x = .agg xs ∧ y = .agg ys ∧ P.eqGuardType P.depth ty = false) := by
  cases d with
  | zero => cases h
  | succ d =>
    change onTy T ty none _ = _ at h
    obtain ⟨c, hc, h1⟩ := onTy_inv h (by simp)
    clear h
    obtain ⟨i, ds, ht⟩ := hT.ty _ _ hc
    dsimp only at h1
    cases hok : c.eqok with
    | false => rw [hok] at h1; cases h1
    | true =>
    rw [hok] at h1; dsimp only at h1
    have hk := ht.kind
    cases hkk : c.k <;> rw [hkk] at h1 hk <;> dsimp only at h1 <;> first | (cases h1; done) | skip
    case bool =>
      cases x <;> first | (cases h1; done) | skip
      cases y <;> first | (cases h1; done) | skip
      exact .inl ⟨_, _, rfl, rfl⟩
    case int k =>
      obtain ⟨k1, a, rfl, h2⟩ := onInt_inv h1 (by simp)
      exact .inr (.inl ⟨_, _, rfl⟩)
    case str =>
      obtain ⟨s1, rfl, h2⟩ := onStr_inv h1 (by simp)
      exact .inr (.inr (.inl ⟨_, rfl⟩))
    case ptr e => exact .inr (.inr (.inr (.inl (pair_of h1))))
    case slice e => exact .inr (.inr (.inr (.inr (.inl (pair_of h1)))))
    case map k e => exact .inr (.inr (.inr (.inr (.inr (.inl (pair_of h1))))))
    case func => exact .inr (.inr (.inr (.inr (.inr (.inr (.inl (pair_of h1)))))))
    case struct fs =>
      obtain ⟨xs, rfl, h2⟩ := onAgg_inv h1 (by simp)
      obtain ⟨ys, rfl, h3⟩ := onAgg_inv h2 (by simp)
      simp only [KOk] at hk; obtain ⟨l, rfl, _⟩ := hk
      exact .inr (.inr (.inr (.inr (.inr (.inr (.inr (.inr ⟨_, _, rfl, rfl, ht.guard hok (.inl ⟨l, rfl⟩)⟩)))))))
    case array len e =>
      obtain ⟨xs, rfl, h2⟩ := onAgg_inv h1 (by simp)
      obtain ⟨ys, rfl, h3⟩ := onAgg_inv h2 (by simp)
      simp only [KOk] at hk
      exact .inr (.inr (.inr (.inr (.inr (.inr (.inr (.inr ⟨_, _, rfl, rfl, ht.guard hok (.inr ⟨len, e, hk⟩)⟩)))))))
    case iface n =>
      refine .inr (.inr (.inr (.inr (.inr (.inr (.inr (.inl ?_)))))))
      cases h4 : Nat.beq (shOf x) 4 && Nat.beq (shOf y) 4 with
      | false => rw [h4] at h1; exact pair_of h1
      | true => simp only [Bool.and_eq_true] at h4; exact ⟨.inr (beq_true h4.1), .inr (beq_true h4.2)⟩

theorem binEq_run {op : BinOp} {ty : TypeId} {vx vy : Value} {b : Bool} (hb : ∀ op, op = .eql ∨ op = .neq → binOp op ty vx vy = match op with | .eql => (do pure (.bool (← Op.equal ty vx vy))) | _ => (do pure (.bool (!(← Op.equal ty vx vy)))))
    (he : (Op.equalIn Op.maxDepth ty vx vy).run P w = .ok b w) {out : Out} (h : eqBin op (some b) = some out) :
    ∃ v rd, out = .pure v rd ∧ PureOk P E w (binOp op ty vx vy) v := by
  cases op <;> simp only [eqBin] at h <;> first | (cases h; done) | skip
  · cases h
    refine ⟨_, _, rfl, .bool b, ?_, by simp only [VRel]⟩
    rw [hb .eql (.inl rfl)]
    simp only [Sem.run_bind, Op.equal, he, Result.andThen_ok, Sem.run_pure]
  · cases h
    refine ⟨_, _, rfl, .bool (!b), ?_, by simp only [VRel]⟩
    rw [hb .neq (.inr rfl)]
    simp only [Sem.run_bind, Op.equal, he, Result.andThen_ok, Sem.run_pure]

theorem eqBin_some {op : BinOp} {r : Option Bool} {out : Out} (h : eqBin op r = some out) : ∃ b, r = some b ∧ (op = .eql ∨ op = .neq) := by
  cases op <;> simp only [eqBin] at h <;> first | (cases h; done) | skip
  · cases r with
    | none => cases h
    | some b => exact ⟨b, rfl, .inl rfl⟩
  · cases r with
    | none => cases h
    | some b => exact ⟨b, rfl, .inr rfl⟩

theorem isConst_eq (x : Operand) : isConst x = (match x with | .const _ => true | _ => false) := by cases x <;> rfl

/-- neither both nil interface values nor both struct values: no guard -/
theorem guard_free {op : BinOp} {ty : TypeId} {ox oy : Operand} {vx vy : Value} (h1 : ¬ (vx = .nilIface ∧ vy = .nilIface)) (h2 : ∀ a b, ¬ (vx = .agg a ∧ vy = .agg b)) :
    (eqGuard op ty ox oy vx vy).run P w = .ok () w := by
  unfold eqGuard
  cases op <;> simp
  all_goals
    cases vx <;> cases vy <;> first
      | rfl
      | exact absurd ⟨rfl, rfl⟩ h1
      | exact absurd ⟨rfl, rfl⟩ (h2 _ _)

theorem run_do {s1 : Sem Unit} {s2 : Sem Value} {v : SV} (h1 : s1.run P w = .ok () w) (h2 : PureOk P E w s2 v) : PureOk P E w (do s1; s2) v := by
  obtain ⟨u, hu, hr⟩ := h2
  exact ⟨u, by simp only [Sem.run_bind, h1, Result.andThen_ok, hu], hr⟩

theorem nilsOk_inv (hT : TOk T P) {xt : TypeId} {x y : SV} {cx : Bool} (h : nilsOk T xt x y cx = true) (h1 : shOf x = 3) (h2 : shOf y = 3) :
    cx = true ∨ ∃ ms, P.underlying xt = some (.interface ms) ∧ ms.isEmpty = true := by
  unfold nilsOk at h
  rw [h1, h2] at h
  change (cx || onKind T xt false fun k => match k with | .iface n => Nat.beq n 0 | _ => false) = true at h
  rw [Bool.or_eq_true] at h
  rcases h with h | h
  · exact .inl h
  · right
    obtain ⟨c, hc, h5⟩ := onKind_inv h (by simp)
    obtain ⟨i, d, ht⟩ := hT.ty _ _ hc
    have hk := ht.kind
    cases hkk : c.k <;> rw [hkk] at h5 hk <;> first | (cases h5; done) | skip
    simp only [KOk] at hk
    obtain ⟨ms, rfl, hms⟩ := hk
    have hms : ms.size = 0 := by rw [hms]; exact beq_true h5
    exact ⟨ms, ht.under, by simp [Array.isEmpty, hms]⟩

theorem run_guardIn (d : Nat) {xt : TypeId} {ms : Array (String × TypeId)} (hu : P.underlying xt = some (.interface ms)) (he : ms.isEmpty = true) :
    (Op.eqGuardIn (d + 1) xt .nilIface .nilIface).run P w = .ok false w := by
  simp only [Op.eqGuardIn, Sem.run_bind, run_underlying hu, Result.andThen_ok, he, Bool.not_true, Sem.run_pure]

theorem guard_nils {op : BinOp} {ox oy : Operand} {xt : TypeId} (h : (isConst ox || isConst oy) = true ∨ ∃ ms, P.underlying xt = some (.interface ms) ∧ ms.isEmpty = true) :
    (eqGuard op xt ox oy .nilIface .nilIface).run P w = .ok () w := by
  have key : (∃ ms, P.underlying xt = some (.interface ms) ∧ ms.isEmpty = true) → (do if ← Op.eqGuardIn Op.maxDepth xt .nilIface .nilIface then unsupported (.noEntry "binop/eql: two nil values of an interface type with methods, neither of them the literal nil") : Sem Unit).run P w = .ok () w := by
    rintro ⟨ms, hu, he⟩
    rw [Sem.run_bind, show Op.maxDepth = 9999 + 1 from rfl, run_guardIn 9999 hu he]
    rfl
  unfold eqGuard
  cases op <;> first | rfl | skip
  all_goals
    cases ox <;> cases oy <;> first
      | rfl
      | (rcases h with h | h
         · cases h
         · exact key h)

theorem oBinE_sound (hT : TOk T P) {op : BinOp} {xt : TypeId} {ox oy : Operand} {x y : SV} {vx vy : Value} (hx : VRel E x vx) (hy : VRel E y vy)
    (hi : ∀ k a, x ≠ .int k a) (hs : ∀ s, x ≠ .str s) (hn : nilsOk T xt x y (isConst ox || isConst oy) = true) {out : Out} (h : eqBin op (eqIn T 8 xt x y) = some out) :
    ∃ v rd, out = .pure v rd ∧ PureOk P E w (do eqGuard op xt ox oy vx vy; binOp op xt vx vy) v := by
  obtain ⟨b, hb, hop⟩ := eqBin_some h
  have he := eqIn_ok (w := w) (E := E) hT 8 Op.maxDepth (by show 8 ≤ 10000; omega) _ _ _ _ _ _ hb hx hy
  rw [hb] at h
  have fin : (eqGuard op xt ox oy vx vy).run P w = .ok () w → (∀ op, op = .eql ∨ op = .neq → binOp op xt vx vy = match op with | .eql => (do pure (.bool (← Op.equal xt vx vy))) | _ => (do pure (.bool (!(← Op.equal xt vx vy))))) →
      ∃ v rd, out = .pure v rd ∧ PureOk P E w (do eqGuard op xt ox oy vx vy; binOp op xt vx vy) v := by
    intro hg hbin
    obtain ⟨v, rd, rfl, hp⟩ := binEq_run hbin he h
    exact ⟨v, rd, rfl, run_do hg hp⟩
  rcases eqIn_shape hT hb with ⟨p, q, rfl, rfl⟩ | ⟨k, a, rfl⟩ | ⟨s, rfl⟩ | ⟨h1, h2⟩ | ⟨h1, h2⟩ | ⟨h1, h2⟩ | ⟨h1, h2⟩ | ⟨h1, h2⟩ | ⟨xs, ys, rfl, rfl, hg⟩
  · simp only [VRel] at hx hy; subst hx; subst hy
    refine fin (guard_free (by simp) (by simp)) ?_
    rintro _ (rfl | rfl) <;> rfl
  · exact absurd rfl (hi k a)
  · exact absurd rfl (hs s)
  · obtain ⟨a, rfl⟩ : ∃ a, vx = .pointer a := by
      rcases h1 with h | h
      · exact ⟨_, sh1 h hx⟩
      · obtain ⟨a, rfl⟩ := sh2 h hx; exact ⟨_, rfl⟩
    obtain ⟨b, rfl⟩ : ∃ a, vy = .pointer a := by
      rcases h2 with h | h
      · exact ⟨_, sh1 h hy⟩
      · obtain ⟨a, rfl⟩ := sh2 h hy; exact ⟨_, rfl⟩
    refine fin (guard_free (by simp) (by simp)) ?_
    rintro _ (rfl | rfl) <;> rfl
  · obtain ⟨a, l, c, rfl⟩ : ∃ a l c, vx = .slice a l c := by
      rcases h1 with h | h
      · exact ⟨_, _, _, sh5 h hx⟩
      · obtain ⟨a, _, _, rfl⟩ := sh6 h hx; exact ⟨_, _, _, rfl⟩
    obtain ⟨b, l, c, rfl⟩ : ∃ a l c, vy = .slice a l c := by
      rcases h2 with h | h
      · exact ⟨_, _, _, sh5 h hy⟩
      · obtain ⟨a, _, _, rfl⟩ := sh6 h hy; exact ⟨_, _, _, rfl⟩
    refine fin (guard_free (by simp) (by simp)) ?_
    rintro _ (rfl | rfl) <;> rfl
  · obtain ⟨a, rfl⟩ : ∃ a, vx = .map a := by
      rcases h1 with h | h
      · exact ⟨_, sh7 h hx⟩
      · obtain ⟨a, rfl⟩ := sh8 h hx; exact ⟨_, rfl⟩
    obtain ⟨b, rfl⟩ : ∃ a, vy = .map a := by
      rcases h2 with h | h
      · exact ⟨_, sh7 h hy⟩
      · obtain ⟨a, rfl⟩ := sh8 h hy; exact ⟨_, rfl⟩
    refine fin (guard_free (by simp) (by simp)) ?_
    rintro _ (rfl | rfl) <;> rfl
  · have hvx : vx = .nilFunc ∨ ∃ a b c, vx = .func a b c := h1.elim (fun h => .inl (sh9 h hx)) (fun h => .inr (sh10 h hx))
    have hvy : vy = .nilFunc ∨ ∃ a b c, vy = .func a b c := h2.elim (fun h => .inl (sh9 h hy)) (fun h => .inr (sh10 h hy))
    rcases hvx with rfl | ⟨_, _, _, rfl⟩ <;> rcases hvy with rfl | ⟨_, _, _, rfl⟩ <;>
    · refine fin (guard_free (by simp) (by simp)) ?_
      rintro _ (rfl | rfl) <;> rfl
  · have hvx : (shOf x = 3 ∧ vx = .nilIface) ∨ ∃ a b, vx = .iface a b := h1.elim (fun h => .inl ⟨h, sh3 h hx⟩) (fun h => .inr (sh4 h hx))
    have hvy : (shOf y = 3 ∧ vy = .nilIface) ∨ ∃ a b, vy = .iface a b := h2.elim (fun h => .inl ⟨h, sh3 h hy⟩) (fun h => .inr (sh4 h hy))
    rcases hvx with ⟨q1, rfl⟩ | ⟨_, _, rfl⟩ <;> rcases hvy with ⟨q2, rfl⟩ | ⟨_, _, rfl⟩
    · exact fin (guard_nils (nilsOk_inv hT hn q1 q2)) (by rintro _ (rfl | rfl) <;> rfl)
    all_goals
      refine fin (guard_free (by simp) (by simp)) ?_
      rintro _ (rfl | rfl) <;> rfl
  · simp only [VRel] at hx hy
    obtain ⟨vs, _, rfl⟩ := hx
    obtain ⟨us, _, rfl⟩ := hy
    refine fin (run_eqGuard_agg w _ _ _ _ _ _ hg) ?_
    rintro _ (rfl | rfl) <;> rfl

theorem oBin_sound (hT : TOk T P) {op : BinOp} {xt : TypeId} {ox oy : Operand} {x y : SV} {vx vy : Value} (hx : VRel E x vx) (hy : VRel E y vy)
    {out : Out} (h : oBin T op xt x y (isConst ox || isConst oy) = some out) :
    ∃ v rd, out = .pure v rd ∧ PureOk P E w (do eqGuard op xt ox oy vx vy; binOp op xt vx vy) v := by
  by_cases hi : ∃ k a, x = .int k a
  · obtain ⟨k, a, rfl⟩ := hi
    simp only [VRel] at hx; subst hx
    have hg : (eqGuard op xt ox oy (.int k a) vy).run P w = .ok () w := guard_free (by simp) (by simp)
    unfold oBin at h
    cases hs : isShift op with
    | true =>
      dsimp only at h; rw [hs] at h; dsimp only at h
      obtain ⟨k', n, rfl, h2⟩ := onNat_inv h (by simp)
      simp only [VRel] at hy; subst hy
      obtain ⟨v, rd, rfl, hp⟩ := shiftI_sound (k' := k') (P := P) (E := E) (w := w) hs h2 xt
      exact ⟨v, rd, rfl, run_do hg hp⟩
    | false =>
      dsimp only at h; rw [hs] at h; dsimp only at h
      obtain ⟨k', b, rfl, h2⟩ := onInt_inv h (by simp)
      clear h
      cases hk : kindEq k k' with
      | false => rw [hk] at h2; cases h2
      | true =>
        rw [hk] at h2; dsimp only at h2
        have := kindEq_inv hk; subst this
        simp only [VRel] at hy; subst hy
        cases hb : intBin op k a b with
        | none => rw [hb] at h2; cases h2
        | some v => rw [hb] at h2; cases h2; exact ⟨v, _, rfl, run_do hg (intBin_sound hb hs xt)⟩
  · by_cases hs : ∃ s, x = .str s
    · obtain ⟨s, rfl⟩ := hs
      simp only [VRel] at hx; obtain ⟨rfl, hs1⟩ := hx
      have hg : (eqGuard op xt ox oy (.string (mkBA s)) vy).run P w = .ok () w := guard_free (by simp) (by simp)
      unfold oBin at h
      obtain ⟨s2, rfl, h2⟩ := onStr_inv h (by simp)
      simp only [VRel] at hy; obtain ⟨rfl, hs2⟩ := hy
      obtain ⟨v, rd, rfl, hp⟩ := strBin_sound (P := P) (E := E) (w := w) hs1 hs2 h2 xt
      exact ⟨v, rd, rfl, run_do hg hp⟩
    · have h2 : (match nilsOk T xt x y (isConst ox || isConst oy) with | true => eqBin op (eqIn T 8 xt x y) | false => none) = some out := by
        cases x <;> first | exact absurd ⟨_, _, rfl⟩ hi | exact absurd ⟨_, rfl⟩ hs | exact h
      cases hn : nilsOk T xt x y (isConst ox || isConst oy) with
      | false => rw [hn] at h2; cases h2
      | true =>
        rw [hn] at h2
        exact oBinE_sound hT hx hy (fun k a y => hi ⟨k, a, y⟩) (fun s y => hs ⟨s, y⟩) hn h2
end
end Go.Sx

namespace Go.Sx
open Go
set_option linter.unusedVariables false
set_option linter.unusedSimpArgs false

section
variable {T : PT} {P : Program} {E : Env} {w : World} {nx : Nat}

/-- a key that may be found at once -/
def KeyD (d : TypeDesc) (k : SV) (vk : Value) : Prop :=
  (∃ kd a, d = .int kd ∧ k = .int kd a ∧ vk = .int kd a) ∨ (∃ s, d = .string ∧ k = .str s ∧ vk = .string (mkBA s) ∧ ∀ b ∈ s, b < 256) ∨ (∃ b, d = .bool ∧ k = .bool b ∧ vk = .bool b)

theorem plainKey_inv (hT : TOk T P) {ty : TypeId} {k : SV} {vk : Value} (h : plainKey T ty k = true) (hk : VRel E k vk) :
    ∃ d, P.underlying ty = some d ∧ KeyD d k vk := by
  unfold plainKey at h
  obtain ⟨c, hc, h1⟩ := onKind_inv h (by simp)
  clear h
  obtain ⟨i, d, ht⟩ := hT.ty _ _ hc
  have hkk := ht.kind
  refine ⟨d, ht.under, ?_⟩
  cases hkd : c.k <;> rw [hkd] at h1 hkk <;> first | (cases h1; done) | skip
  case bool =>
    cases k <;> first | (cases h1; done) | skip
    simp only [KOk] at hkk; simp only [VRel] at hk
    exact .inr (.inr ⟨_, hkk, rfl, hk⟩)
  case int kd =>
    obtain ⟨k', a, rfl, h2⟩ := onInt_inv h1 (by simp)
    have := kindEq_inv h2; subst this
    simp only [KOk] at hkk; simp only [VRel] at hk
    exact .inl ⟨_, _, hkk, rfl, hk⟩
  case str =>
    obtain ⟨s, rfl, _⟩ := onStr_inv h1 (by simp)
    simp only [KOk] at hkk; simp only [VRel] at hk
    exact .inr (.inl ⟨_, hkk, rfl, hk.1, hk.2⟩)

theorem beq_mkBA {a b : List Nat} (ha : ∀ x ∈ a, x < 256) (hb : ∀ x ∈ b, x < 256) : (mkBA a == mkBA b) = natsEq a b := by
  rw [beq_toListBytes, mkBA_toList, mkBA_toList, map_u8 ha hb]

theorem sameKey_ok {d : TypeDesc} {k key : SV} {vk vkey : Value} (hd : KeyD d k vk) (hkey : VRel E key vkey) {b : Bool} (h : sameKey k key = some b) :
    Instr.sameNow d vk vkey = some b ∧ (b = true → Instr.sameBits 10000 vkey vk = true) := by
  rcases hd with ⟨kd, a, rfl, rfl, rfl⟩ | ⟨s, rfl, rfl, rfl, hs⟩ | ⟨c, rfl, rfl, rfl⟩
  · unfold sameKey eqInt at h
    obtain ⟨k', b', rfl, h2⟩ := onInt_inv h (by simp)
    cases hk : kindEq kd k' with
    | false => rw [hk] at h2; cases h2
    | true =>
      rw [hk] at h2; cases h2
      have := kindEq_inv hk; subst this
      simp only [VRel] at hkey; subst hkey
      rw [intEq_eq]
      refine ⟨by simp [Instr.sameNow], fun hb => ?_⟩
      have : a = b' := by simpa using hb
      subst this
      simp [Instr.sameBits]
  · unfold sameKey at h
    obtain ⟨s2, rfl, h2⟩ := onStr_inv h (by simp)
    cases h2
    simp only [VRel] at hkey
    obtain ⟨rfl, hs2⟩ := hkey
    refine ⟨by simp [Instr.sameNow, beq_mkBA hs hs2], fun hb => ?_⟩
    have : s = s2 := by rw [natsEq_eq] at hb; simpa using hb
    subst this
    simp only [Instr.sameBits, beq_mkBA hs hs, hb]
  · unfold sameKey at h
    cases key <;> first | (cases h; done) | skip
    cases h
    simp only [VRel] at hkey; subst hkey
    rename_i c2
    cases c <;> cases c2 <;> simp [Instr.sameNow, Instr.sameBits, eqBool]

theorem findK_ok {d : TypeDesc} {k : SV} {vk : Value} (hd : KeyD d k vk) : ∀ {es : List (Nat × SV × SV)} {l : List MapEntry} {r : Option (Nat × SV)} (i : Nat), MapRel E es l → findK k es = some r →
    ∃ r', Instr.findNow d vk l i = some r' ∧ (match r with | none => r' = none | some p => ∃ j v, r' = some (j, v) ∧ VRel E p.2 v)
  | [], l, r, i, hr, h => by
    simp only [MapRel] at hr; subst hr
    simp only [findK] at h; cases h
    exact ⟨none, rfl, rfl⟩
  | (b, key, x) :: es, l, r, i, hr, h => by
    simp only [MapRel] at hr
    obtain ⟨kv, vv, es', hk, hv, hr', rfl⟩ := hr
    simp only [findK] at h
    cases hs : sameKey k key with
    | none => rw [hs] at h; cases h
    | some c =>
      rw [hs] at h
      have := (sameKey_ok hd hk hs).1
      cases c with
      | true =>
        cases h
        exact ⟨some (i, vv), by simp only [Instr.findNow, this], i, vv, rfl, hv⟩
      | false =>
        obtain ⟨r', h1, h2⟩ := findK_ok hd (i + 1) hr' h
        exact ⟨r', by simp only [Instr.findNow, this, h1], h2⟩

theorem run_checkKey' {d : TypeDesc} {ty : TypeId} {k : SV} {vk : Value} (hu : P.underlying ty = some d) (hd : KeyD d k vk) (e : Bool) (n : Nat) : (Instr.checkKey e (n + 1) ty vk).run P w = .ok () w := by
  rcases hd with ⟨kd, a, rfl, rfl, rfl⟩ | ⟨s, rfl, rfl, rfl, hs⟩ | ⟨c, rfl, rfl, rfl⟩ <;>
    simp only [Instr.checkKey, Sem.run_bind, run_underlying hu, Result.andThen_ok, Sem.run_pure]
theorem run_checkKey {d : TypeDesc} {ty : TypeId} {k : SV} {vk : Value} (hu : P.underlying ty = some d) (hd : KeyD d k vk) (e : Bool) : (Instr.checkKey e 10000 ty vk).run P w = .ok () w := by
  exact run_checkKey' hu hd e 9999

theorem mapT_inv (hT : TOk T P) {ty : TypeId} {c : TyC} {a b : Nat} (hc : T.ty.get ty = some c) (hk : c.k = .map a b) : P.underlying ty = some (.map a b) := by
  obtain ⟨i, d, ht⟩ := hT.ty _ _ hc
  have hd := ht.kind; rw [hk] at hd; simp only [KOk] at hd; subst hd
  exact ht.under

theorem lookIn_inv (hT : TOk T P) {key e : TypeId} {d : TypeDesc} {k : SV} {vk : Value} (hu : P.underlying key = some d) (hd : KeyD d k vk) {es : List (Nat × SV × SV)} {l : List MapEntry} (hr : MapRel E es l) {rd : List Nat} {ok : Bool} {out : Out} (h : lookIn T e k es rd ok = some out) :
    (∃ j v' x, (Instr.findKey key vk l).run P w = .ok (some (j, v')) w ∧ VRel E x v' ∧ out = .pure (if ok then .tuple [x, .bool true] else x) rd) ∨
    (∃ i z x, (Instr.findKey key vk l).run P w = .ok none w ∧ P.info? e = some i ∧ i.zero = some z ∧ VRel E x z ∧ out = .pure (if ok then .tuple [x, .bool false] else x) rd) := by
  unfold lookIn at h
  cases hf : findK k es with
  | none => rw [hf] at h; cases h
  | some r =>
    rw [hf] at h; dsimp only at h
    obtain ⟨r', h1, h2⟩ := findK_ok hd 0 hr hf
    have hfk : (Instr.findKey key vk l).run P w = .ok r' w := by
      simp only [Instr.findKey, Sem.run_bind, run_underlying hu, Result.andThen_ok, h1, Sem.run_pure]
    cases r with
    | some p =>
      obtain ⟨b, v⟩ := p
      obtain ⟨j, v', rfl, hv⟩ := h2
      dsimp only at h hv
      refine .inl ⟨j, v', v, hfk, hv, ?_⟩
      cases ok <;> cases h <;> rfl
    | none =>
      subst h2
      dsimp only at h
      obtain ⟨c, hc, hz, h3⟩ := onZero_inv h (by simp)
      obtain ⟨i, d', ht⟩ := hT.ty _ _ hc
      obtain ⟨z, hiz, _, hp⟩ := zero_cells ht hz
      cases hpk : pack (isAggK c.k) c.zero with
      | none => rw [hpk] at h3; cases h3
      | some x =>
        rw [hpk] at h3; dsimp only at h3
        refine .inr ⟨i, z, x, hfk, ht.info, hiz, hp _ hpk E, ?_⟩
        cases ok <;> cases h3 <;> rfl

theorem pairRel {x : SV} {v : Value} (h : VRel E x v) (ok b : Bool) : VRel E (if ok then .tuple [x, .bool b] else x) (if ok then .tuple #[v, .bool b] else v) := by
  cases ok with
  | true => simp only [if_true, VRel]; exact ⟨[v, .bool b], VRelL.cons h (VRelL.cons (by simp only [VRel]) VRelL.nil), rfl⟩
  | false => exact h

theorem oLookup_sound (hT : TOk T P) {t : Tr ABlk} (hR : R P E t.get w) {ty : TypeId} {x k : SV} {vx vk : Value} (hx : VRel E x vx) (hk : VRel E k vk) {ok : Bool} {out : Out}
    (h : oLookup T t ty x k ok = some out) : ∃ v rd, out = .pure v rd ∧ PureOk P E w (Instr.lookup ty vx vk ok) v := by
  unfold oLookup at h
  obtain ⟨c, a, b, hc, hck, h1⟩ := onMapT_inv h (by simp)
  clear h
  have hu := mapT_inv hT hc hck
  cases hp : plainKey T a k with
  | false => rw [hp] at h1; cases h1
  | true =>
    rw [hp] at h1; dsimp only at h1
    obtain ⟨d, hku, hd⟩ := plainKey_inv hT hp hk
    cases x <;> first | (cases h1; done) | skip
    case nilmap =>
      simp only [VRel] at hx; subst hx
      rcases lookIn_inv (P := P) (w := w) (E := E) hT hku hd (l := []) (es := []) (by simp [MapRel]) h1 with ⟨j, v', x, hf, hv, rfl⟩ | ⟨i, z, x, hf, hi, hz, hv, rfl⟩
      · refine ⟨_, _, rfl, _, ?_, pairRel hv ok true⟩
        simp only [Instr.lookup, Sem.run_bind, run_underlying hu, Result.andThen_ok, Sem.run_pure, run_checkKey hku hd, hf]
      · refine ⟨_, _, rfl, _, ?_, pairRel hv ok false⟩
        simp only [Instr.lookup, Sem.run_bind, run_underlying hu, Result.andThen_ok, Sem.run_pure, run_checkKey hku hd, hf, run_zeroValue hi hz]
    case map n =>
      obtain ⟨es, clock, hes, h2⟩ := onMap_inv h1 (by simp)
      simp only [VRel] at hx
      obtain ⟨e, he, rfl⟩ := hx
      obtain ⟨e', he', hb⟩ := hR.blk _ _ hes
      rw [he] at he'; cases he'
      obtain ⟨l, hl, hrl⟩ := hb
      have hget : (getObj e.blk).run P w = .ok (.map l clock) w := by simp [getObj, Sem.run, hl]
      rcases lookIn_inv (P := P) (w := w) (E := E) hT hku hd hrl h2 with ⟨j, v', x, hf, hv, rfl⟩ | ⟨i, z, x, hf, hi, hz, hv, rfl⟩
      · refine ⟨_, _, rfl, _, ?_, pairRel hv ok true⟩
        simp only [Instr.lookup, Sem.run_bind, run_underlying hu, Result.andThen_ok, Sem.run_pure, hget, run_checkKey hku hd, hf]
      · refine ⟨_, _, rfl, _, ?_, pairRel hv ok false⟩
        simp only [Instr.lookup, Sem.run_bind, run_underlying hu, Result.andThen_ok, Sem.run_pure, hget, run_checkKey hku hd, hf, run_zeroValue hi hz]
end
end Go.Sx

namespace Go.Sx
open Go
set_option linter.unusedVariables false
set_option linter.unusedSimpArgs false

section
variable {T : PT} {P : Program} {E : Env} {w : World} {nx : Nat}

theorem updK_ok {d : TypeDesc} {k v : SV} {vk vv : Value} (hd : KeyD d k vk) (hk : VRel E k vk) (hv : VRel E v vv) : ∀ {es : List (Nat × SV × SV)} {l : List MapEntry} {r : Option (List (Nat × SV × SV))} (i : Nat),
    MapRel E es l → updK k v es = some r →
    ∃ r', Instr.findNow d vk l i = some r' ∧ (match r with
      | none => r' = none
      | some es' => ∃ j old e, r' = some (i + j, old) ∧ l[j]? = some e ∧ Instr.sameBits 10000 e.key vk = true ∧ MapRel E es' (l.modify j fun e => { e with key := vk, val := vv }))
  | [], l, r, i, hr, h => by
    simp only [MapRel] at hr; subst hr
    simp only [updK] at h; cases h
    exact ⟨none, rfl, rfl⟩
  | (b, key, x) :: es, l, r, i, hr, h => by
    simp only [MapRel] at hr
    obtain ⟨kv, xv, es', hk', hx', hr', rfl⟩ := hr
    simp only [updK] at h
    cases hs : sameKey k key with
    | none => rw [hs] at h; cases h
    | some c =>
      rw [hs] at h
      obtain ⟨h1, h2⟩ := sameKey_ok hd hk' hs
      cases c with
      | true =>
        cases h
        refine ⟨some (i, xv), by simp only [Instr.findNow, h1], 0, xv, _, rfl, rfl, h2 rfl, ?_⟩
        simp only [List.modify_zero_cons, MapRel]
        exact ⟨vk, vv, es', hk, hv, hr', rfl⟩
      | false =>
        dsimp only at h
        cases hu : updK k v es with
        | none => rw [hu] at h; cases h
        | some r0 =>
          rw [hu] at h
          obtain ⟨r', q1, q2⟩ := updK_ok hd hk hv (i + 1) hr' hu
          cases r0 with
          | none =>
            cases h
            exact ⟨r', by simp only [Instr.findNow, h1, q1], q2⟩
          | some es2 =>
            cases h
            obtain ⟨j, old, e, rfl, hl, hsb, hm⟩ := q2
            refine ⟨some (i + 1 + j, old), by simp only [Instr.findNow, h1, q1], j + 1, old, e, ?_, by simpa using hl, hsb, ?_⟩
            · rw [show i + 1 + j = i + (j + 1) by omega]
            · simp only [List.modify_succ_cons, MapRel]
              exact ⟨kv, xv, _, hk', hx', hm, rfl⟩

theorem MapRel.snoc {b : Nat} {k v : SV} {vk vv : Value} (hk : VRel E k vk) (hv : VRel E v vv) : ∀ {es : List (Nat × SV × SV)} {l : List MapEntry}, MapRel E es l →
    MapRel E (es ++ [(b, k, v)]) (l ++ [{ key := vk, val := vv, born := b }])
  | [], l, h => by
    simp only [MapRel] at h; subst h
    simp only [List.nil_append, MapRel]; exact ⟨vk, vv, [], hk, hv, rfl, rfl⟩
  | (b', k', v') :: es, l, h => by
    simp only [MapRel] at h
    obtain ⟨kv, xv, es', h1, h2, h3, rfl⟩ := h
    simp only [List.cons_append, MapRel]
    exact ⟨kv, xv, _, h1, h2, MapRel.snoc hk hv h3, rfl⟩

theorem run_setObj {b : Nat} {o o' : Obj} (h : w.heap[b]? = some o') (hc : ∀ a e f, o' ≠ .cells a e f) : (setObj b o).run P w = .ok () (putObj w b o) := by
  simp only [setObj, Sem.run, h]
  cases o' <;> first | rfl | exact absurd rfl (hc _ _ _)

theorem oMapUpdate_sound (hT : TOk T P) {t : Tr ABlk} (hR : R P E t.get w) {out : Out} (hlt : ∀ n ∈ out.rd, ∀ b, t.get n = some b → n < nx) {ty : TypeId} {m k v : SV} {vm vk vv : Value}
    (hm : VRel E m vm) (hk : VRel E k vk) (hv : VRel E v vv) (h : oMapUpdate T t nx ty m k v = some out) :
    UnitOk P E nx t.get w (Instr.mapUpdate ty vm vk vv) out := by
  unfold oMapUpdate at h
  obtain ⟨c, a, b, hc, hck, h1⟩ := onMapT_inv h (by simp)
  clear h
  have hu := mapT_inv hT hc hck
  cases hp : plainKey T a k with
  | false => rw [hp] at h1; cases h1
  | true =>
    rw [hp] at h1; dsimp only at h1
    obtain ⟨d, hku, hd⟩ := plainKey_inv hT hp hk
    cases m <;> first | (cases h1; done) | skip
    rename_i n
    dsimp only at h1
    obtain ⟨es, clock, hes, h2⟩ := onMap_inv h1 (by simp)
    clear h1
    simp only [VRel] at hm
    obtain ⟨e, he, rfl⟩ := hm
    obtain ⟨e', he', hb⟩ := hR.blk _ _ hes
    rw [he] at he'; cases he'
    obtain ⟨l, hl, hrl⟩ := hb
    have hget : (getObj e.blk).run P w = .ok (.map l clock) w := by simp [getObj, Sem.run, hl]
    cases hup : updK k v es with
    | none => rw [hup] at h2; cases h2
    | some r =>
      rw [hup] at h2; dsimp only at h2
      obtain ⟨r', q1, q2⟩ := updK_ok hd hk hv 0 hrl hup
      have hfk : (Instr.findKey a vk l.toList).run P w = .ok r' w := by
        simp only [Instr.findKey, Sem.run_bind, run_underlying hku, Result.andThen_ok, q1, Sem.run_pure]
      cases r with
      | none =>
        cases h2
        subst q2
        refine ⟨E, putObj w e.blk (.map (l.push { key := vk, val := vv, born := clock }) (clock + 1)), rfl, ?_, ⟨Ext.refl E, fun n h => .inl h, Nat.le_refl _, ?_, ?_, fun n e h k => by rw [h] at k; cases k⟩⟩
        · simp only [Instr.mapUpdate, Sem.run_bind, run_underlying hu, Result.andThen_ok, hget, run_checkKey hku hd, hfk, run_setObj hl (by simp)]
        · simp only [applyF]
          refine hR.write hes rfl rfl he ⟨_, putObj_same hl, ?_⟩
          rw [Array.toList_push]
          exact MapRel.snoc hk hv hrl
        · rw [dW_one nx n _ (hlt _ (by simp [Out.rd]) _ hes)]; exact Fr.putObj _ he (by simp)
      | some es' =>
        cases h2
        obtain ⟨j, old, en, rfl, hlj, hsb, hmr⟩ := q2
        refine ⟨E, putObj w e.blk (.map (l.modify (0 + j) fun e => { e with key := vk, val := vv }) clock), rfl, ?_, ⟨Ext.refl E, fun n h => .inl h, Nat.le_refl _, ?_, ?_, fun n e h k => by rw [h] at k; cases k⟩⟩
        · have hkey : ((l[0 + j]?).map (·.key)).getD vk = en.key := by
            rw [Nat.zero_add]
            rw [Array.getElem?_toList] at hlj
            rw [hlj]; rfl
          have hkt : (Instr.keyThatStays (((l[0 + j]?).map (·.key)).getD vk) vk).run P w = .ok vk w := by
            rw [hkey]
            simp only [Instr.keyThatStays, hsb, if_true, Sem.run_pure]
          simp only [Instr.mapUpdate, Sem.run_bind, run_underlying hu, Result.andThen_ok, hget, run_checkKey hku hd, hfk, hkt, run_setObj hl (by simp)]
        · simp only [applyF]
          refine hR.write hes rfl rfl he ⟨_, putObj_same hl, ?_⟩
          rw [Array.toList_modify, Nat.zero_add]
          exact hmr
        · rw [dW_one nx n _ (hlt _ (by simp [Out.rd]) _ hes)]; exact Fr.putObj _ he (by simp)

/-! ### ranges -/
theorem new_blk {H : HF} (hR : R P E H w) (hn : E nx = none) {b : ABlk} {o : Obj} (hb : ∀ E', Ext E E' → BRel P E' ⟨w.heap.size, 0, 0, []⟩ b (w.alloc o)) :
    Eff P E nx H w [(nx, some b)] (nx + 1) (envPut E nx ⟨w.heap.size, 0, 0, []⟩) (w.alloc o) := by
  have hx := envPut_ext (e := ⟨w.heap.size, 0, 0, []⟩) hn
  refine ⟨hx, fun n h => ?_, by omega, ?_, ?_, fun n e h k => .inl (by rw [envPut_new h k]; exact Nat.le_refl _)⟩
  · by_cases y : n = nx
    · exact .inr ⟨by omega, by omega⟩
    · exact .inl (by simpa [envPut, y] using h)
  · simp only [applyF]
    exact hR.alloc hn rfl (hb _ hx)
  · rw [dW_nil_of _ _ _ (by omega)]; exact Fr.alloc _ _ _ _

theorem oRange_sound (hT : TOk T P) {t : Tr ABlk} (hR : R P E t.get w) (hn : E nx = none) {ty : TypeId} {x : SV} {vx : Value} (hx : VRel E x vx) {out : Out}
    (h : oRange T t nx ty x = some out) : ValOk P E nx t.get w (Instr.range ty vx) out := by
  unfold oRange at h
  obtain ⟨c, hc, h1⟩ := onKind_inv h (by simp)
  clear h
  obtain ⟨i, d, ht⟩ := hT.ty _ _ hc
  have hk := ht.kind
  have hu := ht.under
  cases hkk : c.k <;> rw [hkk] at h1 hk <;> first | (cases h1; done) | skip
  case str =>
    simp only [KOk] at hk; subst hk
    obtain ⟨s, rfl, h2⟩ := onStr_inv h1 (by simp)
    cases h2
    simp only [VRel] at hx; obtain ⟨rfl, hs⟩ := hx
    refine ⟨.ptr nx 0, _, _, .pointer (some ⟨w.heap.size, 0, none⟩), rfl, ?_, envPut_ptr, new_blk hR hn (o := .stringIter (mkBA s) 0) fun E' _ => ⟨alloc_new w _, hs, rfl⟩⟩
    simp only [Instr.range, Sem.run_bind, run_underlying hu, Result.andThen_ok, Sem.run_pure, run_newObj]; rfl
  case map kt et =>
    simp only [KOk] at hk; subst hk
    cases x <;> first | (cases h1; done) | skip
    case nilmap =>
      cases h1
      simp only [VRel] at hx; subst hx
      refine ⟨.ptr nx 0, _, _, .pointer (some ⟨w.heap.size, 0, none⟩), rfl, ?_, envPut_ptr, new_blk hR hn (o := .mapIter none 0 #[] 0) fun E' _ => ⟨none, rfl, alloc_new w _, rfl⟩⟩
      simp only [Instr.range, Sem.run_bind, run_underlying hu, Result.andThen_ok, Sem.run_pure, run_newObj]; rfl
    case map n =>
      dsimp only at h1
      obtain ⟨es, clock, hes, h2⟩ := onMap_inv h1 (by simp)
      cases h2
      simp only [VRel] at hx
      obtain ⟨e, he, rfl⟩ := hx
      obtain ⟨e', he', hb⟩ := hR.blk _ _ hes
      rw [he] at he'; cases he'
      obtain ⟨l, hl, hrl⟩ := hb
      have hget : (getObj e.blk).run P w = .ok (.map l clock) w := by simp [getObj, Sem.run, hl]
      refine ⟨.ptr nx 0, _, _, .pointer (some ⟨w.heap.size, 0, none⟩), rfl, ?_, envPut_ptr, new_blk hR hn (o := .mapIter (some e.blk) clock #[] clock) fun E' hE => ⟨some e.blk, ⟨e, hE _ _ he, rfl⟩, alloc_new w _, rfl⟩⟩
      simp only [Instr.range, Sem.run_bind, run_underlying hu, Result.andThen_ok, Sem.run_pure, hget, run_newObj]; rfl

theorem findB_ok {b : Nat} : ∀ {es : List (Nat × SV × SV)} {l : List MapEntry} {k v : SV}, MapRel E es l → findB b es = some (k, v) →
    ∃ e, l.find? (·.born == b) = some e ∧ VRel E k e.key ∧ VRel E v e.val
  | [], l, k, v, hr, h => by simp [findB] at h
  | (b', k', v') :: es, l, k, v, hr, h => by
    simp only [MapRel] at hr
    obtain ⟨kv, xv, es', h1, h2, h3, rfl⟩ := hr
    simp only [findB] at h
    cases hb : Nat.beq b b' with
    | true =>
      rw [hb] at h; cases h
      have := beq_true hb; subst this
      exact ⟨{ key := kv, val := xv, born := b }, by simp, h1, h2⟩
    | false =>
      rw [hb] at h; dsimp only at h
      have : ¬ b' = b := fun y => by subst y; simp at hb
      obtain ⟨e, q1, q2⟩ := findB_ok h3 h
      exact ⟨e, by rw [List.find?_cons, show (b' == b) = false from beq_eq_false_iff_ne.2 this]; exact q1, q2⟩

theorem oEntry_sound {t : Tr ABlk} (hR : R P E t.get w) {it : SV} {vi : Value} (hi : VRel E it vi) {out : Out} (h : oEntry t it = some out) :
    ∃ v rd, out = .pure v rd ∧ PureOk P E w (Instr.entry vi) v := by
  unfold oEntry at h
  obtain ⟨n, off, rfl, h1⟩ := onPtr_inv h (by simp)
  clear h
  cases ho : Nat.beq off 0 with
  | false => rw [ho] at h1; cases h1
  | true =>
  rw [ho] at h1; dsimp only at h1
  have ho := beq_true ho; subst ho
  cases hb : t.get n with
  | none => rw [hb] at h1; cases h1
  | some b =>
    rw [hb] at h1; dsimp only at h1
    cases b <;> first | (cases h1; done) | skip
    rename_i m since seen stepped
    cases m with
    | none => cases h1
    | some m =>
      dsimp only at h1
      obtain ⟨es, clock, hes, h2⟩ := onMap_inv h1 (by simp)
      clear h1
      cases hc : Nat.beq clock stepped with
      | false => rw [hc] at h2; cases h2
      | true =>
        rw [hc] at h2; dsimp only at h2
        have hc := beq_true hc; subst hc
        cases hl : seen.getLast? with
        | none => rw [hl] at h2; cases h2
        | some stamp =>
          rw [hl] at h2; dsimp only at h2
          cases hf : findB stamp es with
          | none => rw [hf] at h2; cases h2
          | some p =>
            obtain ⟨k, v⟩ := p
            rw [hf] at h2; cases h2
            simp only [VRel] at hi
            obtain ⟨e, he, rfl⟩ := hi
            obtain ⟨e', he', hbr⟩ := hR.blk _ _ hb
            rw [he] at he'; cases he'
            obtain ⟨mo, ⟨em, hem, rfl⟩, hobj, hbase⟩ := hbr
            obtain ⟨e2, he2, hbm⟩ := hR.blk _ _ hes
            rw [hem] at he2; cases he2
            obtain ⟨l, hlm, hrl⟩ := hbm
            have hget : (getObj e.blk).run P w = .ok (.mapIter (some em.blk) since seen.toArray clock) w := by simp [getObj, Sem.run, hobj]
            have hget2 : (getObj em.blk).run P w = .ok (.map l clock) w := by simp [getObj, Sem.run, hlm]
            obtain ⟨en, q1, q2, q3⟩ := findB_ok hrl hf
            refine ⟨_, _, rfl, .tuple #[en.key, en.val], ?_, by simp only [VRel]; exact ⟨[en.key, en.val], VRelL.cons q2 (VRelL.cons q3 VRelL.nil), rfl⟩⟩
            have hbk : seen.toArray.back? = some stamp := by rw [List.back?_toArray, hl]
            have hfa : l.find? (·.born == stamp) = some en := by rw [← Array.find?_toList]; exact q1
            rw [hbase]
            simp only [Instr.entry, Sem.run_bind, hget, Result.andThen_ok, hbk, hget2, bne_self_eq_false, Bool.false_eq_true, if_false, hfa, Sem.run_pure]

/-! ### the rest of the plain ones -/
theorem oExtract_sound {x : SV} {vx : Value} (hx : VRel E x vx) {i : Nat} {out : Out} (h : oExtract x i = some out) :
    ∃ v rd, out = .pure v rd ∧ PureOk P E w (Instr.extract vx i) v := by
  unfold oExtract at h
  obtain ⟨vs, rfl, h1⟩ := onTuple_inv h (by simp)
  rw [nth_eq] at h1
  cases hn : vs[i]? with
  | none => rw [hn] at h1; cases h1
  | some v =>
    rw [hn] at h1; cases h1
    simp only [VRel] at hx
    obtain ⟨us, hr, rfl⟩ := hx
    obtain ⟨u, hu, hv⟩ := hr.get i v hn
    exact ⟨_, _, rfl, u, by simp [Instr.extract, hu], hv⟩

theorem oMakeIface_sound (hT : TOk T P) {ty : TypeId} {x : SV} {vx : Value} (hx : VRel E x vx) {out : Out} (h : oMakeIface T ty x = some out) :
    ∃ v rd, out = .pure v rd ∧ PureOk P E w (Instr.makeInterface ty vx) v := by
  unfold oMakeIface at h
  obtain ⟨c, hc, h1⟩ := onKind_inv h (by simp)
  clear h
  obtain ⟨i, d, ht⟩ := hT.ty _ _ hc
  have hk := ht.kind
  have hni : ∀ ms, d ≠ .interface ms := by
    intro ms hd
    subst hd
    cases hkk : c.k <;> rw [hkk] at h1 hk <;> first | (cases h1; done) | (simp [KOk] at hk)
  have hout : out = .pure (.iface ty x) [] := by
    cases hkk : c.k <;> rw [hkk] at h1 <;> first | (cases h1; done) | (cases h1; rfl)
  subst hout
  refine ⟨_, _, rfl, .iface ty vx, ?_, by simp only [VRel]; exact ⟨vx, hx, rfl⟩⟩
  simp only [Instr.makeInterface, Sem.run_bind, run_underlying ht.under, Result.andThen_ok]
  cases d <;> first | rfl | exact absurd rfl (hni _)

theorem oMakeMap_sound (hT : TOk T P) {H : HF} (hR : R P E H w) (hn : E nx = none) {ty : TypeId} {r : Option SV} {vr : Option Value} (hr : ORel E r vr) {out : Out} (h : oMakeMap T nx ty r = some out) :
    ValOk P E nx H w (Instr.makeMap ty vr) out := by
  unfold oMakeMap at h
  obtain ⟨c, a, b, hc, hck, h1⟩ := onMapT_inv h (by simp)
  clear h
  have hu := mapT_inv hT hc hck
  have hout : out = .eff (.val (.map nx)) [(nx, some (.map [] 0))] (Nat.succ nx) [] := by
    cases r with
    | none => cases h1; rfl
    | some x => obtain ⟨_, _, _, h2⟩ := onInt_inv h1 (by simp); cases h2; rfl
  have key := new_blk hR hn (b := .map [] 0) (o := .map #[] 0) fun E' _ => ⟨#[], alloc_new w _, by simp [MapRel]⟩
  subst hout
  refine ⟨.map nx, _, _, .map (some w.heap.size), rfl, ?_, by simp only [VRel]; exact ⟨_, envPut_same _ _, rfl⟩, key⟩
  cases r with
  | none =>
    simp only [ORel] at hr; subst hr
    simp only [Instr.makeMap, Sem.run_bind, run_newObj, Result.andThen_ok, Sem.run_pure]; rfl
  | some x =>
    simp only [ORel] at hr; obtain ⟨y, rfl, hy⟩ := hr
    obtain ⟨k, n, rfl, h2⟩ := onInt_inv h1 (by simp)
    simp only [VRel] at hy; subst hy
    simp only [Instr.makeMap, Sem.run_bind, run_underlying hu, asInt, asIntOf, run_newObj, Result.andThen_ok, Sem.run_pure]; rfl

theorem fail_ok (hT : TOk T P) {ok : Bool} {ty : TypeId} {out : Out} (h : failV T ok ty = some out) :
    ok = true ∧ ∃ z x i, P.info? ty = some i ∧ i.zero = some z ∧ out = .pure (.tuple [x, .bool false]) [] ∧ VRel E (.tuple [x, .bool false]) (.tuple #[z, .bool false]) := by
  unfold failV at h
  cases ok with
  | false => cases h
  | true =>
    dsimp only at h
    obtain ⟨c, hc, hz, h3⟩ := onZero_inv h (by simp)
    obtain ⟨i, d', ht⟩ := hT.ty _ _ hc
    obtain ⟨z, hiz, _, hp⟩ := zero_cells ht hz
    cases hpk : pack (isAggK c.k) c.zero with
    | none => rw [hpk] at h3; cases h3
    | some x =>
      rw [hpk] at h3; cases h3
      exact ⟨rfl, z, x, i, ht.info, hiz, rfl, pairRel (hp _ hpk E) true false⟩

theorem okV_ok {ok : Bool} {v : SV} {u : Value} (hv : VRel E v u) {out : Out} (h : okV ok v = some out) :
    ∃ v' rd, out = .pure v' rd ∧ VRel E v' (if ok then .tuple #[u, .bool true] else u) := by
  cases ok with
  | true => cases h; exact ⟨_, _, rfl, pairRel hv true true⟩
  | false => cases h; exact ⟨_, _, rfl, hv⟩
end
end Go.Sx

namespace Go.Sx
open Go
set_option linter.unusedVariables false
set_option linter.unusedSimpArgs false

section
variable {T : PT} {P : Program} {E : Env} {w : World} {nx : Nat}

theorem oTypeAssert_sound (hT : TOk T P) {x : SV} {vx : Value} (hx : VRel E x vx) {xt asserted : TypeId} {ok : Bool} {out : Out} (h : oTypeAssert T x asserted ok = some out) :
    ∃ v rd, out = .pure v rd ∧ PureOk P E w (Instr.typeAssert vx xt asserted ok) v := by
  unfold oTypeAssert at h
  cases x <;> first | (cases h; done) | skip
  case nilIface =>
    simp only [VRel] at hx; subst hx
    obtain ⟨rfl, z, x, i, hi, hz, rfl, hrel⟩ := fail_ok (P := P) (E := E) hT h
    refine ⟨_, _, rfl, .tuple #[z, .bool false], ?_, hrel⟩
    have hu : ∃ d, P.underlying asserted = some d := by
      dsimp only at h
      unfold failV at h
      obtain ⟨c, hc, _⟩ := onZero_inv h (by simp)
      obtain ⟨i, d, ht⟩ := hT.ty _ _ hc
      exact ⟨d, ht.under⟩
    obtain ⟨d, hu⟩ := hu
    simp only [Instr.typeAssert, Sem.run_bind, run_underlying hu, Result.andThen_ok]
    cases d <;> simp only [if_true, Sem.run_bind, run_zeroValue hi hz, Result.andThen_ok, Sem.run_pure]
  case iface ty v =>
    dsimp only at h
    obtain ⟨c, hc, h1⟩ := onKind_inv h (by simp)
    clear h
    obtain ⟨i, d, ht⟩ := hT.ty _ _ hc
    have hk := ht.kind
    have hvx := hx
    simp only [VRel] at hx
    obtain ⟨vv, hv, rfl⟩ := hx
    by_cases hif : ∃ n, c.k = .iface n
    · obtain ⟨n, hn⟩ := hif
      rw [hn] at h1 hk; dsimp only at h1
      simp only [KOk] at hk
      obtain ⟨ms, rfl, hms⟩ := hk
      cases h0 : Nat.beq n 0 with
      | false => rw [h0] at h1; cases h1
      | true =>
        rw [h0] at h1; dsimp only at h1
        have := beq_true h0; subst this
        have hms : ms = #[] := Array.eq_empty_of_size_eq_zero hms
        subst hms
        obtain ⟨c2, hc2, h2⟩ := onTy_inv h1 (by simp)
        obtain ⟨i2, d2, ht2⟩ := hT.ty _ _ hc2
        obtain ⟨v', rd, rfl, hrel⟩ := okV_ok (u := .iface ty vv) hvx h2
        refine ⟨_, _, rfl, _, ?_, hrel⟩
        have hm : Instr.missingMethod #[] i2.methods = none := rfl
        simp only [Instr.typeAssert, Sem.run_bind, run_underlying ht.under, Result.andThen_ok, run_typeInfo ht2.info, hm, Sem.run_pure]
    · have hni : ∀ ms, d ≠ .interface ms := by
        intro ms hd
        subst hd
        cases hkk : c.k <;> rw [hkk] at hk <;> first | exact hif ⟨_, hkk⟩ | (simp [KOk] at hk)
      have h2 : (match Nat.beq ty asserted with | true => okV ok v | false => failV T ok asserted) = some out := by
        cases hkk : c.k <;> rw [hkk] at h1 <;> first | exact h1 | exact absurd ⟨_, hkk⟩ hif
      cases hb : Nat.beq ty asserted with
      | true =>
        rw [hb] at h2; dsimp only at h2
        have := beq_true hb; subst this
        obtain ⟨v', rd, rfl, hrel⟩ := okV_ok hv h2
        refine ⟨_, _, rfl, _, ?_, hrel⟩
        simp only [Instr.typeAssert, Sem.run_bind, run_underlying ht.under, Result.andThen_ok]
        cases d <;> first | (simp only [if_true, Sem.run_pure]; done) | exact absurd rfl (hni _)
      | false =>
        rw [hb] at h2; dsimp only at h2
        have hne : ¬ ty = asserted := fun y => by subst y; simp at hb
        obtain ⟨rfl, z, x, i', hi, hz, rfl, hrel⟩ := fail_ok (P := P) (E := E) hT h2
        refine ⟨_, _, rfl, .tuple #[z, .bool false], ?_, hrel⟩
        simp only [Instr.typeAssert, Sem.run_bind, run_underlying ht.under, Result.andThen_ok]
        cases d <;> first | (simp only [hne, if_false, if_true, Sem.run_bind, run_zeroValue hi hz, Result.andThen_ok, Sem.run_pure]; done) | exact absurd rfl (hni _)

theorem oLen_sound (hT : TOk T P) {t : Tr ABlk} (hR : R P E t.get w) {ty ty' : TypeId} {x : SV} {vx : Value} (hx : VRel E x vx) {out : Out} (h : oLen T t ty x = some out) (more : List TypeId) (rest : List Value) :
    ∃ v rd, out = .pure v rd ∧ PureOk P E w (Builtin.len_ (ty :: more).toArray ty' (vx :: rest).toArray) v := by
  unfold oLen at h
  obtain ⟨c, hc, h1⟩ := onKind_inv h (by simp)
  clear h
  obtain ⟨i, d, ht⟩ := hT.ty _ _ hc
  have hk := ht.kind
  have hu := ht.under
  cases hkk : c.k <;> rw [hkk] at h1 hk <;> first | (cases h1; done) | skip
  case str =>
    simp only [KOk] at hk; subst hk
    obtain ⟨s, rfl, h2⟩ := onStr_inv h1 (by simp)
    cases h2
    simp only [VRel] at hx; obtain ⟨rfl, _⟩ := hx
    refine ⟨_, _, rfl, goInt s.length, ?_, by simp only [goI, VRel, lenN_eq]; rfl⟩
    simp [Builtin.len_, Sem.run_bind, run_underlying hu, mkBA_size]
  case slice e =>
    simp only [KOk] at hk; subst hk
    dsimp only at h1
    cases x <;> first | (cases h1; done) | skip
    case slice n off len cap =>
      cases h1
      simp only [VRel] at hx
      obtain ⟨_, _, _, _, rfl⟩ := hx
      refine ⟨_, _, rfl, goInt len, ?_, by simp only [goI, VRel]; rfl⟩
      simp [Builtin.len_, Sem.run_bind, run_underlying hu]
    case nilslice =>
      cases h1
      simp only [VRel] at hx; subst hx
      refine ⟨_, _, rfl, goInt 0, ?_, by simp only [goI, VRel]; rfl⟩
      simp [Builtin.len_, Sem.run_bind, run_underlying hu]
  case array n e =>
    simp only [KOk] at hk; subst hk
    cases h1
    refine ⟨_, _, rfl, goInt n, ?_, by simp only [goI, VRel]; rfl⟩
    simp [Builtin.len_, Sem.run_bind, run_underlying hu]
  case map kt e =>
    simp only [KOk] at hk; subst hk
    dsimp only at h1
    cases x <;> first | (cases h1; done) | skip
    case nilmap =>
      cases h1
      simp only [VRel] at hx; subst hx
      refine ⟨_, _, rfl, goInt 0, ?_, by simp only [goI, VRel]; rfl⟩
      simp [Builtin.len_, Sem.run_bind, run_underlying hu]
    case map n =>
      dsimp only at h1
      obtain ⟨es, clock, hes, h2⟩ := onMap_inv h1 (by simp)
      cases h2
      simp only [VRel] at hx
      obtain ⟨e, he, rfl⟩ := hx
      obtain ⟨e', he', hb⟩ := hR.blk _ _ hes
      rw [he] at he'; cases he'
      obtain ⟨l, hl, hrl⟩ := hb
      have hget : (getObj e.blk).run P w = .ok (.map l clock) w := by simp [getObj, Sem.run, hl]
      have hlen : ∀ (es : List (Nat × SV × SV)) (l : List MapEntry), MapRel E es l → l.length = es.length := by
        intro es
        induction es with
        | nil => intro l h; simp only [MapRel] at h; subst h; rfl
        | cons a es ih =>
          intro l h
          obtain ⟨b, k, v⟩ := a
          simp only [MapRel] at h
          obtain ⟨_, _, es', _, _, h3, rfl⟩ := h
          simp [ih _ h3]
      have hsz : l.size = es.length := by have := hlen _ _ hrl; simpa using this
      refine ⟨_, _, rfl, goInt es.length, ?_, by simp only [goI, VRel]; rfl⟩
      simp [Builtin.len_, Sem.run_bind, run_underlying hu, hget, hsz]

theorem oCap_sound (hT : TOk T P) {ty ty' : TypeId} {x : SV} {vx : Value} (hx : VRel E x vx) {out : Out} (h : oCap T ty x = some out) (more : List TypeId) (rest : List Value) :
    ∃ v rd, out = .pure v rd ∧ PureOk P E w (Builtin.cap_ (ty :: more).toArray ty' (vx :: rest).toArray) v := by
  unfold oCap at h
  obtain ⟨c, e, hc, hk, h1⟩ := onSliceT_inv h (by simp)
  clear h
  obtain ⟨i, d, ht⟩ := hT.ty _ _ hc
  have hd := ht.kind; rw [hk] at hd; simp only [KOk] at hd; subst hd
  have hu := ht.under
  cases x <;> first | (cases h1; done) | skip
  case slice n off len cap =>
    simp only [VRel] at hx
    obtain ⟨_, _, cc, ⟨_, hcc⟩, rfl⟩ := hx
    cases cap with
    | rest k => cases h1
    | known k =>
      cases h1
      dsimp only at hcc; subst hcc
      refine ⟨_, _, rfl, goInt cc, ?_, by simp only [goI, VRel]; rfl⟩
      simp [Builtin.cap_, Sem.run_bind, run_underlying hu]
  case nilslice =>
    cases h1
    simp only [VRel] at hx; subst hx
    refine ⟨_, _, rfl, goInt 0, ?_, by simp only [goI, VRel]; rfl⟩
    simp [Builtin.cap_, Sem.run_bind, run_underlying hu]
end
end Go.Sx

namespace Go.Sx
open Go
set_option linter.unusedVariables false
set_option linter.unusedSimpArgs false

section
variable {T : PT} {P : Program} {E : Env} {w : World} {nx : Nat}

theorem minmax_min : ∀ {l : List SV} {a : Int} {k : IntKind} {vs : List Value} {v : SV}, VRelL E l vs → minmax false k a l = some v →
    PureOk P E w (vs.foldlM Builtin.min2 (.int k a)) v
  | [], a, k, vs, v, hr, h => by
    simp only [VRelL] at hr; subst hr
    simp only [minmax] at h; cases h
    exact ⟨.int k a, by simp, by simp only [VRel]⟩
  | y :: l, a, k, vs, v, hr, h => by
    simp only [VRelL] at hr
    obtain ⟨u, vs', hu, hr', rfl⟩ := hr
    simp only [minmax] at h
    obtain ⟨k', b, rfl, h1⟩ := onInt_inv h (by simp)
    cases hk : kindEq k k' with
    | false => rw [hk] at h1; cases h1
    | true =>
      rw [hk] at h1; dsimp only at h1
      simp only [VRel] at hu; subst hu
      rw [intLt_eq] at h1
      have := minmax_min hr' h1
      obtain ⟨val, hrun, hrel⟩ := this
      refine ⟨val, ?_, hrel⟩
      simp only [List.foldlM_cons, Sem.run_bind, Builtin.min2, Sem.run_pure, Result.andThen_ok]
      by_cases hlt : b < a
      · simp only [hlt, decide_true] at hrun
        simpa only [hlt, if_true] using hrun
      · simp only [hlt, decide_false] at hrun
        simpa only [hlt, if_false] using hrun
theorem minmax_max : ∀ {l : List SV} {a : Int} {k : IntKind} {vs : List Value} {v : SV}, VRelL E l vs → minmax true k a l = some v →
    PureOk P E w (vs.foldlM Builtin.max2 (.int k a)) v
  | [], a, k, vs, v, hr, h => by
    simp only [VRelL] at hr; subst hr
    simp only [minmax] at h; cases h
    exact ⟨.int k a, by simp, by simp only [VRel]⟩
  | y :: l, a, k, vs, v, hr, h => by
    simp only [VRelL] at hr
    obtain ⟨u, vs', hu, hr', rfl⟩ := hr
    simp only [minmax] at h
    obtain ⟨k', b, rfl, h1⟩ := onInt_inv h (by simp)
    cases hk : kindEq k k' with
    | false => rw [hk] at h1; cases h1
    | true =>
      rw [hk] at h1; dsimp only at h1
      simp only [VRel] at hu; subst hu
      rw [intLt_eq] at h1
      have := minmax_max hr' h1
      obtain ⟨val, hrun, hrel⟩ := this
      refine ⟨val, ?_, hrel⟩
      simp only [List.foldlM_cons, Sem.run_bind, Builtin.max2, Sem.run_pure, Result.andThen_ok]
      by_cases hlt : a < b
      · simp only [hlt, decide_true] at hrun
        simpa only [gt_iff_lt, hlt, if_true] using hrun
      · simp only [hlt, decide_false] at hrun
        simpa only [gt_iff_lt, hlt, if_false] using hrun

/-! ### what is appended or copied -/
theorem srcOf_inv {β : Type} {d x : β} {t : Tr ABlk} (hR : R P E t.get w) {z : Nat} {s : SV} {vs : Value} (hs : VRel E s vs) {k : List SV → Nat → List Nat → β} (h : srcOf t z s d k = x) (hx : x ≠ d) :
    ∃ cs n rd us, k cs n rd = x ∧ VRelL E cs us ∧ cs.length = n * z ∧ (Builtin.lenOf vs).run P w = .ok n w ∧
      (∀ (w' : World), w'.heap = w.heap → ∀ m, m ≤ n → (Builtin.firstCells z m vs).run P w' = .ok (us.take (m * z)).toArray w') ∧ ((∃ a l c, vs = .slice a l c) ∨ ∃ l, vs = .string l) := by
  unfold srcOf at h
  cases s <;> first | exact absurd h.symm hx | skip
  case nilslice =>
    simp only [VRel] at hs; subst hs
    refine ⟨[], 0, [], [], h, VRelL.nil, by simp, by simp [Builtin.lenOf], fun w' hw' m hm => ?_, .inl ⟨_, _, _, rfl⟩⟩
    simp [Builtin.firstCells]
  case slice b off len cap =>
    obtain ⟨rw_, c, e, hc, h1⟩ := onCells_inv h hx
    clear h
    obtain ⟨hl, h2⟩ := slcK_inv h1 hx
    clear h1
    simp only [VRel] at hs
    obtain ⟨ent, he, cc, _, rfl⟩ := hs
    obtain ⟨ent', he', hb⟩ := hR.blk _ _ hc
    rw [he] at he'; cases he'
    obtain ⟨arr, fz, hb1, hb2, _⟩ := hb
    obtain ⟨us, hr, hg⟩ := cells_read hb2 off (Nat.mul len z) hl
    have hlen := hr.length
    have hl' : ((c.drop off).take (Nat.mul len z)).length = len * z := by
      have hl2 : off + len * z ≤ c.length := hl
      simp only [List.length_take, List.length_drop]
      show min (len * z) _ = _
      omega
    refine ⟨_, len, [b], us, h2, hr, hl', by simp [Builtin.lenOf], fun w' hw' m hm => ?_, .inl ⟨_, _, _, rfl⟩⟩
    have hb1' : w'.heap[ent.blk]? = some (.cells arr e fz) := by rw [hw']; exact hb1
    have hmz : m * z ≤ len * z := Nat.mul_le_mul_right z hm
    have hml : (us.take (m * z)).length = m * z := by rw [List.length_take, hlen, hl']; omega
    have := run_loadCells_list (P := P) w' ⟨ent.blk, ent.base + off, none⟩ (us.take (m * z)) (fun j v hj => by
      rw [add_eq, cell_eq hb1']
      rw [List.getElem?_take] at hj
      split at hj
      · exact hg j v hj
      · cases hj)
    rw [hml] at this
    simp only [Builtin.firstCells, this]
  case str l =>
    simp only [VRel] at hs
    obtain ⟨rfl, hs⟩ := hs
    cases hz : Nat.beq z 1 with
    | false => rw [hz] at h; exact absurd h.symm hx
    | true =>
    rw [hz] at h; dsimp only at h
    have hz := beq_true hz
    subst hz
    refine ⟨_, _, _, (l.map fun (b : Nat) => Value.int .u8 (b : Int)), h, bytes_rel, by rw [List.length_map, lenN_eq, Nat.mul_one], by simp [Builtin.lenOf, mkBA_size, lenN_eq], fun w' hw' m hm => ?_, .inr ⟨_, rfl⟩⟩
    simp only [Builtin.firstCells, Sem.run_pure]
    congr 1
    rw [mkBA_extract]
    simp only [List.drop_zero, Nat.sub_zero, Nat.mul_one]
    rw [mkBA_ints (fun b hb => hs b (List.mem_of_mem_take hb)), List.map_take]

theorem VRelL.take {xs : List SV} {vs : List Value} (r : VRelL E xs vs) (n : Nat) : VRelL E (xs.take n) (vs.take n) := by simpa using r.slice 0 n
theorem oneCells_of {l : List SV} (h : ∀ x ∈ l, oneCell x = true) : oneCells l = true := by
  induction l with
  | nil => rfl
  | cons y ys ih => simp only [oneCells, h y (by simp), ih (fun x hx => h x (by simp [hx]))]
theorem oneCells_take {l : List SV} (h : oneCells l = true) (n : Nat) : oneCells (l.take n) = true :=
  oneCells_of fun x hx => oneCells_inv h x (List.mem_of_mem_take hx)

theorem oCopy_sound (hT : TOk T P) {t : Tr ABlk} (hR : R P E t.get w) {out : Out} (hlt : ∀ n ∈ out.rd, ∀ b, t.get n = some b → n < nx) {dt ty' : TypeId} {d s : SV} {vd vs : Value} (hd : VRel E d vd) (hs : VRel E s vs)
    (h : oCopy T t nx dt d s = some out) (more : List TypeId) (rest : List Value) :
    ValOk P E nx t.get w (Builtin.copy_ (dt :: more).toArray ty' (vd :: vs :: rest).toArray) out := by
  unfold oCopy at h
  obtain ⟨c, e, hc, hk, h1⟩ := onSliceT_inv h (by simp)
  clear h
  obtain ⟨i, ds, ht⟩ := hT.ty _ _ hc
  have hds := ht.kind; rw [hk] at hds; simp only [KOk] at hds; subst hds
  have hu := ht.under
  obtain ⟨ce, hce, h2⟩ := onSize_inv h1 (by simp)
  clear h1
  obtain ⟨i', d', ht'⟩ := hT.ty _ _ hce
  obtain ⟨cs, n, rd, us, h3, hr, hl, hln, hfc, _⟩ := srcOf_inv hR hs h2 (by simp)
  clear h2
  cases d <;> first | (cases h3; done) | skip
  case nilslice =>
    cases h3
    simp only [VRel] at hd; subst hd
    refine ⟨goInt 0, ?_, by simp only [VRel]; rfl⟩
    have h0 := hfc w rfl 0 (Nat.zero_le _)
    simp only [Nat.zero_mul, List.take_zero] at h0
    have hn0 : n.min 0 = 0 := Nat.min_zero n
    simp [Builtin.copy_, Sem.run_bind, run_underlying hu, hln, run_sizeOf ht'.info, ht'.size, hn0, h0]
  case slice b off len cap =>
    simp only [VRel] at hd
    obtain ⟨ent, he, cc, _, rfl⟩ := hd
    dsimp only at h3
    cases hm : Nat.beq (Nat.min n len) 0 with
    | true =>
      rw [hm] at h3; cases h3
      have hm := beq_true hm
      refine ⟨goInt 0, ?_, by simp only [VRel]; rfl⟩
      have h0 := hfc w rfl 0 (Nat.zero_le _)
      simp only [Nat.zero_mul, List.take_zero] at h0
      simp [Builtin.copy_, Sem.run_bind, run_underlying hu, hln, run_sizeOf ht'.info, ht'.size, hm, h0, storeCells]
    | false =>
      rw [hm] at h3; dsimp only at h3
      obtain ⟨rw_, c2, e', hc2, h4⟩ := onCells_inv h3 (by simp)
      clear h3
      cases hw : rw_ && oneCells cs with
      | false => rw [hw] at h4; cases h4
      | true =>
        rw [hw] at h4; dsimp only at h4
        simp only [Bool.and_eq_true] at hw
        obtain ⟨hw1, hw2⟩ := hw
        subst hw1
        obtain ⟨ht1, h5⟩ := takeK_inv h4 (by simp)
        clear h4
        obtain ⟨hl2, h6⟩ := wrK_inv h5 (by simp)
        cases h6
        have hmn : Nat.min n len ≤ n := Nat.min_le_left _ _
        have hfm := hfc w rfl _ hmn
        have hrt := hr.take (Nat.mul (Nat.min n len) ce.size)
        have h1c := oneCells_take hw2 (Nat.mul (Nat.min n len) ce.size)
        obtain ⟨ent', he', hb⟩ := hR.blk _ _ hc2
        rw [he] at he'; cases he'
        obtain ⟨arr, fz, hb1, hb2, hb3⟩ := hb
        have hb3 := hb3 rfl
        obtain ⟨hsz, hbr⟩ := BRel_write (P := P) hb1 hb2 hb3 hrt hl2
        refine ⟨_, E, putObj w ent.blk _, goInt (Nat.min n len), rfl, ?_, by simp only [VRel]; rfl, ⟨Ext.refl E, fun n h => .inl h, Nat.le_refl _, hR.write hc2 rfl rfl he hbr, ?_, fun n e h k => by rw [h] at k; cases k⟩⟩
        · have hst := run_storeCells (P := P) _ w arr (ent.base + off) 0 hb1 hb3.1 (oneCells_rel h1c hrt) (by simpa using hsz)
          have hfm' : (Builtin.firstCells ce.size (n.min len) vs).run P w = .ok (us.take (Nat.mul (Nat.min n len) ce.size)).toArray w := hfm
          have hst' : (storeCells ⟨ent.blk, ent.base + off, none⟩ (us.take (Nat.mul (Nat.min n len) ce.size)).toArray.toList).run P w = _ := hst
          simp only [Builtin.copy_, List.getElem?_toArray, List.getElem?_cons_zero, List.getElem?_cons_succ, Sem.run_bind, run_underlying hu, Result.andThen_ok, hln, run_sizeOf ht'.info, ht'.size, hfm', hst', Sem.run_pure, Nat.add_zero]
        · rw [dW_one nx b _ (hlt _ (by simp [Out.rd]) _ hc2)]; exact Fr.putObj _ he (by simp)
end
end Go.Sx

namespace Go.Sx
open Go
set_option linter.unusedVariables false
set_option linter.unusedSimpArgs false

section
variable {T : PT} {P : Program} {E : Env} {w : World} {nx : Nat}

/-- a block of the call's own gives its cells to a new name -/
theorem R.move {H : HF} (h : R P E H w) {n m : Nat} {b b' : ABlk} {e e' : Ent} {o : Obj} (hn : H n = some b) (hw : rwB b = true) (he : E n = some e) (hm : E m = none) (hblk : e'.blk = e.blk)
    (hb : BRel P (envPut E m e') e' b' (putObj w e.blk o)) : R P (envPut E m e') (putF (putF H n none) m (some b')) (putObj w e.blk o) := by
  have hx := envPut_ext (e := e') hm
  have hnm : n ≠ m := fun y => by subst y; rw [hm] at he; cases he
  have hold : ∀ k c, putF (putF H n none) m (some b') k = some c → k ≠ m → H k = some c ∧ k ≠ n := by
    intro k c hk hkm
    simp only [putF, hkm, if_false] at hk
    by_cases hkn : k = n
    · rw [if_pos hkn] at hk; cases hk
    · rw [if_neg hkn] at hk; exact ⟨hk, hkn⟩
  have hnew : ∀ c, putF (putF H n none) m (some b') m = some c → c = b' := by
    intro c hc; simp only [putF, if_true] at hc; cases hc; rfl
  refine ⟨fun k c hk => ?_, fun k c k2 c2 e1 e2 h1 h2 h3 h4 h5 h6 => ?_⟩
  · by_cases hkm : k = m
    · subst hkm; have := hnew c hk; subst this; exact ⟨e', envPut_same _ _, hb⟩
    · obtain ⟨q1, q2⟩ := hold k c hk hkm
      obtain ⟨ek, hek, hr⟩ := h.blk k c q1
      exact ⟨ek, hx _ _ hek, hr.keep hx (putObj_other (h.own n b k c e ek hn hw q1 q2 he hek))⟩
  · by_cases hkm : k = m
    · subst hkm
      rw [envPut_same] at h5; cases h5
      obtain ⟨q1, q2⟩ := hold k2 c2 h3 h4
      obtain ⟨ek, hek, _⟩ := h.blk k2 c2 q1
      rw [hx _ _ hek] at h6; cases h6
      rw [hblk]; exact h.own n b k2 c2 e _ hn hw q1 q2 he hek
    · obtain ⟨q1, q2⟩ := hold k c h1 hkm
      obtain ⟨ek, hek, _⟩ := h.blk k c q1
      rw [hx _ _ hek] at h5; cases h5
      by_cases hk2 : k2 = m
      · subst hk2
        rw [envPut_same] at h6; cases h6
        rw [hblk]
        exact fun y => h.own n b k c e _ hn hw q1 q2 he hek y.symm
      · obtain ⟨p1, p2⟩ := hold k2 c2 h3 hk2
        obtain ⟨ek2, hek2, _⟩ := h.blk k2 c2 p1
        rw [hx _ _ hek2] at h6; cases h6
        exact h.own k c k2 c2 _ _ q1 h2 p1 h4 hek hek2

theorem putF_sub (H : HF) (n : Nat) : ∀ m b, putF H n none m = some b → H m = some b := by
  intro m b h
  simp only [putF] at h
  split at h
  · cases h
  · exact h

/-- behind a growth -/
theorem grow_cells {z : Value} {i : TypeInfo} {H : HF} (hR : R P E H w) (hn : E nx = none) {e : TypeId} {c : TyC} {d : TypeDesc} (ht : TyOk P e c i d) (hiz : i.zero = some z) (hzl : z.cells.size = i.size)
    {cs : List SV} {us : List Value} (hr : VRelL E cs us) {tot old : Nat} (hl : cs.length = tot * c.size) (hle : tot ≤ growMost) :
    Eff P E nx H w [(nx, some (.cells true cs e))] (nx + 1) (envPut E nx ⟨w.heap.size, 0, grownCap w tot old e, []⟩)
      (w.drew.alloc (.cells (us.toArray ++ Builtin.zeroCells z.cells (grownCap w tot old e - tot)) e)) ∧
    VRel (envPut E nx ⟨w.heap.size, 0, grownCap w tot old e, []⟩) (.slice nx 0 tot (.rest 0)) (.slice (some ⟨w.heap.size, 0, none⟩) tot (grownCap w tot old e)) := by
  have hge := grownCap_ge w tot old e
  have hul := hr.length
  refine ⟨new_cells' hR hn ?_ e _ ?_ (0, 0) (by intro i _ h; simp at h), envPut_slice ⟨hge, rfl⟩⟩
  · intro i x hx
    obtain ⟨v, hv, hrel⟩ := hr.get i x hx
    refine ⟨v, ?_, hrel⟩
    rw [Array.getElem?_append_left (by
      have := (List.getElem?_eq_some_iff.1 hv).1
      simpa using this)]
    simpa using hv
  · intro i' hi'
    rw [ht.info] at hi'; cases hi'
    rw [Array.size_append, size_zeroCells, hzl, List.size_toArray, hul, hl, ht.size, ← Nat.add_mul]
    have : tot + (grownCap w tot old e - tot) = grownCap w tot old e := by omega
    rw [this]; exact Nat.le_refl _

theorem run_grow {e : TypeId} {c : TyC} {i : TypeInfo} {d : TypeDesc} (ht : TyOk P e c i d) {z : Value} (hiz : i.zero = some z) (hby : c.bytes ≤ 1048576)
    {st xt ty' : TypeId} {xd : TypeDesc} (hu : P.underlying st = some (.slice e)) (hxu : P.underlying xt = some xd) (hxi : xd = .string ∨ ∃ e', xd = .slice e')
    {base : Option Addr} {sLen sCap n : Nat} {vx : Value} {old new : List Value} (hln : (Builtin.lenOf vx).run P w = .ok n w)
    (hold : (Builtin.firstCells i.size sLen (.slice base sLen sCap)).run P w.drew = .ok old.toArray w.drew) (hnew : (Builtin.firstCells i.size n vx).run P w.drew = .ok new.toArray w.drew)
    (hgt : ¬ sLen + n ≤ sCap) (hle : sLen + n ≤ growMost) (more : List TypeId) (rest : List Value) :
    (Builtin.append_ (st :: xt :: more).toArray ty' (.slice base sLen sCap :: vx :: rest).toArray).run P w =
      .ok (.slice (some ⟨w.heap.size, 0, none⟩) (sLen + n) (grownCap w (sLen + n) sCap e))
        (w.drew.alloc (.cells ((old ++ new).toArray ++ Builtin.zeroCells z.cells (grownCap w (sLen + n) sCap e - (sLen + n))) e)) := by
  have hle' : sLen + n ≤ 1048576 := hle
  have hb : i.bytes ≤ 1048576 := by rw [ht.bytes]; exact hby
  have hfit : ¬ Builtin.nextslicecap (sLen + n) sCap * i.bytes > 2 ^ 48 := by
    have h1 : (sLen + n) * i.bytes ≤ 1048576 * 1048576 := Nat.mul_le_mul hle' hb
    have := growslice_fits (old := sCap) (need := sLen + n) (bytes := i.bytes) (by omega) (by omega)
    omega
  have hmax : ¬ ((sLen + n : Nat) : Int) > IntKind.i64.max := by simp [IntKind.max, IntKind.bits, IntKind.signed]; omega
  have hch : (choose (.appendCap (sLen + n) sCap e)).run P w = .ok (grownCap w (sLen + n) sCap e) w.drew := by rw [run_choose]; rfl
  have hrn : ∀ (o : Obj), (newObj o).run P w.drew = .ok w.heap.size (w.drew.alloc o) := fun o => rfl
  rcases hxi with rfl | ⟨e', rfl⟩ <;>
  · simp only [Builtin.append_, List.getElem?_toArray, List.getElem?_cons_zero, List.getElem?_cons_succ, Sem.run_bind, run_underlying hu, run_underlying hxu, Result.andThen_ok, run_sizeOf ht.info, Sem.run_pure,
      Bool.false_eq_true, if_false, hln, hgt, run_typeInfo ht.info, hfit, hmax, false_and, hch, run_askRoom, hold, Bool.not_false, if_true, hnew, run_zeroValue ht.info hiz, newRow, hrn]
    simp

theorem run_room {e : TypeId} {i : TypeInfo} (hi : P.info? e = some i)
    {st xt ty' : TypeId} {xd : TypeDesc} (hu : P.underlying st = some (.slice e)) (hxu : P.underlying xt = some xd) (hxi : xd = .string ∨ ∃ e', xd = .slice e')
    {base : Option Addr} {sLen sCap n : Nat} {vx : Value} {new : List Value} (hln : (Builtin.lenOf vx).run P w = .ok n w)
    (hnew : (Builtin.firstCells i.size n vx).run P w = .ok new.toArray w) (hle : sLen + n ≤ sCap) {w' : World}
    (hst : ∀ a, base = some a → (storeCells (a.add (sLen * i.size)) new).run P w = .ok () w') (hno : base = none → w' = w) (more : List TypeId) (rest : List Value) :
    (Builtin.append_ (st :: xt :: more).toArray ty' (.slice base sLen sCap :: vx :: rest).toArray).run P w = .ok (.slice base (sLen + n) sCap) w' := by
  cases base with
  | none =>
    have := hno rfl; subst this
    rcases hxi with rfl | ⟨e', rfl⟩ <;>
      simp only [Builtin.append_, List.getElem?_toArray, List.getElem?_cons_zero, List.getElem?_cons_succ, Sem.run_bind, run_underlying hu, run_underlying hxu, Result.andThen_ok, run_sizeOf hi, Sem.run_pure,
        Bool.false_eq_true, if_false, hln, hle, if_true, Bool.not_false, hnew]
  | some a =>
    have hst := hst a rfl
    rcases hxi with rfl | ⟨e', rfl⟩ <;>
      simp only [Builtin.append_, List.getElem?_toArray, List.getElem?_cons_zero, List.getElem?_cons_succ, Sem.run_bind, run_underlying hu, run_underlying hxu, Result.andThen_ok, run_sizeOf hi, Sem.run_pure,
        Bool.false_eq_true, if_false, hln, hle, if_true, Bool.not_false, hnew, hst]

theorem xk_inv {xk : TK} {xd : TypeDesc} (hk : KOk xk xd) (h : isRowK xk = true) : xd = .string ∨ ∃ e', xd = .slice e' := by
  cases xk <;> simp only [KOk] at hk <;> first | (cases h; done) | exact .inl hk | exact .inr ⟨_, hk⟩

theorem Eff.drop {H : HF} {n b : Nat} {bn : Option ABlk} {E' : Env} {w' : World} (hb : b < nx) (hn : nx ≤ n) (h : Eff P E nx (putF H b none) w [(n, bn)] (nx + 1) E' w') :
    Eff P E nx H w [(b, none), (n, bn)] (nx + 1) E' w' := by
  have hd1 : dW nx [(n, bn)] = [] := dW_nil_of nx n bn (by omega)
  have hd2 : dW nx [(b, none), (n, bn)] = [b] := by
    have := dW_one nx b none hb
    simp only [dW] at this hd1 ⊢
    cases hx : Nat.ble (Nat.succ b) nx with
    | true =>
      cases hy : Nat.ble (Nat.succ n) nx with
      | true => rw [hy] at hd1; cases hd1
      | false => rfl
    | false => rw [hx] at this; cases this
  refine ⟨h.ext, h.dom, h.le, h.rel, ?_, ?_⟩
  · have := h.fr; rw [hd1] at this; exact this.mono (by simp)
  · intro m e h1 h2
    have := h.fresh m e h1 h2
    rw [hd1] at this
    rcases this with q | ⟨m, hm, _⟩
    · exact .inl q
    · cases hm

/-- what an append has read -/
theorem appGrow_rd {nx : Nat} {out : Out} {e : TypeId} {b : Nat} {dr w : Bool} {old new : List SV} {tot : Nat} {rd : List Nat} (h : appGrow nx e b dr w old new tot rd = some out) : out.rd = b :: rd := by
  unfold appGrow at h
  split at h
  · cases h; rfl
  · split at h
    · cases h; rfl
    · cases h
theorem appTail_rd {nx : Nat} {out : Out} {e : TypeId} {z b off len : Nat} {cap : Cap} {new : List SV} {n : Nat} {rd : List Nat} : ∀ (w : Bool) (c : List SV) (e' : TypeId), (match cap with
     | .known k => (match Nat.ble (Nat.add len n) k with
       | true => (match w && oneCells new with
         | true => wrK c (Nat.add off (Nat.mul len z)) new none fun c' => some (.eff (.val (.slice b off (Nat.add len n) cap)) [(b, some (.cells true c' e'))] nx (b :: rd))
         | false => none)
       | false => slcK c off (Nat.mul len z) none fun old => appGrow nx e b false w old new (Nat.add len n) rd)
     | .rest k => (match Nat.beq off (Nat.mul k z) && Nat.beq e e' && oneCells new with
       | true => slcK c off (Nat.mul len z) none fun old => appGrow nx e b true w old new (Nat.add len n) rd
       | false => none) : Ro) = some out → out.rd = b :: rd := by
  intro w c e' hk
  split at hk
  · split at hk
    · split at hk
      · obtain ⟨_, h3⟩ := wrK_inv hk (by simp); cases h3; rfl
      · cases hk
    · obtain ⟨_, h3⟩ := slcK_inv hk (by simp); exact appGrow_rd h3
  · split at hk
    · obtain ⟨_, h3⟩ := slcK_inv hk (by simp); exact appGrow_rd h3
    · cases hk

theorem oAppend_sound (hT : TOk T P) {t : Tr ABlk} (hR : R P E t.get w) (hn : E nx = none) {out : Out} (hlt : ∀ n ∈ out.rd, ∀ b, t.get n = some b → n < nx) {st xt ty' : TypeId} {s x : SV} {vs vx : Value} (hs : VRel E s vs) (hx : VRel E x vx)
    (h : oAppend T t nx st xt s x = some out) (more : List TypeId) (rest : List Value) :
    ValOk P E nx t.get w (Builtin.append_ (st :: xt :: more).toArray ty' (vs :: vx :: rest).toArray) out := by
  unfold oAppend at h
  obtain ⟨c, e, hc, hk, h1⟩ := onSliceT_inv h (by simp)
  clear h
  obtain ⟨i, ds, ht⟩ := hT.ty _ _ hc
  have hds := ht.kind; rw [hk] at hds; simp only [KOk] at hds; subst hds
  have hu := ht.under
  obtain ⟨cx, hcx, h2⟩ := onKind_inv h1 (by simp)
  clear h1
  obtain ⟨ix, xd, htx⟩ := hT.ty _ _ hcx
  have hxu := htx.under
  cases hxk : isRowK cx.k with
  | false => rw [hxk] at h2; cases h2
  | true =>
  rw [hxk] at h2; dsimp only at h2
  have hxi := xk_inv htx.kind hxk
  obtain ⟨ce, hce, h3⟩ := onTy_inv h2 (by simp)
  clear h2
  obtain ⟨i', d', ht'⟩ := hT.ty _ _ hce
  cases hz : !Nat.beq ce.size 0 && Nat.ble ce.bytes 1048576 && Nat.beq (lenS ce.zero) ce.size with
  | false => rw [hz] at h3; cases h3
  | true =>
  rw [hz] at h3; dsimp only at h3
  simp only [Bool.and_eq_true, Bool.not_eq_true'] at hz
  have hne : ce.size ≠ 0 := fun y => by rw [y] at hz; simp at hz
  have hby := ble_true hz.1.2
  have hzl := beq_true hz.2; rw [lenS_eq] at hzl
  obtain ⟨zv, hiz, hzr, _⟩ := zero_cells ht' hzl
  have hzc : zv.cells.size = i'.size := by have := (hzr E).length; rw [ht'.size, ← hzl]; simpa using this
  obtain ⟨cs, n, rd, us, h4, hr, hl, hln, hfc, hsh⟩ := srcOf_inv hR hx h3 (by simp)
  clear h3
  have hul := hr.length
  have hfn : (Builtin.firstCells i'.size n vx).run P w = .ok us.toArray w := by
    have := hfc w rfl n (Nat.le_refl _)
    rw [ht'.size, this, List.take_of_length_le (by rw [hul, hl]; exact Nat.le_refl _)]
  have hfd : (Builtin.firstCells i'.size n vx).run P w.drew = .ok us.toArray w.drew := by
    have := hfc w.drew rfl n (Nat.le_refl _)
    rw [ht'.size, this, List.take_of_length_le (by rw [hul, hl]; exact Nat.le_refl _)]
  cases s <;> first | (cases h4; done) | skip
  case nilslice =>
    simp only [VRel] at hs; subst hs
    dsimp only at h4
    cases hn0 : Nat.beq n 0 with
    | true =>
      rw [hn0] at h4; cases h4
      have := beq_true hn0; subst this
      refine ⟨.slice none 0 0, ?_, by simp only [VRel]⟩
      exact run_room ht'.info hu hxu hxi hln hfn (by omega) (by simp) (fun _ => rfl) more rest
    | false =>
      rw [hn0] at h4; dsimp only at h4
      cases hg : Nat.ble n growMost with
      | false => rw [hg] at h4; cases h4
      | true =>
        rw [hg] at h4; cases h4
        have hg := ble_true hg
        have hnz : n ≠ 0 := fun y => by subst y; simp at hn0
        obtain ⟨heff, hvr⟩ := grow_cells (nx := nx) hR hn ht' hiz hzc hr (tot := n) (old := 0) hl hg
        have hrun := run_grow ht' hiz hby hu hxu hxi (base := none) (sLen := 0) (sCap := 0) (old := []) hln (by simp [Builtin.firstCells]) hfd (by omega) (by omega) more rest (ty' := ty')
        simp only [Nat.zero_add, List.nil_append] at hrun
        exact ⟨_, _, _, _, rfl, hrun, hvr, heff⟩
  case slice b off len cap =>
    simp only [VRel] at hs
    obtain ⟨ent, he, cc, hcap, rfl⟩ := hs
    obtain ⟨hlc, hcap⟩ := hcap
    dsimp only at h4
    cases hn0 : Nat.beq n 0 with
    | true =>
      rw [hn0] at h4; cases h4
      have := beq_true hn0; subst this
      have hus : us = [] := List.eq_nil_of_length_eq_zero (by rw [hul, hl]; simp)
      subst hus
      refine ⟨.slice (some ⟨ent.blk, ent.base + off, none⟩) len cc, ?_, by simp only [VRel]; exact ⟨ent, he, cc, ⟨hlc, hcap⟩, rfl⟩⟩
      exact run_room ht'.info hu hxu hxi hln hfn hlc (fun a _ => rfl) (fun _ => rfl) more rest
    | false =>
      rw [hn0] at h4; dsimp only at h4
      have hnz : n ≠ 0 := fun y => by subst y; simp at hn0
      unfold appSlice at h4
      cases hg : Nat.ble (Nat.add len n) growMost with
      | false => rw [hg] at h4; cases h4
      | true =>
      rw [hg] at h4; dsimp only at h4
      have hg : len + n ≤ growMost := ble_true hg
      obtain ⟨rw_, c2, e', hc2, h5⟩ := onCells_inv h4 (by simp)
      clear h4
      obtain ⟨ent', he', hb⟩ := hR.blk _ _ hc2
      rw [he] at he'; cases he'
      obtain ⟨arr, fz, hb1, hb2, hb3⟩ := hb
      have hbn := hlt b (by rw [appTail_rd _ _ _ h5]; simp) _ hc2
      -- what the slice holds
      have oldOk : off + len * ce.size ≤ c2.length → ∃ vo, VRelL E ((c2.drop off).take (len * ce.size)) vo ∧ ((c2.drop off).take (len * ce.size)).length = len * ce.size ∧
          (∀ w' : World, w'.heap = w.heap → (Builtin.firstCells i'.size len (.slice (some ⟨ent.blk, ent.base + off, none⟩) len cc)).run P w' = .ok vo.toArray w') ∧ (∀ (j : Nat) (v : Value), vo[j]? = some v → arr[ent.base + off + j]? = some v) := by
        intro ho1
        obtain ⟨vo, hvo, hgo⟩ := cells_read hb2 off (len * ce.size) ho1
        have hlo := hvo.length
        have hlo2 : ((c2.drop off).take (len * ce.size)).length = len * ce.size := by simp only [List.length_take, List.length_drop]; omega
        refine ⟨vo, hvo, hlo2, fun w' hw' => ?_, hgo⟩
        have hb1' : w'.heap[ent.blk]? = some (.cells arr e' fz) := by rw [hw']; exact hb1
        have := run_loadCells_list (P := P) w' ⟨ent.blk, ent.base + off, none⟩ vo (fun j v hj => by rw [add_eq, cell_eq hb1']; exact hgo j v hj)
        rw [hlo, hlo2] at this
        simp only [Builtin.firstCells, ht'.size, this]
      cases cap with
      | known k =>
        dsimp only at h5 hcap
        subst hcap
        cases hk : Nat.ble (Nat.add len n) cc with
        | true =>
          rw [hk] at h5; dsimp only at h5
          have hk : len + n ≤ cc := ble_true hk
          cases hw : rw_ && oneCells cs with
          | false => rw [hw] at h5; cases h5
          | true =>
            rw [hw] at h5; dsimp only at h5
            simp only [Bool.and_eq_true] at hw
            obtain ⟨hw1, hw2⟩ := hw
            subst hw1
            obtain ⟨hl2, h6⟩ := wrK_inv h5 (by simp)
            cases h6
            have hb3 := hb3 rfl
            obtain ⟨hsz, hbr⟩ := BRel_write (P := P) hb1 hb2 hb3 hr hl2
            refine ⟨_, E, putObj w ent.blk _, .slice (some ⟨ent.blk, ent.base + off, none⟩) (len + n) cc, rfl, ?_, by simp only [VRel]; exact ⟨ent, he, cc, ⟨hk, rfl⟩, rfl⟩, ⟨Ext.refl E, fun n h => .inl h, Nat.le_refl _, hR.write hc2 rfl rfl he hbr, ?_, fun n e h k => by rw [h] at k; cases k⟩⟩
            · refine run_room ht'.info hu hxu hxi hln hfn hk (fun a ha => ?_) (fun y => by cases y) more rest
              cases ha
              have hst := run_storeCells (P := P) us w arr (ent.base + (off + len * ce.size)) 0 hb1 hb3.1 (oneCells_rel hw2 hr) (by
                have : ent.base + (off + len * ce.size) + us.length ≤ arr.size := hsz
                omega)
              rw [add_eq, ht'.size, Nat.add_assoc]
              exact hst
            · rw [dW_one nx b _ hbn]; exact Fr.putObj _ he (by simp)
        | false =>
          rw [hk] at h5; dsimp only at h5
          have hk : ¬ len + n ≤ cc := ble_false hk
          obtain ⟨hl3, h6⟩ := slcK_inv h5 (by simp)
          clear h5
          obtain ⟨vo, hvo, hvl, hfo, _⟩ := oldOk hl3
          cases h6
          have hrr := VRelL.append hvo hr
          have hll : ((c2.drop off).take (len * ce.size) ++ cs).length = (len + n) * ce.size := by rw [List.length_append, hvl, hl, Nat.add_mul]
          obtain ⟨heff, hvr⟩ := grow_cells (nx := nx) hR hn ht' hiz hzc hrr (tot := len + n) (old := cc) hll hg
          have hrun := run_grow ht' hiz hby hu hxu hxi (base := some ⟨ent.blk, ent.base + off, none⟩) (sLen := len) (sCap := cc) hln (hfo w.drew rfl) hfd hk hg more rest (ty' := ty')
          have e1 : (vo ++ us).toArray = vo.toArray ++ us.toArray := by simp
          exact ⟨_, _, _, _, rfl, hrun, hvr, heff⟩
      | rest k =>
        dsimp only at h5 hcap
        cases hk : Nat.beq off (Nat.mul k ce.size) && Nat.beq e e' && oneCells cs with
        | false => rw [hk] at h5; cases h5
        | true =>
        rw [hk] at h5; dsimp only at h5
        simp only [Bool.and_eq_true] at hk
        have hoff : off = k * ce.size := beq_true hk.1.1
        have hee := beq_true hk.1.2; subst hee
        have h1c := hk.2
        obtain ⟨hl3, h6⟩ := slcK_inv h5 (by simp)
        clear h5
        obtain ⟨vo, hvo, hvl, hfo, hgo⟩ := oldOk hl3
        unfold appGrow at h6
        cases rw_ with
        | false => cases h6
        | true =>
        cases h6
        have hb3 := hb3 rfl
        have hrr := VRelL.append hvo hr
        have hll : ((c2.drop off).take (len * ce.size) ++ cs).length = (len + n) * ce.size := by rw [List.length_append, hvl, hl, Nat.add_mul]
        by_cases hfit : len + n ≤ cc
        · -- there is room: the block goes on under a new name
          have hcapz := hb3.2.2 i' ht'.info
          rw [ht'.size] at hcapz
          have hm1 : (len + n) * ce.size ≤ cc * ce.size := Nat.mul_le_mul_right _ hfit
          have hm2 : ent.cap * ce.size = cc * ce.size + off := by rw [← hcap, Nat.add_mul, hoff]
          have hm3 : (len + n) * ce.size = len * ce.size + n * ce.size := Nat.add_mul _ _ _
          have hsz : ent.base + (off + len * ce.size) + us.length ≤ arr.size := by rw [hul, hl]; omega
          have hst := run_storeCells (P := P) us w arr (ent.base + (off + len * ce.size)) 0 hb1 hb3.1 (oneCells_rel h1c hr) (by omega)
          rw [Nat.add_zero] at hst
          have hx := envPut_ext (e := ⟨ent.blk, ent.base + off, cc, []⟩) hn
          have hvol := hvo.length
          have hbr : BRel P (envPut E nx ⟨ent.blk, ent.base + off, cc, []⟩) ⟨ent.blk, ent.base + off, cc, []⟩ (.cells true ((c2.drop off).take (len * ce.size) ++ cs) e) (putObj w ent.blk (.cells (arrW arr (ent.base + (off + len * ce.size)) us) e fz)) := by
            refine ⟨_, fz, putObj_same hb1, ?_, fun _ => ⟨?_, ?_, ?_⟩⟩
            · intro j x hj
              show ∃ v, (arrW arr (ent.base + (off + len * ce.size)) us)[ent.base + off + j]? = some v ∧ _
              rw [arrW_get us arr _ _ hsz]
              by_cases hjl : j < len * ce.size
              · rw [if_neg (by omega)]
                rw [List.getElem?_append_left (by rw [hvl]; exact hjl)] at hj
                obtain ⟨v, hv, hrel⟩ := hvo.get j x hj
                exact ⟨v, hgo j v hv, VRel.ext hx _ _ hrel⟩
              · rw [List.getElem?_append_right (by rw [hvl]; omega), hvl] at hj
                obtain ⟨v, hv, hrel⟩ := hr.get _ x hj
                have hlt2 := (List.getElem?_eq_some_iff.1 hv).1
                rw [if_pos ⟨by omega, by omega⟩, show ent.base + off + j - (ent.base + (off + len * ce.size)) = j - len * ce.size by omega]
                exact ⟨v, hv, VRel.ext hx _ _ hrel⟩
            · intro j hj; rw [arrW_size] at hj; exact hb3.1 j hj
            · rw [arrW_size]; show ent.base + off ≤ arr.size; omega
            · intro i2 hi2
              rw [ht'.info] at hi2; cases hi2
              rw [arrW_size, ht'.size]; show ent.base + off + cc * ce.size ≤ arr.size; omega
          refine ⟨_, envPut E nx ⟨ent.blk, ent.base + off, cc, []⟩, putObj w ent.blk (.cells (arrW arr (ent.base + (off + len * ce.size)) us) e fz), .slice (some ⟨ent.blk, ent.base + off, none⟩) (len + n) cc, rfl, ?_, envPut_slice ⟨hfit, rfl⟩, ⟨hx, fun m h => ?_, Nat.le_succ _, ?_, ?_, ?_⟩⟩
          · refine run_room ht'.info hu hxu hxi hln hfn hfit (fun a ha => ?_) (fun y => by cases y) more rest
            cases ha
            rw [add_eq, ht'.size, Nat.add_assoc]
            exact hst
          · by_cases y : m = nx
            · exact .inr ⟨by omega, by omega⟩
            · exact .inl (by simpa [envPut, y] using h)
          · simp only [applyF]
            exact R.move (o := .cells (arrW arr (ent.base + (off + len * ce.size)) us) e fz) hR hc2 rfl he hn rfl hbr
          · have hd2 : b ∈ dW nx [(b, none), (nx, some (.cells true ((c2.drop off).take (len * ce.size) ++ cs) e))] := by
              simp only [dW]
              cases hxx : Nat.ble (Nat.succ b) nx with
              | true => simp
              | false => exact absurd hbn (ble_false hxx)
            exact Fr.putObj _ he hd2
          · intro m e1 h1 h2
            right
            refine ⟨b, ?_, ent, he, by rw [envPut_new h1 h2]⟩
            simp only [dW]
            cases hxx : Nat.ble (Nat.succ b) nx with
            | true => simp
            | false => exact absurd hbn (ble_false hxx)
        · have hRs := hR.sub (putF_sub t.get b)
          obtain ⟨heff, hvr⟩ := grow_cells (nx := nx) hRs hn ht' hiz hzc hrr (tot := len + n) (old := cc) hll hg
          have hrun := run_grow ht' hiz hby hu hxu hxi (base := some ⟨ent.blk, ent.base + off, none⟩) (sLen := len) (sCap := cc) hln (hfo w.drew rfl) hfd hfit hg more rest (ty' := ty')
          exact ⟨_, _, _, _, rfl, hrun, hvr, heff.drop hbn (Nat.le_refl _)⟩
end
end Go.Sx
