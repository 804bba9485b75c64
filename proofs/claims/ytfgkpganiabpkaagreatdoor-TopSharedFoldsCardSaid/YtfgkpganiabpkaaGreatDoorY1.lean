import Derived.Test.YtfgkpganiabpkaaGreatDoorE7
import Derived.Test.YtfgkpganiabpkaaGreatDoorE1
import Derived.Below
/- Proved in this claim (its last text holds the theorem): the given statement TopSharedFoldsCardSaid, with no condition of ours. This text is one part of that proof: contracts of the functions that the statement's code calls. -/
set_option linter.all false
namespace Go.Sx
open Go
set_option linter.unusedVariables false

/-! ## A contract's effect, out of what it does to the blocks of its names -/
def namesD (d : List (Nat × Option ABlk)) : List Nat := d.map (·.1)
theorem applyF_notin : ∀ (d : List (Nat × Option ABlk)) (H : HF) (n : Nat), n ∉ namesD d → applyF d H n = H n
  | [], _, _, _ => rfl
  | (m, b) :: d, H, n, h => by
    simp only [namesD, List.map_cons, List.mem_cons, not_or] at h
    rw [applyF, applyF_notin d _ n h.2, putF, if_neg h.1]
theorem applyF_in : ∀ (d : List (Nat × Option ABlk)) (H : HF) (n : Nat) (b : Option ABlk), (namesD d).Nodup → (n, b) ∈ d → applyF d H n = b
  | (m, c) :: d, H, n, b, hn, h => by
    simp only [namesD, List.map_cons, List.nodup_cons] at hn
    rw [applyF]
    rcases List.mem_cons.1 h with h | h
    · cases h
      rw [applyF_notin d _ _ hn.1, putF, if_pos rfl]
    · exact applyF_in d _ n b hn.2 h
theorem mem_names {d : List (Nat × Option ABlk)} {n : Nat} (h : n ∈ namesD d) : ∃ b, (n, b) ∈ d := by
  obtain ⟨⟨m, b⟩, h1, h2⟩ := List.mem_map.1 h
  cases h2
  exact ⟨b, h1⟩
theorem mem_dWn {nx n : Nat} : ∀ {d : List (Nat × Option ABlk)}, n ∈ namesD d → n < nx → n ∈ dW nx d
  | (m, b) :: d, h, hn => by
    simp only [namesD, List.map_cons, List.mem_cons] at h
    unfold dW
    rcases h with rfl | h
    · rw [show Nat.ble (Nat.succ n) nx = true from Nat.ble_eq_true_of_le hn]; exact List.mem_cons_self
    · cases hb : Nat.ble (Nat.succ m) nx
      · exact mem_dWn h hn
      · exact List.mem_cons_of_mem _ (mem_dWn h hn)
theorem dW_memn {nx n : Nat} : ∀ {d : List (Nat × Option ABlk)}, n ∈ dW nx d → n ∈ namesD d ∧ n < nx
  | (m, b) :: d, h => by
    unfold dW at h
    cases hb : Nat.ble (Nat.succ m) nx
    · rw [hb] at h
      obtain ⟨h1, h2⟩ := dW_memn h
      exact ⟨List.mem_cons_of_mem _ h1, h2⟩
    · rw [hb] at h
      rcases List.mem_cons.1 h with rfl | h
      · exact ⟨List.mem_cons_self, Nat.le_of_ble_eq_true hb⟩
      · obtain ⟨h1, h2⟩ := dW_memn h
        exact ⟨List.mem_cons_of_mem _ h1, h2⟩

section
variable {P : Program} {E E' : Env} {H : HF} {w w' : World} {nx nn : Nat} {d : List (Nat × Option ABlk)}
theorem Eff.of (hR : R P E H w) (hnd : (namesD d).Nodup) (hext : Ext E E') (hdom : ∀ n, E' n ≠ none → E n ≠ none ∨ (nx ≤ n ∧ n < nn)) (hle : nx ≤ nn)
    (hold : ∀ n ∈ namesD d, n < nx → ∃ b, H n = some b ∧ rwB b = true) (hnewn : ∀ n ∈ namesD d, nx ≤ n → E n = none)
    (hfr : Fr E (dW nx d) w w')
    (hb : ∀ n b, (n, some b) ∈ d → ∃ e, E' n = some e ∧ BRel P E' e b w')
    (hnew : ∀ n e, E n = none → E' n = some e → w.heap.size ≤ e.blk ∨ ∃ m ∈ namesD d, m < nx ∧ ∃ e', E m = some e' ∧ e'.blk = e.blk)
    (hap : ∀ n b m c, (n, some b) ∈ d → (m, some c) ∈ d → n ≠ m → ∀ e e', E' n = some e → E' m = some e' → e'.blk ≠ e.blk) : Eff P E nx H w d nn E' w' := by
  have hkeep : ∀ m c e, H m = some c → m ∉ namesD d → E m = some e → w'.heap[e.blk]? = w.heap[e.blk]? := by
    intro m c e hm hmd he
    obtain ⟨e1, he1, hr⟩ := hR.blk m c hm
    rw [he] at he1; cases he1
    refine hfr.keep _ hr.lt fun n hn e2 he2 => ?_
    obtain ⟨h1, h2⟩ := dW_memn hn
    obtain ⟨b, h3, h4⟩ := hold n h1 h2
    exact (hR.own n b m c e2 e h3 h4 hm (fun x => hmd (x ▸ h1)) he2 he).symm
  -- a name of d's, against one that is not
  have hout : ∀ n b e, (n, some b) ∈ d → E' n = some e → ∀ m c e', H m = some c → m ∉ namesD d → E' m = some e' → e'.blk ≠ e.blk := by
    intro n b e hn he m c e' hm hmd he'
    obtain ⟨e1, he1, hr⟩ := hR.blk m c hm
    obtain rfl : e1 = e' := Option.some.inj ((hext _ _ he1).symm.trans he')
    have hnn : n ∈ namesD d := List.mem_map.2 ⟨_, hn, rfl⟩
    rcases Nat.lt_or_ge n nx with x | x
    · obtain ⟨b0, h3, h4⟩ := hold n hnn x
      obtain ⟨e2, he2, _⟩ := hR.blk n b0 h3
      obtain rfl : e2 = e := Option.some.inj ((hext _ _ he2).symm.trans he)
      exact hR.own n b0 m c e2 e1 h3 h4 hm (fun x => hmd (x ▸ hnn)) he2 he1
    · rcases hnew n e (hnewn n hnn x) he with h | ⟨m0, h1, h2, e0, h3, h4⟩
      · have := hr.lt
        omega
      · obtain ⟨b0, h5, h6⟩ := hold m0 h1 h2
        rw [← h4]
        exact hR.own m0 b0 m c e0 e1 h5 h6 hm (fun x => hmd (x ▸ h1)) h3 he1
  refine ⟨hext, hdom, hle, ⟨fun n b hn => ?_, fun n b m c e e' h1 h2 h3 h4 h5 h6 => ?_⟩, hfr, fun n e h1 h2 => (hnew n e h1 h2).imp_right fun ⟨m, a, b, e', c, d⟩ => ⟨m, mem_dWn a b, e', c, d⟩⟩
  · by_cases hd : n ∈ namesD d
    · obtain ⟨c, hc⟩ := mem_names hd
      rw [applyF_in d H n c hnd hc] at hn
      subst hn
      exact hb n b hc
    · rw [applyF_notin d H n hd] at hn
      obtain ⟨e, he, hr⟩ := hR.blk n b hn
      exact ⟨e, hext _ _ he, hr.keep hext (hkeep n b e hn hd he)⟩
  · by_cases hd1 : n ∈ namesD d
    · obtain ⟨b1, hb1⟩ := mem_names hd1
      rw [applyF_in d H n b1 hnd hb1] at h1
      subst h1
      by_cases hd2 : m ∈ namesD d
      · obtain ⟨c1, hc1⟩ := mem_names hd2
        rw [applyF_in d H m c1 hnd hc1] at h3
        subst h3
        exact hap n b m c hb1 hc1 (Ne.symm h4) e e' h5 h6
      · rw [applyF_notin d H m hd2] at h3
        exact hout n b e hb1 h5 m c e' h3 hd2 h6
    · rw [applyF_notin d H n hd1] at h1
      by_cases hd2 : m ∈ namesD d
      · obtain ⟨c1, hc1⟩ := mem_names hd2
        rw [applyF_in d H m c1 hnd hc1] at h3
        subst h3
        exact (hout m c e' hc1 h6 n b e h1 hd1 h5).symm
      · rw [applyF_notin d H m hd2] at h3
        obtain ⟨x1, y1, _⟩ := hR.blk n b h1
        obtain ⟨x2, y2, _⟩ := hR.blk m c h3
        rw [hext _ _ y1] at h5; cases h5
        rw [hext _ _ y2] at h6; cases h6
        exact hR.own n b m c _ _ h1 h2 h3 h4 y1 y2
end
end Go.Sx

namespace Go.Sx
noncomputable section

/-! ## What calls do at integers and rows that are not known -/
def atomEq (a b : Atom) : Bool := match a with
  | .sym n => (match b with | .sym m => Nat.beq n m | _ => false)
  | .int i => (match b with | .int j => intEq i j | _ => false)
  | .len n => (match b with | .len m => Nat.beq n m | _ => false)
  | .all n => (match b with | .all m => Nat.beq n m | _ => false)
  | .full x n => (match b with | .full y m => eqBool x y && Nat.beq n m | _ => false)
def reEq : List Atom → List Atom → Bool
  | [], b => (match b with | [] => true | _ :: _ => false)
  | x :: xs, b => (match b with | [] => false | y :: ys => (match atomEq x y with | true => reEq xs ys | false => false))

/-- an integer's atom -/
def atomOf (v : SV) : Option Atom := match v with
  | .sym n => some (.sym n)
  | .int kd i => (match kindEq kd .i64 with | true => some (.int i) | false => none)
  | _ => none
/-- a slice of cells: its row, and its block -/
def rowOf (t : Tr ABlk) (v : SV) : Option (List Atom × Option (Nat × Bool × TypeId)) := match v with
  | .nilslice => some ([], none)
  | .osl b re => (match t.get b with
    | some bl => (match bl with
      | .row w re' ty => (match reEq re re' with | true => some (re, some (b, w, ty)) | false => none)
      | _ => none)
    | none => none)
  | _ => none
/-- the row of a slice of cells, seen: how long it is, and its cells -/
def seenRow (re : List Atom) : Option (List Atom) := match re with
  | [] => some [.int 0]
  | a :: r => (match r with
    | [] => (match a with | .full _ n => some [.len n, .all n] | _ => none)
    | _ :: _ => none)

structure SeeP where
  e : Nat
  n : SV
  s : SV
  mark : SV
  at_ : SV
  ety : TypeId
  xb : Nat
  off : Nat
  xw : Bool
  cx : List SV
  xty : TypeId
  k : SV
  r : SV
  l0 : SV
  l1 : SV
  cs : SV
def seeParts (args : List SV) (t : Tr ABlk) (nx : Nat) : Option SeeP := match args with
  | [a, x] => (match a with
    | .ptr e o => (match x with
      | .ptr xb off => (match Nat.beq o 0 && Nat.ble (Nat.succ e) nx && Nat.ble (Nat.succ xb) nx, Nat.beq e xb with
        | true, false => (match t.get e with
          | some be => (match be with
            | .cells w c ety => (match w with
              | true => (match c with
                | [n, s, mark, at_] => (match t.get xb with
                  | some bx => (match bx with
                    | .cells xw cx xty => (match cx.drop off with
                      | k :: r :: l0 :: l1 :: cs :: _ => some ⟨e, n, s, mark, at_, ety, xb, off, xw, cx, xty, k, r, l0, l1, cs⟩
                      | _ => none)
                    | _ => none)
                  | none => none)
                | _ => none)
              | false => none)
            | _ => none)
          | none => none)
        | _, _ => none)
      | _ => none)
    | _ => none)
  | _ => none
abbrev Delta := List (Nat × Option ABlk)
def outV (v : SV) (d : Delta) (nn : Nat) : Out := .eff (.val v) d nn []
def isNil (v : SV) : Bool := match v with | .nilslice => true | _ => false

/-- seeArray, with no mark, at an eye that has seen nothing; i: the type of the numbers' cells -/
def seeU (i : TypeId) (p : SeeP) (t : Tr ABlk) (nx : Nat) : Option (List Out) :=
  match isNil p.n with
  | false => none
  | true => (match atomOf p.k, atomOf p.r, atomOf p.l0, atomOf p.l1, rowOf t p.cs with
    | some k, some r, some l0, some l1, some (re, _) => (match seenRow re with
      | some al => some [outV (.tuple []) [(nx, some (.row true (k :: r :: l0 :: l1 :: al) i)), (p.e, some (.cells true [.osl nx (k :: r :: l0 :: l1 :: al), p.s, p.mark, p.at_] p.ety))] (nx + 1)]
      | none => none)
    | _, _, _, _, _ => none)
def put5L (cx : List SV) (off : Nat) (a b c d e : SV) : List SV := cx.take off ++ (a :: b :: c :: d :: e :: cx.drop (off + 5))
/-- seeArray, with a mark: the array is written over -/
def seeM (i : TypeId) (p : SeeP) (t : Tr ABlk) (nx : Nat) : Option (List Out) :=
  match isNil p.n && p.xw with
  | false => none
  | true => (match atomOf p.k, atomOf p.r, atomOf p.l0, atomOf p.l1, atomOf p.at_, rowOf t p.cs with
    | some _, some _, some _, some _, some _, some (re, ob) => (match re with
      | [] => some [outV (.tuple []) [(p.xb, some (.cells true (put5L p.cx p.off (.sym nx) (.sym (nx + 1)) (.sym (nx + 2)) (.sym (nx + 3)) p.cs) p.xty)), (nx + 5, some (.row true [.full false (nx + 6)] i)),
          (p.e, some (.cells true [.osl (nx + 5) [.full false (nx + 6)], p.s, p.mark, .sym (nx + 7)] p.ety))] (nx + 8)]
      | a :: rr => (match rr with
        | _ :: _ => none
        | [] => (match a with
          | .full ne _ => (match ob with
            | some (b, w, ty) => (match w && Nat.ble (Nat.succ b) nx && !(Nat.beq b p.e) && !(Nat.beq b p.xb) with
              | true => some [outV (.tuple []) [(b, some (.row true [.full ne (nx + 8)] ty)), (p.xb, some (.cells true (put5L p.cx p.off (.sym nx) (.sym (nx + 1)) (.sym (nx + 2)) (.sym (nx + 3)) (.osl b [.full ne (nx + 8)])) p.xty)),
                  (nx + 5, some (.row true [.full false (nx + 6)] i)), (p.e, some (.cells true [.osl (nx + 5) [.full false (nx + 6)], p.s, p.mark, .sym (nx + 7)] p.ety))] (nx + 9)]
              | false => none)
            | none => none)
          | _ => none)))
    | _, _, _, _, _, _ => none)
def seeF (i : TypeId) (args : List SV) (t : Tr ABlk) (nx : Nat) : Option (List Out) :=
  match seeParts args t nx with
  | none => none
  | some p => (match p.mark with
    | .bool b => (match b with | true => seeM i p t nx | false => seeU i p t nx)
    | _ => none)
def four (v : SV) : Option (SV × SV × SV × SV) := match v with
  | .agg c => (match c with | [n, s, mark, at_] => some (n, s, mark, at_) | _ => none)
  | _ => none
/-- eye.same -/
def sameF (args : List SV) (t : Tr ABlk) (nx : Nat) : Option (List Out) :=
  match args with
  | [a, b] => (match four a, four b with
    | some (n1, s1, _, _), some (n2, s2, _, _) => (match isNil s1 && isNil s2, rowOf t n1, rowOf t n2 with
      | true, some (r1, _), some (r2, _) => (match reEq r1 r2 with | true => some [outV (.bool true) [] nx] | false => none)
      | _, _, _ => none)
    | _, _ => none)
  | _ => none
/-- eye.great -/
def greatF (args : List SV) (t : Tr ABlk) (nx : Nat) : Option (List Out) :=
  match args with
  | [a] => (match four a with
    | some (n, s, _, _) => (match isNil s, rowOf t n with
      | true, some _ => some [outV .ubool [] nx]
      | _, _ => none)
    | none => none)
  | _ => none
/-- copied; i: the type of the cells -/
def copiedF (i : TypeId) (args : List SV) (t : Tr ABlk) (nx : Nat) : Option (List Out) :=
  match args with
  | [a] => (match rowOf t a with
    | some (re, _) => (match re with
      | [] => some [outV .nilslice [] nx]
      | ra :: rr => (match rr with
        | _ :: _ => none
        | [] => (match ra with
          | .full ne rn => (match ne with
            | true => some [outV (.osl nx [.full true rn]) [(nx, some (.row true [.full true rn] i))] (nx + 1)]
            | false => none)
          | _ => none)))
    | none => none)
  | _ => none
def isI (v : SV) : Bool := match atomOf v with | some _ => true | none => false
def isArr (t : Tr ABlk) (v : SV) : Bool := match v with
  | .agg c => (match c with
    | [k, r, l0, l1, cs] => isI k && isI r && isI l0 && isI l1 && (match rowOf t cs with | some _ => true | none => false)
    | _ => false)
  | _ => false
/-- an array made of another: new memory, or none; an errno -/
def arrF (i : TypeId) (args : List SV) (t : Tr ABlk) (nx : Nat) : Option (List Out) :=
  match args with
  | [a] => (match isArr t a with
    | true => some [outV (.tuple [.agg [.sym nx, .sym (nx + 1), .sym (nx + 2), .sym (nx + 3), .nilslice], .sym (nx + 4)]) [] (nx + 5),
        outV (.tuple [.agg [.sym nx, .sym (nx + 1), .sym (nx + 2), .sym (nx + 3), .osl (nx + 5) [.full false (nx + 6)]], .sym (nx + 4)]) [(nx + 5, some (.row true [.full false (nx + 6)] i))] (nx + 7)]
    | false => none)
  | _ => none
end
end Go.Sx

namespace Go.Sx
open Go Go.RowKit
set_option linter.unusedVariables false

/-! ## Contracts at values that are not known: the words read backwards -/
def FOne (P : Program) (f : FuncId) (F : List SV → Tr ABlk → Nat → Option (List Out)) : Prop := ∀ args t nx outs, F args t nx = some outs →
  ∀ E w vs H, (∀ n b, t.get n = some b → H n = some b) → R P E H w → (∀ out ∈ outs, ∀ v d nn, Out.fin nx out = some (v, d, nn) → ∀ n, nx ≤ n → n < nn → E n = none) → VRelL E args vs →
    Calls P f vs.toArray w fun e w' => ∃ out ∈ outs, ∃ v d nn, Out.fin nx out = some (v, d, nn) ∧ ∃ E' val, e = .returned val ∧ VRel E' v val ∧ Eff P E nx H w d nn E' w'

theorem atomEq_inv {a b : Atom} (h : atomEq a b = true) : a = b := by
  cases a <;> cases b <;> simp only [atomEq, Bool.false_eq_true, Bool.and_eq_true, intEq_eq, eqBool_eq, beq_iff_eq] at h <;>
    first
    | (rw [beq_true h])
    | (rw [h])
    | (obtain ⟨h1, h2⟩ := h; rw [beq_true h2, h1])
theorem reEq_inv : ∀ {a b : List Atom}, reEq a b = true → a = b
  | [], [], _ => rfl
  | [], _ :: _, h => by simp [reEq] at h
  | _ :: _, [], h => by simp [reEq] at h
  | x :: xs, y :: ys, h => by
    simp only [reEq] at h
    cases he : atomEq x y with
    | false => rw [he] at h; cases h
    | true => rw [he] at h; rw [atomEq_inv he, reEq_inv h]

/-- an atom that gives one integer -/
def Atom1 (E : Env) (a : Atom) (i : Int) : Prop := (∀ acc, evalA E acc a = acc ++ [.int .i64 i]) ∧ defR E [a]
theorem atomOf_inv {v : SV} {a : Atom} (h : atomOf v = some a) {E : Env} {val : Value} (hv : VRel E v val) : ∃ i, val = .int .i64 i ∧ Atom1 E a i := by
  cases v <;> simp only [atomOf, reduceCtorEq] at h
  case sym n =>
    cases h
    simp only [VRel] at hv
    obtain ⟨e, he, i, hd, rfl⟩ := hv
    refine ⟨i, rfl, fun acc => by simp [evalA, datN, he, hd], fun a ha => ?_⟩
    obtain rfl : a = .sym n := by simpa using ha
    refine ⟨fun m hm => ?_, fun m hm => (by cases hm)⟩
    cases hm
    exact ⟨by rw [he]; simp, fun u hu => ⟨i, by simpa [datN, he, hd] using hu⟩⟩
  case int k i =>
    cases hk : kindEq k .i64 with
    | false => rw [hk] at h; cases h
    | true =>
      rw [hk] at h
      cases h
      have := kindEq_inv hk
      subst this
      simp only [VRel] at hv
      refine ⟨i, hv, fun acc => rfl, fun a ha => ?_⟩
      obtain rfl : a = .int i := by simpa using ha
      exact ⟨fun m hm => (by cases hm), fun m hm => (by cases hm)⟩

theorem defR_cons {E : Env} {a : Atom} {re : List Atom} (h : defR E [a]) (k : defR E re) : defR E (a :: re) := by
  intro b hb
  rcases List.mem_cons.1 hb with rfl | hb
  · exact h _ (by simp)
  · exact k b hb
theorem evalR_ints {E : Env} {re : List Atom} (h : defR E re) : ∀ u ∈ evalR E re, ∃ i, u = Value.int .i64 i := by
  have key : ∀ (re : List Atom) (acc : List Value), defR E re → (∀ u ∈ acc, ∃ i, u = Value.int .i64 i) → ∀ u ∈ re.foldl (evalA E) acc, ∃ i, u = Value.int .i64 i := by
    intro re
    induction re with
    | nil => intro acc _ ha; exact ha
    | cons a re ih =>
      intro acc hd ha
      refine ih _ (fun b hb => hd b (List.mem_cons_of_mem _ hb)) ?_
      obtain ⟨h1, _⟩ := hd a List.mem_cons_self
      intro u hu
      cases a <;> simp only [evalA, List.mem_append] at hu
      · rcases hu with hu | hu
        · exact ha u hu
        · exact (h1 _ rfl).2 u hu
      · rcases hu with hu | hu
        · exact ha u hu
        · exact ⟨_, by simpa using hu⟩
      · rcases hu with hu | hu
        · exact ha u hu
        · exact ⟨_, by simpa using hu⟩
      · rcases hu with hu | hu
        · exact ha u hu
        · exact (h1 _ rfl).2 u (List.mem_of_mem_take hu)
      · rcases hu with hu | hu
        · exact ha u hu
        · exact (h1 _ rfl).2 u hu
  exact key re [] h (by simp)

/-- a slice whose block holds its row -/
structure RowAt (P : Program) (E : Env) (w : World) (re : List Atom) (b : Nat) (rw_ : Bool) (ty : TypeId) (val : Value) : Prop where
  ent : ∃ e arr fz, E b = some e ∧ val = .slice (some ⟨e.blk, e.base, none⟩) (evalR E re).length e.cap ∧ (evalR E re).length ≤ e.cap ∧ e.cap ≤ 9223372036854775807 ∧ w.heap[e.blk]? = some (.cells arr ty fz) ∧
    (∀ (i : Nat) (v : Value), (evalR E re)[i]? = some v → arr[e.base + i]? = some v) ∧ (rw_ = true → e.base = 0 ∧ fz = (0, 0) ∧ arr.size = e.cap)
theorem rowOf_inv {P : Program} {E : Env} {H : HF} {w : World} {t : Tr ABlk} {v : SV} {re : List Atom} {ob : Option (Nat × Bool × TypeId)} (h : rowOf t v = some (re, ob)) (hsub : ∀ n b, t.get n = some b → H n = some b) (hR : R P E H w) {val : Value} (hv : VRel E v val) :
    defR E re ∧ ((v = .nilslice ∧ re = [] ∧ ob = none ∧ val = .slice none 0 0) ∨ ∃ b rw_ ty, v = .osl b re ∧ ob = some (b, rw_, ty) ∧ t.get b = some (.row rw_ re ty) ∧ RowAt P E w re b rw_ ty val) := by
  cases v <;> simp only [rowOf, reduceCtorEq] at h
  case nilslice =>
    cases h
    simp only [VRel] at hv
    exact ⟨fun a ha => (by cases ha), .inl ⟨rfl, rfl, rfl, hv⟩⟩
  case osl b re0 =>
    cases hb : t.get b with
    | none => rw [hb] at h; cases h
    | some bl =>
      rw [hb] at h
      cases bl <;> simp only [reduceCtorEq] at h
      rename_i rw_ re' ty
      cases he : reEq re0 re' with
      | false => rw [he] at h; cases h
      | true =>
        rw [he] at h
        cases h
        have := reEq_inv he
        subst this
        simp only [VRel] at hv
        obtain ⟨e, he1, hd, hl, hc, rfl⟩ := hv
        obtain ⟨e2, he2, hr⟩ := hR.blk b _ (hsub _ _ hb)
        obtain rfl := Option.some.inj (he1.symm.trans he2)
        obtain ⟨arr, fz, _, h1, h2, h3⟩ := hr
        exact ⟨hd, .inr ⟨b, rw_, ty, rfl, rfl, hb, ⟨e, arr, fz, he1, rfl, hl, hc, h1, h2, h3⟩⟩⟩

theorem Fr.below {E : Env} {w w' : World} (h : Below w.heap.size w w') : Fr E [] w w' := ⟨h.size, h.os, h.tape, h.output, fun b hb _ => h.block b hb⟩
theorem Eff.below {P : Program} {E : Env} {H : HF} {w w' : World} (hR : R P E H w) (nx : Nat) (h : Below w.heap.size w w') : Eff P E nx H w [] nx E w' :=
  ⟨Ext.refl E, fun n h => .inl h, Nat.le_refl _, ⟨fun n b hn => by
    obtain ⟨e, he, hr⟩ := hR.blk n b hn
    exact ⟨e, he, hr.keep (Ext.refl E) (h.block _ hr.lt)⟩, hR.own⟩, Fr.below h, fun n e h k => by rw [h] at k; cases k⟩
theorem four_inv {v : SV} {n s m a : SV} (h : four v = some (n, s, m, a)) {E : Env} {val : Value} (hv : VRel E v val) : ∃ n' s' m' a', val = .agg #[n', s', m', a'] ∧ VRel E n n' ∧ VRel E s s' ∧ VRel E m m' ∧ VRel E a a' := by
  cases v <;> simp only [four, reduceCtorEq] at h
  rename_i cs
  match cs, h with
  | [x0, x1, x2, x3], h =>
    cases h
    simp only [VRel, VRelL] at hv
    obtain ⟨vs, ⟨v0, _, h0, ⟨v1, _, h1, ⟨v2, _, h2, ⟨v3, _, h3, rfl, rfl⟩, rfl⟩, rfl⟩, rfl⟩, rfl⟩ := hv
    exact ⟨v0, v1, v2, v3, rfl, h0, h1, h2, h3⟩
theorem isNil_inv {v : SV} (h : isNil v = true) {E : Env} {val : Value} (hv : VRel E v val) : v = .nilslice ∧ val = .slice none 0 0 := by
  cases v <;> simp only [isNil, Bool.false_eq_true] at h
  simp only [VRel] at hv
  exact ⟨rfl, hv⟩
theorem VRelL_one {E : Env} {a : SV} {vs : List Value} (h : VRelL E [a] vs) : ∃ v, vs = [v] ∧ VRel E a v := by
  simp only [VRelL] at h
  obtain ⟨v, _, hv, rfl, rfl⟩ := h
  exact ⟨v, rfl, hv⟩
theorem VRelL_two {E : Env} {a b : SV} {vs : List Value} (h : VRelL E [a, b] vs) : ∃ v u, vs = [v, u] ∧ VRel E a v ∧ VRel E b u := by
  simp only [VRelL] at h
  obtain ⟨v, _, hv, ⟨u, _, hu, rfl, rfl⟩, rfl⟩ := h
  exact ⟨v, u, rfl, hv, hu⟩
end Go.Sx
