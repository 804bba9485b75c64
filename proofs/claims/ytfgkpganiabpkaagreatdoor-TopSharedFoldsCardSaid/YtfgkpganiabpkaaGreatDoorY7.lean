import Derived.Test.YtfgkpganiabpkaaGreatDoorY1
import Derived.Test.YtfgkpganiabpkaaGreatDoorY6
/- Proved in this claim (its last text holds the theorem): the given statement TopSharedFoldsCardSaid, with no condition of ours. This text is one part of that proof: contracts of the functions that the statement's code calls. -/
set_option linter.all false
namespace Go.Sx
open Go Go.RowKit
set_option linter.unusedVariables false
/-- an environment with names more, from nx on -/
def envL (E : Env) (nx : Nat) (l : List Ent) : Env := fun n => if nx ≤ n then (match l[n - nx]? with | some e => some e | none => E n) else E n
theorem envL_at {E : Env} {nx : Nat} {l : List Ent} (i : Nat) {e : Ent} (h : l[i]? = some e) : envL E nx l (nx + i) = some e := by
  unfold envL
  rw [if_pos (Nat.le_add_right _ _), Nat.add_sub_cancel_left, h]
theorem envL_ext {E : Env} {nx : Nat} {l : List Ent} (h : ∀ n, nx ≤ n → n < nx + l.length → E n = none) : Ext E (envL E nx l) := by
  intro n e he
  unfold envL
  split
  · rename_i hn
    cases hl : l[n - nx]? with
    | none => exact he
    | some x =>
      have := (List.getElem?_eq_some_iff.1 hl).1
      rw [h n hn (by omega)] at he; cases he
  · exact he
theorem envL_dom {E : Env} {nx : Nat} {l : List Ent} : ∀ n, envL E nx l n ≠ none → E n ≠ none ∨ (nx ≤ n ∧ n < nx + l.length) := by
  intro n h
  unfold envL at h
  split at h
  · rename_i hn
    cases hl : l[n - nx]? with
    | none => rw [hl] at h; exact .inl h
    | some x =>
      have := (List.getElem?_eq_some_iff.1 hl).1
      exact .inr ⟨hn, by omega⟩
  · exact .inl h
theorem envL_new {E : Env} {nx : Nat} {l : List Ent} {n : Nat} {e : Ent} (h : E n = none) (k : envL E nx l n = some e) : e ∈ l := by
  unfold envL at k
  split at k
  · cases hl : l[n - nx]? with
    | none => rw [hl] at k; rw [h] at k; cases k
    | some x => rw [hl] at k; cases k; exact List.mem_of_getElem? hl
  · rw [h] at k; cases k
end Go.Sx
namespace Go.Proofs.Tryz
open Go Go.Sx Go.RowKit
set_option linter.unusedVariables false

theorem great_one : FOne prog 24 greatF := by
  intro args t nx outs h E w vs H hsub hR hfree hvs
  unfold greatF at h
  match args, h with
  | [a], h =>
    obtain ⟨va, rfl, ha⟩ := VRelL_one hvs
    dsimp only at h
    cases h4 : four a with
    | none => rw [h4] at h; cases h
    | some q =>
      obtain ⟨n, s, m, at_⟩ := q
      rw [h4] at h
      dsimp only at h
      cases hs : isNil s <;> rw [hs] at h <;> cases hr : rowOf t n <;> rw [hr] at h <;> dsimp only at h <;> cases h
      rename_i q
      obtain ⟨n', s', m', a', rfl, hn, hs', _, _⟩ := four_inv h4 ha
      obtain ⟨_, rfl⟩ := isNil_inv hs hs'
      obtain ⟨A, l, c, rfl⟩ : ∃ A l c, n' = .slice A l c := by
        obtain ⟨_, ⟨_, _, _, rfl⟩ | ⟨b, rw_, ty, _, _, _, ⟨e, arr, fz, _, rfl, _⟩⟩⟩ := rowOf_inv (re := q.1) (ob := q.2) hr hsub hR hn
        · exact ⟨_, _, _, rfl⟩
        · exact ⟨_, _, _, rfl⟩
      refine (great24 A l c m' a' w).mono ?_
      rintro e w' ⟨⟨b, rfl⟩, hb⟩
      exact ⟨_, List.mem_singleton.2 rfl, .ubool, [], nx, rfl, E, _, rfl, ⟨b, rfl⟩, Eff.below hR nx hb⟩

/-- a row's reading -/
theorem rowAt_rd {E : Env} {w : World} {re : List Atom} {b : Nat} {rw_ : Bool} {ty : TypeId} {val : Value} (h : RowAt prog E w re b rw_ ty val) :
    ∃ A c, val = .slice A (evalR E re).length c ∧ Rd w A (evalR E re) ∧ (evalR E re).length ≤ c ∧ c ≤ maxLen := by
  obtain ⟨e, arr, fz, h1, rfl, h2, h3, h4, h5, _⟩ := h
  refine ⟨_, _, rfl, fun j u hj => ⟨e.blk, e.base, rfl, lt_heap h4, ?_⟩, h2, by unfold maxLen; omega⟩
  rw [cell_of_row w e.blk (e.base + j) arr ty fz h4]
  exact h5 j u hj
theorem row_rd {E : Env} {H : HF} {w : World} {t : Tr ABlk} {v : SV} {re : List Atom} {ob : Option (Nat × Bool × TypeId)} (h : rowOf t v = some (re, ob)) (hsub : ∀ n b, t.get n = some b → H n = some b) (hR : R prog E H w) {val : Value} (hv : VRel E v val) :
    defR E re ∧ ∃ A c, val = .slice A (evalR E re).length c ∧ Rd w A (evalR E re) ∧ (evalR E re).length ≤ c ∧ c ≤ maxLen ∧ (A = none → c = 0) := by
  obtain ⟨hd, ⟨_, rfl, _, rfl⟩ | ⟨b, rw_, ty, _, _, _, hrow⟩⟩ := rowOf_inv h hsub hR hv
  · exact ⟨hd, none, 0, rfl, fun j u hj => by simp [evalR] at hj, Nat.le_refl _, by unfold maxLen; omega, fun _ => rfl⟩
  · obtain ⟨A, c, h1, h2, h3, h4⟩ := rowAt_rd hrow
    obtain ⟨e, arr, fz, _, h5, _⟩ := hrow
    refine ⟨hd, A, c, h1, h2, h3, h4, fun hA => ?_⟩
    rw [h1, hA] at h5
    cases h5

theorem same_one : FOne prog 26 sameF := by
  intro args t nx outs h E w vs H hsub hR hfree hvs
  unfold sameF at h
  match args, h with
  | [a, b], h =>
    obtain ⟨va, vb, rfl, ha, hb⟩ := VRelL_two hvs
    dsimp only at h
    cases h4 : four a with
    | none => rw [h4] at h; cases h
    | some q =>
      obtain ⟨n1, s1, m1, a1⟩ := q
      cases h5 : four b with
      | none => rw [h4, h5] at h; cases h
      | some q =>
        obtain ⟨n2, s2, m2, a2⟩ := q
        rw [h4, h5] at h
        dsimp only at h
        cases hs : (isNil s1 && isNil s2) <;> rw [hs] at h <;> cases hr1 : rowOf t n1 <;> rw [hr1] at h <;> cases hr2 : rowOf t n2 <;> rw [hr2] at h <;> dsimp only at h <;> first | (cases h; done) | skip
        rename_i q1 q2
        cases he : reEq q1.1 q2.1 <;> rw [he] at h <;> dsimp only at h <;> cases h
        have hre := reEq_inv he
        obtain ⟨n1', s1', m1', a1', rfl, hn1, hs1, _, _⟩ := four_inv h4 ha
        obtain ⟨n2', s2', m2', a2', rfl, hn2, hs2, _, _⟩ := four_inv h5 hb
        simp only [Bool.and_eq_true] at hs
        obtain ⟨_, rfl⟩ := isNil_inv hs.1 hs1
        obtain ⟨_, rfl⟩ := isNil_inv hs.2 hs2
        obtain ⟨hd, A, c1, rfl, r1, _, _⟩ := row_rd (re := q1.1) (ob := q1.2) hr1 hsub hR hn1
        obtain ⟨_, B, c2, rfl, r2, b1, b2, _⟩ := row_rd (re := q2.1) (ob := q2.2) hr2 hsub hR hn2
        rw [hre] at r1 hd ⊢
        refine (same26 A B _ c1 c2 (evalR E q2.1) m1' a1' m2' a2' w r1 r2 rfl (Nat.le_trans b1 b2) (evalR_ints hd)).mono ?_
        rintro e w' ⟨rfl, hb⟩
        exact ⟨_, List.mem_singleton.2 rfl, .bool true, [], nx, rfl, E, _, rfl, rfl, Eff.below hR nx hb⟩

theorem fresh_ent {w w' : World} {n : Nat} {xs : List Value} {v : Value} {base : Nat} {ty : TypeId} (ho : w'.ownsRow base ty 1 v n xs) (hv : v ≠ .slice none 0 0) :
    ∃ g cap cur, v = .slice (some ⟨g, 0, none⟩) n cap ∧ base ≤ g ∧ w'.heap[g]? = some (.cells cur ty (0, 0)) ∧ n ≤ cap ∧ cap ≤ maxLen ∧ cur.size = cap ∧ xs.length = n ∧ ∀ (i : Nat) (u : Value), xs[i]? = some u → cur[i]? = some u := by
  obtain ⟨h0, h | ⟨g, cap, cur, h1, h2, h3, h4, h5, h6, h7⟩⟩ := ho
  · exact absurd h.1 hv
  · refine ⟨g, cap, cur, h1, h2, h3, h4, h5, by omega, by omega, fun i u hu => ?_⟩
    rw [← h7] at hu
    rw [List.getElem?_take] at hu
    split at hu
    · simpa using hu
    · cases hu

theorem copied_one : FOne prog 45 (copiedF 2) := by
  intro args t nx outs h E w vs H hsub hR hfree hvs
  unfold copiedF at h
  match args, h with
  | [a], h =>
    obtain ⟨va, rfl, ha⟩ := VRelL_one hvs
    dsimp only at h
    cases hr : rowOf t a with
    | none => rw [hr] at h; cases h
    | some q =>
      obtain ⟨re, ob⟩ := q
      rw [hr] at h
      dsimp only at h
      have hcase : re = [] ∨ ∃ rn, re = [.full true rn] := by
        rcases re with _ | ⟨ra, _ | ⟨_, _⟩⟩
        · exact .inl rfl
        · cases ra <;> simp only [reduceCtorEq] at h
          rename_i ne rn
          cases ne
          · simp at h
          · exact .inr ⟨rn, rfl⟩
        · simp at h
      rcases hcase with rfl | ⟨rn, rfl⟩
      · cases h
        obtain ⟨hd, ⟨_, _, _, rfl⟩ | ⟨b, rw_, ty, _, _, _, ⟨e, arr, fz, he, rfl, h1, h2, h3, h4, h5⟩⟩⟩ := rowOf_inv hr hsub hR ha
        · refine (copied45nil w).mono ?_
          rintro e w' ⟨v, rfl, _, hn, hb⟩
          obtain rfl := hn.2 rfl
          exact ⟨_, List.mem_singleton.2 rfl, .nilslice, [], nx, rfl, E, _, rfl, rfl, Eff.below hR nx hb⟩
        · refine (copied45 e.blk e.base 0 e.cap [] w rfl (Nat.zero_le _) (by omega) (fun j u hj => by simp at hj) (by simp)).mono ?_
          rintro e w' ⟨v, rfl, _, hn, hb⟩
          obtain rfl := hn.2 rfl
          exact ⟨_, List.mem_singleton.2 rfl, .nilslice, [], nx, rfl, E, _, rfl, rfl, Eff.below hR nx hb⟩
      · cases h
        obtain ⟨hd, ⟨_, hx, _, _⟩ | ⟨b, rw_, ty, _, _, _, hrow⟩⟩ := rowOf_inv hr hsub hR ha
        · cases hx
        · obtain ⟨e, arr, fz, he, rfl, h1, h2, h3, h4, h5⟩ := hrow
          obtain ⟨_, hfull⟩ := hd (.full true rn) List.mem_cons_self
          obtain ⟨hne, hlen⟩ := hfull rn rfl
          have hev : evalR E [.full true rn] = datN E rn := by simp [evalR, evalA]
          have hpos : 0 < (datN E rn).length := List.length_pos_iff.2 hne
          rw [hev] at h1 h4 ⊢
          have hnone : E nx = none := hfree _ (List.mem_singleton.2 rfl) _ _ _ rfl nx (Nat.le_refl _) (by omega)
          refine (copied45 e.blk e.base _ e.cap (datN E rn) w rfl (by unfold maxLen; omega) (by omega) (fun j u hj => by rw [cell_of_row w e.blk (e.base + j) arr ty fz h3]; exact h4 j u hj) (hev ▸ evalR_ints hd)).mono ?_
          rintro e1 w' ⟨v, rfl, ho, hn, hb⟩
          have hv : v ≠ .slice none 0 0 := fun hx => by have := hn.1 hx; omega
          obtain ⟨g, cap, cur, rfl, g1, g2, g3, g4, g5, g6, g7⟩ := fresh_ent (w := w) ho hv
          have hx : Ext E (envL E nx [⟨g, 0, cap, []⟩]) := envL_ext fun n hn1 hn2 => by
            simp at hn2
            obtain rfl : n = nx := by omega
            exact hnone
          have hat : envL E nx [⟨g, 0, cap, []⟩] nx = some ⟨g, 0, cap, []⟩ := envL_at 0 rfl
          have hev' : evalR (envL E nx [⟨g, 0, cap, []⟩]) [.full true rn] = datN E rn := by rw [evalR.ext hx hd, hev]
          refine ⟨_, List.mem_singleton.2 rfl, _, _, _, rfl, _, _, rfl, ⟨⟨g, 0, cap, []⟩, hat, hd.ext hx, ?_, ?_, ?_⟩, Eff.of hR (by simp [namesD]) hx (fun n hn => ?_) (by omega) (fun n hn hl => ?_) (fun n hn _ => ?_) ?_ (fun n b hb1 => ?_) (fun n e hn he => .inl ?_) (fun n b m c h1 h2 hne => ?_)⟩
          · rw [hev']; exact g3
          · unfold maxLen at g4; exact g4
          · rw [hev']
          · have := envL_dom n hn; simpa using this
          · obtain rfl : n = nx := by simpa [namesD] using hn
            omega
          · obtain rfl : n = nx := by simpa [namesD] using hn
            exact hnone
          · have : dW nx [(nx, some (ABlk.row true [.full true rn] 2))] = [] := dW_nil_of _ _ _ (by omega)
            rw [this]; exact Fr.below hb
          · obtain ⟨rfl, rfl⟩ : n = nx ∧ b = _ := by simpa using hb1
            exact ⟨_, hat, cur, (0, 0), hd.ext hx, g2, fun i u hu => by rw [hev'] at hu; simpa using g7 i u hu, fun _ => ⟨rfl, rfl, g5⟩⟩
          · have := envL_new hn he
            obtain rfl : e = ⟨g, 0, cap, []⟩ := by simpa using this
            exact g1
          · obtain ⟨rfl, _⟩ : n = nx ∧ b = _ := by simpa using h1
            obtain ⟨rfl, _⟩ : m = _ ∧ c = _ := by simpa using h2
            exact absurd rfl hne

def entI (b : Nat) (i : Int) : Ent := ⟨b, 0, 0, [.int .i64 i]⟩
theorem sym_at {E : Env} {n b : Nat} {i : Int} (h : E n = some (entI b i)) : VRel E (.sym n) (.int .i64 i) := ⟨_, h, i, rfl, rfl⟩

theorem arr_one (f : FuncId) (hc : ∀ k r l0 l1 v n w, RdI w v n → Calls prog f #[arrV k r l0 l1 v] w (ArrRes w)) : FOne prog f (arrF 2) := by
  intro args t nx outs h E w vs H hsub hR hfree hvs
  unfold arrF at h
  match args, h with
  | [a], h =>
    obtain ⟨va, rfl, ha⟩ := VRelL_one hvs
    dsimp only at h
    cases hia : isArr t a with
    | false => rw [hia] at h; cases h
    | true =>
      rw [hia] at h
      cases h
      -- the argument
      have harg : ∃ k r l0 l1 v n, va = arrV k r l0 l1 v ∧ RdI w v n := by
        cases a <;> simp only [isArr, Bool.false_eq_true] at hia
        rename_i cs
        match cs, hia, ha with
        | [k, r, l0, l1, cs], hia, ha =>
          simp only [Bool.and_eq_true, isI] at hia
          obtain ⟨⟨⟨⟨i1, i2⟩, i3⟩, i4⟩, i5⟩ := hia
          simp only [VRel, VRelL] at ha
          obtain ⟨vs, ⟨v0, _, h0, ⟨v1, _, h1, ⟨v2, _, h2, ⟨v3, _, h3, ⟨v4, _, h4, rfl, rfl⟩, rfl⟩, rfl⟩, rfl⟩, rfl⟩, rfl⟩ := ha
          cases a1 : atomOf k <;> rw [a1] at i1 <;> first | (cases i1; done) | skip
          cases a2 : atomOf r <;> rw [a2] at i2 <;> first | (cases i2; done) | skip
          cases a3 : atomOf l0 <;> rw [a3] at i3 <;> first | (cases i3; done) | skip
          cases a4 : atomOf l1 <;> rw [a4] at i4 <;> first | (cases i4; done) | skip
          cases a5 : rowOf t cs <;> rw [a5] at i5 <;> first | (cases i5; done) | skip
          rename_i q
          obtain ⟨z0, rfl, _⟩ := atomOf_inv a1 h0
          obtain ⟨z1, rfl, _⟩ := atomOf_inv a2 h1
          obtain ⟨z2, rfl, _⟩ := atomOf_inv a3 h2
          obtain ⟨z3, rfl, _⟩ := atomOf_inv a4 h3
          refine ⟨z0, z1, z2, z3, v4, (evalR E q.1).length, rfl, ?_⟩
          obtain ⟨hd, ⟨_, hre, _, rfl⟩ | ⟨b, rw_, ty, _, _, _, ⟨e, arr, fz, he, rfl, k1, k2, k3, k4, _⟩⟩⟩ := rowOf_inv (re := q.1) (ob := q.2) a5 hsub hR h4
          · rw [hre]; exact .inl ⟨rfl, rfl⟩
          · refine .inr ⟨e.blk, e.base, e.cap, rfl, k1, by unfold maxLen; omega, lt_heap k3, fun j hj => ?_⟩
            obtain ⟨i, hi⟩ := evalR_ints hd _ (List.getElem_mem hj)
            exact ⟨i, by rw [cell_of_row w e.blk (e.base + j) arr ty fz k3]; exact k4 j _ (by rw [List.getElem?_eq_getElem hj, hi])⟩
      obtain ⟨k, r, l0, l1, v, n, rfl, hrd⟩ := harg
      refine (hc k r l0 l1 v n w hrd).mono ?_
      rintro e w' ⟨k', r', l0', l1', v', m, c, rfl, ⟨xs, ho, hi⟩, hb⟩
      by_cases hv : v' = .slice none 0 0
      · subst hv
        -- no cells
        let L : List Ent := [entI w.heap.size k', entI w.heap.size r', entI w.heap.size l0', entI w.heap.size l1', entI w.heap.size c]
        have hx : Ext E (envL E nx L) := envL_ext fun n hn1 hn2 => hfree _ List.mem_cons_self _ _ _ rfl n hn1 (by simpa [L] using hn2)
        refine ⟨_, List.mem_cons_self, _, _, _, rfl, envL E nx L, _, rfl, ?_, Eff.of hR (by simp [namesD]) hx (fun n hn => by simpa [L] using envL_dom n hn) (by omega) (fun n hn => by simp [namesD] at hn) (fun n hn => by simp [namesD] at hn) (Fr.below hb) (fun n b hb1 => by simp at hb1) (fun n e hn he => .inl ?_) (fun n b m c h1 => by simp at h1)⟩
        · simp only [VRel, VRelL]
          exact ⟨_, ⟨_, _, ⟨_, ⟨_, _, ⟨_, envL_at 0 rfl, k', rfl, rfl⟩, ⟨_, _, ⟨_, envL_at 1 rfl, r', rfl, rfl⟩, ⟨_, _, ⟨_, envL_at 2 rfl, l0', rfl, rfl⟩, ⟨_, _, ⟨_, envL_at 3 rfl, l1', rfl, rfl⟩, ⟨_, _, rfl, rfl, rfl⟩, rfl⟩, rfl⟩, rfl⟩, rfl⟩, rfl⟩, ⟨_, _, ⟨_, envL_at 4 rfl, c, rfl, rfl⟩, rfl, rfl⟩, rfl⟩, rfl⟩
        · have := envL_new hn he
          simp [L] at this
          rcases this with rfl | rfl | rfl | rfl | rfl <;> exact Nat.le_refl _
      · obtain ⟨g, cap, cur, rfl, g1, g2, g3, g4, g5, g6, g7⟩ := fresh_ent (w := w) ho hv
        let L : List Ent := [entI w.heap.size k', entI w.heap.size r', entI w.heap.size l0', entI w.heap.size l1', entI w.heap.size c, ⟨g, 0, cap, []⟩, ⟨w.heap.size, 0, 0, xs⟩]
        have hx : Ext E (envL E nx L) := envL_ext fun n hn1 hn2 => hfree _ (List.mem_cons_of_mem _ List.mem_cons_self) _ _ _ rfl n hn1 (by simpa [L] using hn2)
        have h5 : envL E nx L (nx + 5) = some ⟨g, 0, cap, []⟩ := envL_at 5 rfl
        have h6 : envL E nx L (nx + 6) = some ⟨w.heap.size, 0, 0, xs⟩ := envL_at 6 rfl
        have hev : evalR (envL E nx L) [.full false (nx + 6)] = xs := by simp [evalR, evalA, datN, h6]
        have hdef : defR (envL E nx L) [.full false (nx + 6)] := by
          intro a ha
          obtain rfl : a = .full false (nx + 6) := by simpa using ha
          refine ⟨fun q hq => ?_, fun q hq => (by cases hq)⟩
          cases hq
          exact ⟨by rw [h6]; simp, fun u hu => hi u (by simpa [datN, h6] using hu)⟩
        have hnone : E (nx + 5) = none := hfree _ (List.mem_cons_of_mem _ List.mem_cons_self) _ _ _ rfl (nx + 5) (by omega) (by omega)
        refine ⟨_, List.mem_cons_of_mem _ List.mem_cons_self, _, _, _, rfl, envL E nx L, _, rfl, ?_, Eff.of hR (by simp [namesD]) hx (fun n hn => by simpa [L] using envL_dom n hn) (by omega) (fun n hn hl => ?_) (fun n hn _ => ?_) ?_ (fun n b hb1 => ?_) (fun n e hn he => .inl ?_) (fun n b m c h1 h2 hne => ?_)⟩
        · simp only [VRel, VRelL]
          exact ⟨_, ⟨_, _, ⟨_, ⟨_, _, ⟨_, envL_at 0 rfl, k', rfl, rfl⟩, ⟨_, _, ⟨_, envL_at 1 rfl, r', rfl, rfl⟩, ⟨_, _, ⟨_, envL_at 2 rfl, l0', rfl, rfl⟩, ⟨_, _, ⟨_, envL_at 3 rfl, l1', rfl, rfl⟩, ⟨_, _, ⟨_, h5, hdef, by rw [hev, g6]; exact g3, by unfold maxLen at g4; exact g4, by rw [hev, g6]⟩, rfl, rfl⟩, rfl⟩, rfl⟩, rfl⟩, rfl⟩, rfl⟩, ⟨_, _, ⟨_, envL_at 4 rfl, c, rfl, rfl⟩, rfl, rfl⟩, rfl⟩, rfl⟩
        · obtain rfl : n = nx + 5 := by simpa [namesD] using hn
          omega
        · obtain rfl : n = nx + 5 := by simpa [namesD] using hn
          exact hnone
        · have : dW nx [(nx + 5, some (ABlk.row true [.full false (nx + 6)] 2))] = [] := dW_nil_of _ _ _ (by omega)
          rw [this]; exact Fr.below hb
        · obtain ⟨rfl, rfl⟩ : n = nx + 5 ∧ b = _ := by simpa using hb1
          exact ⟨_, h5, cur, (0, 0), hdef, g2, fun i u hu => by rw [hev] at hu; simpa using g7 i u hu, fun _ => ⟨rfl, rfl, g5⟩⟩
        · have := envL_new hn he
          simp [L] at this
          rcases this with rfl | rfl | rfl | rfl | rfl | rfl | rfl
          · exact Nat.le_refl _
          · exact Nat.le_refl _
          · exact Nat.le_refl _
          · exact Nat.le_refl _
          · exact Nat.le_refl _
          · exact g1
          · exact Nat.le_refl _
        · obtain ⟨rfl, _⟩ : n = nx + 5 ∧ b = _ := by simpa using h1
          obtain ⟨rfl, _⟩ : m = _ ∧ c = _ := by simpa using h2
          exact absurd rfl hne
end Go.Proofs.Tryz

namespace Go.Proofs.Tryz
open Go Go.Sx Go.RowKit
set_option linter.unusedVariables false

structure SeeI (E : Env) (w : World) (t : Tr ABlk) (nx : Nat) (p : SeeP) (vs : List Value) : Prop where
  some_ : ∃ ee xe arrE fzE arrX fzX rest, vs = [.pointer (some ⟨ee.blk, ee.base, none⟩), .pointer (some ⟨xe.blk, xe.base + p.off, none⟩)] ∧ E p.e = some ee ∧ E p.xb = some xe ∧ p.e ≠ p.xb ∧ p.e < nx ∧ p.xb < nx ∧
    t.get p.e = some (.cells true [p.n, p.s, p.mark, p.at_] p.ety) ∧ t.get p.xb = some (.cells p.xw p.cx p.xty) ∧ p.cx.drop p.off = p.k :: p.r :: p.l0 :: p.l1 :: p.cs :: rest ∧
    w.heap[ee.blk]? = some (.cells arrE p.ety fzE) ∧ (∀ (i : Nat) (x : SV), [p.n, p.s, p.mark, p.at_][i]? = some x → ∃ v, arrE[ee.base + i]? = some v ∧ VRel E x v) ∧
    ((∀ i, i < arrE.size → ¬ (fzE.1 ≤ i ∧ i < fzE.2)) ∧ ee.base ≤ arrE.size ∧ ∀ i, prog.info? p.ety = some i → ee.base + ee.cap * i.size ≤ arrE.size) ∧
    w.heap[xe.blk]? = some (.cells arrX p.xty fzX) ∧ (∀ (i : Nat) (x : SV), p.cx[i]? = some x → ∃ v, arrX[xe.base + i]? = some v ∧ VRel E x v) ∧
    (p.xw = true → (∀ i, i < arrX.size → ¬ (fzX.1 ≤ i ∧ i < fzX.2)) ∧ xe.base ≤ arrX.size ∧ ∀ i, prog.info? p.xty = some i → xe.base + xe.cap * i.size ≤ arrX.size) ∧ xe.blk ≠ ee.blk

theorem seeParts_inv {args : List SV} {t : Tr ABlk} {nx : Nat} {p : SeeP} (h : seeParts args t nx = some p) {E : Env} {w : World} {H : HF} (hsub : ∀ n b, t.get n = some b → H n = some b) (hR : R prog E H w) {vs : List Value} (hvs : VRelL E args vs) : SeeI E w t nx p vs := by
  unfold seeParts at h
  match args, h with
  | [a, x], h =>
    obtain ⟨va, vx, rfl, ha, hx⟩ := VRelL_two hvs
    cases a <;> simp only [reduceCtorEq] at h
    rename_i e o
    cases x <;> simp only [reduceCtorEq] at h
    rename_i xb off
    cases h1 : (Nat.beq o 0 && Nat.ble (Nat.succ e) nx && Nat.ble (Nat.succ xb) nx) <;> rw [h1] at h <;> cases h2 : Nat.beq e xb <;> rw [h2] at h <;> dsimp only at h <;> first | (cases h; done) | skip
    simp only [Bool.and_eq_true] at h1
    obtain ⟨⟨ho, he⟩, hxb⟩ := h1
    obtain rfl := beq_true ho
    have he := ble_true he
    have hxb := ble_true hxb
    have hne : e ≠ xb := fun hx => by subst hx; rw [Nat.beq_refl] at h2; cases h2
    cases hte : t.get e with
    | none => rw [hte] at h; cases h
    | some be =>
      rw [hte] at h
      cases be <;> simp only [reduceCtorEq] at h
      rename_i wr c ety
      cases wr <;> simp only [reduceCtorEq] at h
      match c, hte, h with
      | [n, s, mark, at_], hte, h =>
        dsimp only at h
        cases htx : t.get xb with
        | none => rw [htx] at h; cases h
        | some bx =>
          rw [htx] at h
          cases bx <;> simp only [reduceCtorEq] at h
          rename_i xw cx xty
          match hcx : cx.drop off, h with
          | k :: r :: l0 :: l1 :: cs :: rest, h =>
            cases h
            simp only [VRel] at ha hx
            obtain ⟨ee, hee, rfl⟩ := ha
            obtain ⟨xe, hxe, rfl⟩ := hx
            obtain ⟨ee', hee', arrE, fzE, e1, e2, e3⟩ := hR.blk e _ (hsub _ _ hte)
            obtain rfl := Option.some.inj (hee.symm.trans hee')
            obtain ⟨xe', hxe', arrX, fzX, x1, x2, x3⟩ := hR.blk xb _ (hsub _ _ htx)
            obtain rfl := Option.some.inj (hxe.symm.trans hxe')
            exact ⟨ee, xe, arrE, fzE, arrX, fzX, rest, rfl, hee, hxe, hne, he, hxb, hte, htx, hcx, e1, e2, e3 rfl, x1, x2, x3, hR.own e _ xb _ ee xe (hsub _ _ hte) rfl (hsub _ _ htx) (Ne.symm hne) hee hxe⟩

/-- sees as seeArray does -/
def SeeLike (f : FuncId) : Prop := ∀ (p q : Addr) (w : World) (R : Ending → World → Prop), (∀ e w', R e w' → e = .returned (.tuple #[])) → Calls prog 10 #[.pointer (some p), .pointer (some q)] w R → Calls prog f #[.pointer (some p), .pointer (some q)] w R

theorem getElem_drop {α : Type} {l rest : List α} {off : Nat} {a b c d e : α} (h : l.drop off = a :: b :: c :: d :: e :: rest) : l[off]? = some a ∧ l[off + 1]? = some b ∧ l[off + 2]? = some c ∧ l[off + 3]? = some d ∧ l[off + 4]? = some e := by
  have key : ∀ i, l[off + i]? = (a :: b :: c :: d :: e :: rest)[i]? := fun i => by rw [← h, List.getElem?_drop]
  exact ⟨key 0, key 1, key 2, key 3, key 4⟩
theorem evalR_five {E : Env} {k r l0 l1 : Atom} {ki ri ai bi : Int} (hk : Atom1 E k ki) (hr : Atom1 E r ri) (ha : Atom1 E l0 ai) (hb : Atom1 E l1 bi) {re al : List Atom} (hd : defR E re) (hal : seenRow re = some al) :
    evalR E (k :: r :: l0 :: l1 :: al) = SeenA ki ri ai bi (evalR E re) ∧ defR E (k :: r :: l0 :: l1 :: al) := by
  have h4 : evalR E (k :: r :: l0 :: l1 :: al) = al.foldl (evalA E) [.int .i64 ki, .int .i64 ri, .int .i64 ai, .int .i64 bi] := by
    simp [evalR, hk.1, hr.1, ha.1, hb.1]
  have hdef : ∀ al', defR E al' → defR E (k :: r :: l0 :: l1 :: al') := fun al' h => defR_cons hk.2 (defR_cons hr.2 (defR_cons ha.2 (defR_cons hb.2 h)))
  rw [h4]
  rcases re with _ | ⟨a, _ | ⟨_, _⟩⟩
  · cases hal
    exact ⟨rfl, hdef _ (defR_cons (fun a ha => by
      obtain rfl : a = .int 0 := by simpa using ha
      exact ⟨fun m hm => (by cases hm), fun m hm => (by cases hm)⟩) (fun a ha => (by cases ha)))⟩
  · cases a <;> simp only [seenRow, reduceCtorEq] at hal
    rename_i ne m
    cases hal
    have hev : evalR E [.full ne m] = datN E m := by simp [evalR, evalA]
    obtain ⟨h1, _⟩ := hd (.full ne m) List.mem_cons_self
    obtain ⟨hm1, hm2⟩ := h1 m rfl
    refine ⟨by rw [hev]; simp [evalA, SeenA], hdef _ (fun a ha => ?_)⟩
    simp only [List.mem_cons, List.not_mem_nil, or_false] at ha
    rcases ha with rfl | rfl
    · exact ⟨fun q hq => by cases hq; exact ⟨hm1, hm2⟩, fun q hq => (by cases hq)⟩
    · exact ⟨fun q hq => by cases hq; exact ⟨hm1, hm2⟩, fun q hq => (by cases hq)⟩
  · simp [seenRow] at hal

theorem seeU_ok (f : FuncId) (hf : SeeLike f) {args : List SV} {t : Tr ABlk} {nx : Nat} {p : SeeP} {outs : List Out} (hp : seeParts args t nx = some p) (hm : p.mark = .bool false) (h : seeU 3 p t nx = some outs)
    {E : Env} {w : World} {vs : List Value} {H : HF} (hsub : ∀ n b, t.get n = some b → H n = some b) (hR : R prog E H w) (hfree : ∀ out ∈ outs, ∀ v d nn, Out.fin nx out = some (v, d, nn) → ∀ n, nx ≤ n → n < nn → E n = none) (hvs : VRelL E args vs) :
    Calls prog f vs.toArray w fun e w' => ∃ out ∈ outs, ∃ v d nn, Out.fin nx out = some (v, d, nn) ∧ ∃ E' val, e = .returned val ∧ VRel E' v val ∧ Eff prog E nx H w d nn E' w' := by
  obtain ⟨ee, xe, arrE, fzE, arrX, fzX, rest, rfl, hee, hxe, hne, hle, hlx, hte, htx, hcx, e1, e2, e3, x1, x2, x3, hblk⟩ := seeParts_inv hp hsub hR hvs
  obtain ⟨g0, g1, g2, g3, g4⟩ := getElem_drop hcx
  unfold seeU at h
  cases hn : isNil p.n <;> rw [hn] at h <;> (try dsimp only at h) <;> first | (cases h; done) | skip
  cases a1 : atomOf p.k <;> rw [a1] at h <;> (try dsimp only at h) <;> first | (cases h; done) | skip
  cases a2 : atomOf p.r <;> rw [a2] at h <;> (try dsimp only at h) <;> first | (cases h; done) | skip
  cases a3 : atomOf p.l0 <;> rw [a3] at h <;> (try dsimp only at h) <;> first | (cases h; done) | skip
  cases a4 : atomOf p.l1 <;> rw [a4] at h <;> (try dsimp only at h) <;> first | (cases h; done) | skip
  cases a5 : rowOf t p.cs <;> rw [a5] at h <;> (try dsimp only at h) <;> first | (cases h; done) | skip
  rename_i k r l0 l1 q
  obtain ⟨re, ob⟩ := q
  cases a6 : seenRow re <;> rw [a6] at h <;> (try dsimp only at h) <;> first | (cases h; done) | skip
  rename_i al
  cases h
  obtain ⟨xk, k1, k2⟩ := x2 _ _ g0
  obtain ⟨xr, r1, r2⟩ := x2 _ _ g1
  obtain ⟨xa, c1, c2⟩ := x2 _ _ g2
  obtain ⟨xb, d1, d2⟩ := x2 _ _ g3
  obtain ⟨xc, f1, f2⟩ := x2 _ _ g4
  obtain ⟨ki, rfl, hk⟩ := atomOf_inv a1 k2
  obtain ⟨ri, rfl, hr⟩ := atomOf_inv a2 r2
  obtain ⟨ai, rfl, ha⟩ := atomOf_inv a3 c2
  obtain ⟨bi, rfl, hb⟩ := atomOf_inv a4 d2
  obtain ⟨n0, n1, n2⟩ := e2 0 _ rfl
  obtain ⟨_, rfl⟩ := isNil_inv hn n2
  obtain ⟨m0, m1, m2⟩ := e2 2 _ rfl
  rw [hm] at m2
  simp only [VRel] at m2
  subst m2
  obtain ⟨hd, hrow⟩ := rowOf_inv a5 hsub hR f2
  obtain ⟨hev, hdef⟩ := evalR_five hk hr ha hb hd a6
  have cE : ∀ i, w.cell? ⟨ee.blk, i, none⟩ = arrE[i]? := fun i => cell_of_row w ee.blk i arrE p.ety fzE e1
  have cX : ∀ i, w.cell? ⟨xe.blk, i, none⟩ = arrX[i]? := fun i => cell_of_row w xe.blk i arrX p.xty fzX x1
  have hlt0 : ee.base < arrE.size := (Array.getElem?_eq_some_iff.1 (show arrE[ee.base]? = some _ from n1)).1
  have hints : Ints w w.heap.size ee.blk xc (evalR E re) := by
    rcases hrow with ⟨_, rfl, _, rfl⟩ | ⟨b, rw_, ty, hcs, _, htb, ⟨e, arr, fz, he, rfl, h1, h2, h3, h4, _⟩⟩
    · exact .inl ⟨rfl, rfl⟩
    · refine .inr ⟨e.blk, e.base, _, e.cap, rfl, lt_heap h3, ?_, rfl, by unfold maxLen; omega, h1, fun j u hj => by rw [cell_of_row w e.blk (e.base + j) arr ty fz h3]; exact h4 j u hj, evalR_ints hd⟩
      exact hR.own p.e _ b _ ee e (hsub _ _ hte) rfl (hsub _ _ htb) (fun hx => by rw [hx, hte] at htb; cases htb) hee he
  have hst : EyeSt w w.heap.size ee.blk ee.base [] := ⟨lt_heap e1, Nat.le_refl _, ⟨_, by rw [cE]; exact n1, rfl, .inl ⟨rfl, rfl⟩⟩, by rw [cE]; exact m1, by
    simp only [World.frozen?, e1]
    have := e3.1 ee.base hlt0
    by_cases hx : fzE.1 ≤ ee.base
    · have : ¬ ee.base < fzE.2 := fun y => this ⟨hx, y⟩
      simp [this]
    · simp [hx]⟩
  have hnone : E nx = none := hfree _ (List.mem_singleton.2 rfl) _ _ _ rfl nx (Nat.le_refl _) (by omega)
  refine hf _ _ w _ ?_ ((see10 w.heap.size ee.blk ee.base xe.blk (xe.base + p.off) ki ri ai bi xc (evalR E re) w hst (lt_heap x1) hblk
    (by rw [cX]; exact k1) (by rw [cX, Nat.add_assoc]; exact r1) (by rw [cX, Nat.add_assoc]; exact c1) (by rw [cX, Nat.add_assoc]; exact d1) (by rw [cX, Nat.add_assoc]; exact f1) hints).mono ?_)
  · rintro e w' ⟨out, hout, v, d, nn, hfin, E', val, rfl, hv, _⟩
    obtain rfl := List.mem_singleton.1 hout
    cases hfin
    simp only [VRel, VRelL] at hv
    obtain ⟨_, rfl, rfl⟩ := hv
    rfl
  rintro e w' ⟨rfl, hbut, hst'⟩
  obtain ⟨v, hv1, ho⟩ := hst'.row
  have hlen : 0 < (SeenA ki ri ai bi (evalR E re)).length := by simp [SeenA]
  have hvne : v ≠ .slice none 0 0 := by
    rintro rfl
    rcases ho.2 with ⟨_, h0⟩ | ⟨_, _, _, h0, _⟩
    · omega
    · cases h0
  obtain ⟨g, cap, cur, rfl, q1, q2, q3, q4, q5, q6, q7⟩ := fresh_ent (w := w) ho hvne
  rw [← hev] at q3 q6 q7 ho hv1
  have hx : Ext E (envL E nx [⟨g, 0, cap, []⟩]) := envL_ext fun n hn1 hn2 => by
    simp at hn2
    obtain rfl : n = nx := by omega
    exact hnone
  have hat : envL E nx [⟨g, 0, cap, []⟩] nx = some ⟨g, 0, cap, []⟩ := envL_at 0 rfl
  have hev' := evalR.ext hx hdef
  -- the eye's block
  obtain ⟨v1, hown⟩ := hbut.own
  have hheap : w'.heap[ee.blk]? = some (.cells (arrE.setIfInBounds ee.base v1) p.ety fzE) := by
    rw [hown]
    simp only [World.setCell, Array.getElem?_modify, if_true, e1]
    rfl
  have hv1e : v1 = .slice (some ⟨g, 0, none⟩) (evalR E (k :: r :: l0 :: l1 :: al)).length cap := by
    rw [cell_of_row w' ee.blk ee.base _ p.ety fzE hheap, Array.getElem?_setIfInBounds_self_of_lt hlt0] at hv1
    exact Option.some.inj hv1
  subst hv1e
  have hvosl : VRel (envL E nx [⟨g, 0, cap, []⟩]) (.osl nx (k :: r :: l0 :: l1 :: al)) (.slice (some ⟨g, 0, none⟩) (evalR E (k :: r :: l0 :: l1 :: al)).length cap) :=
    ⟨_, hat, hdef.ext hx, by rw [hev']; exact q3, by unfold maxLen at q4; exact q4, by rw [hev']⟩
  refine ⟨_, List.mem_singleton.2 rfl, _, _, _, rfl, envL E nx [⟨g, 0, cap, []⟩], _, rfl, ?_, Eff.of hR ?_ hx (fun n hn => by simpa using envL_dom n hn) (by omega) (fun n hn hl => ?_) (fun n hn hge => ?_) ⟨hbut.size, hbut.os, hbut.tape, hbut.output, fun b hb1 hb2 => ?_⟩ (fun n b hb1 => ?_) (fun n e hn he => .inl ?_) (fun n b m c h1 h2 hne' => ?_)⟩
  · simp only [VRel, VRelL]; exact ⟨_, rfl, rfl⟩
  · simp [namesD]; omega
  · simp only [namesD, List.map_cons, List.map_nil, List.mem_cons, List.not_mem_nil, or_false] at hn
    rcases hn with rfl | rfl
    · omega
    · exact ⟨_, hsub _ _ hte, rfl⟩
  · simp only [namesD, List.map_cons, List.map_nil, List.mem_cons, List.not_mem_nil, or_false] at hn
    rcases hn with rfl | rfl
    · exact hnone
    · omega
  · refine hbut.block b hb1 fun hx => ?_
    exact hb2 p.e (mem_dWn (by simp [namesD]) hle) ee hee hx.symm
  · simp only [List.mem_cons, Prod.mk.injEq, Option.some.injEq, List.not_mem_nil, or_false] at hb1
    rcases hb1 with ⟨rfl, rfl⟩ | ⟨rfl, rfl⟩
    · exact ⟨_, hat, cur, (0, 0), hdef.ext hx, q2, fun i u hu => by rw [hev'] at hu; simpa using q7 i u hu, fun _ => ⟨rfl, rfl, q5⟩⟩
    · refine ⟨ee, hx _ _ hee, _, fzE, hheap, fun i x hi => ?_, fun _ => by simpa using e3⟩
      match i, hi with
      | 0, hi =>
        cases hi
        exact ⟨_, by rw [Nat.add_zero, Array.getElem?_setIfInBounds_self_of_lt hlt0], hvosl⟩
      | 1, hi =>
        obtain ⟨y, y1, y2⟩ := e2 1 x hi
        exact ⟨y, by rw [Array.getElem?_setIfInBounds_ne (by omega)]; exact y1, VRel.ext hx _ _ y2⟩
      | 2, hi =>
        obtain ⟨y, y1, y2⟩ := e2 2 x hi
        exact ⟨y, by rw [Array.getElem?_setIfInBounds_ne (by omega)]; exact y1, VRel.ext hx _ _ y2⟩
      | 3, hi =>
        obtain ⟨y, y1, y2⟩ := e2 3 x hi
        exact ⟨y, by rw [Array.getElem?_setIfInBounds_ne (by omega)]; exact y1, VRel.ext hx _ _ y2⟩
  · have := envL_new hn he
    obtain rfl : e = ⟨g, 0, cap, []⟩ := by simpa using this
    exact q1
  · simp only [List.mem_cons, Prod.mk.injEq, Option.some.injEq, List.not_mem_nil, or_false] at h1 h2
    intro e e' he he'
    have hg : ee.blk < g := Nat.lt_of_lt_of_le (lt_heap e1) q1
    have hat' := hx _ _ hee
    rcases h1 with ⟨rfl, _⟩ | ⟨rfl, _⟩ <;> rcases h2 with ⟨rfl, _⟩ | ⟨rfl, _⟩
    · exact absurd rfl hne'
    · rw [hat] at he; cases he; rw [hat'] at he'; cases he'; exact Nat.ne_of_lt hg
    · rw [hat] at he'; cases he'; rw [hat'] at he; cases he; exact (Nat.ne_of_lt hg).symm
    · exact absurd rfl hne'
end Go.Proofs.Tryz
