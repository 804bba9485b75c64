import Derived.Test.YtfgkpganiabpkaaGreatDoorY4
/- Proved in this claim (its last text holds the theorem): the given statement TopSharedFoldsCardSaid, with no condition of ours. This text is one part of that proof: contracts of the functions that the statement's code calls. -/
set_option linter.all false
namespace Go.Proofs.Tryz
open Go.RowKit

def ShapeOk (r l0 l1 : Int) : Prop := (r = 0 ∧ l0 = 0 ∧ l1 = 0) ∨ (r = 1 ∧ 0 ≤ l0 ∧ l0 ≤ 400 ∧ l1 = 0) ∨ (r = 2 ∧ 0 ≤ l0 ∧ l0 ≤ 400 ∧ 0 ≤ l1 ∧ l1 ≤ 400 ∧ l1 * l0 ≤ 400)
def ErrIf (w : World) (p : Prop) (e : Ending) (w' : World) : Prop := (∃ c, e = .returned (.int .i64 c) ∧ (c = 0 → p)) ∧ Below w.heap.size w w'

set_option maxRecDepth 100000 in
theorem ent179 : ∀ args w, Sem.run prog (callFunc 179 args) w = .ok (.enter 179 args) w := fun _ _ => rfl
set_option maxRecDepth 100000 in
theorem ent180 : ∀ args w, Sem.run prog (callFunc 180 args) w = .ok (.enter 180 args) w := fun _ _ => rfl
set_option maxRecDepth 100000 in
theorem ent181 : ∀ args w, Sem.run prog (callFunc 181 args) w = .ok (.enter 181 args) w := fun _ _ => rfl
set_option maxRecDepth 100000 in
theorem ent67 : ∀ args w, Sem.run prog (callFunc 67 args) w = .ok (.enter 67 args) w := fun _ _ => rfl

/-- a part of two integers in a box -/
theorem rdl_box {w : World} {b : Nat} {l0 l1 : Int} (h0 : w.cell? ⟨b, 0, none⟩ = some (.int .i64 l0)) (h1 : w.cell? ⟨b, 1, none⟩ = some (.int .i64 l1)) (o n cap : Nat) (hn : o + n ≤ 2) (hc : n ≤ cap) (hm : cap ≤ 2) :
    RdL w (.slice (some ⟨b, o, none⟩) n cap) (([l0, l1].drop o).take n) := by
  have hl : (([l0, l1].drop o).take n).length = n := by simp; omega
  refine .inr ⟨b, o, cap, by rw [hl], by rw [hl]; exact hc, by unfold maxLen; omega, World.block_lt_of_cell? w _ h0, fun j hj => ?_⟩
  rw [hl] at hj
  have : (([l0, l1].drop o).take n).getD j 0 = [l0, l1].getD (o + j) 0 := by
    simp [List.getD, hj]
  rw [this]
  rcases (by omega : o + j = 0 ∨ o + j = 1) with h | h <;> rw [h]
  · exact h0
  · exact h1

set_option maxRecDepth 100000 in
set_option maxHeartbeats 3200000 in
theorem shape121 (r l0 l1 : Int) (w : World) : Calls prog 121 #[.int .i64 r, .agg #[.int .i64 l0, .int .i64 l1]] w (ErrIf w (ShapeOk r l0 l1)) := by
  by_cases hr : 0 ≤ r ∧ r ≤ 2
  · generalize hW : (w.alloc (Obj.cells #[Value.int .i64 l0, Value.int .i64 l1] 22)) = W
    have hBel : Below w.heap.size w W := by rw [← hW]; exact (Below.refl _ _).alloc (Nat.le_refl _) _
    have c0 : W.cell? ⟨w.heap.size, 0, none⟩ = some (.int .i64 l0) := by rw [← hW]; exact box_new w _ _ 0
    have c1 : W.cell? ⟨w.heap.size, 1, none⟩ = some (.int .i64 l1) := by rw [← hW]; exact box_new w _ _ 1
    rcases (by omega : r = 0 ∨ r = 1 ∨ r = 2) with rfl | rfl | rfl
    · go_enter func121, ntmps121
      go_wp2_with fail
      go_quiet (fail)
      have d0 : (W.drewN nq).cell? ⟨w.heap.size, 0, none⟩ = some (.int .i64 l0) := c0
      have d1 : (W.drewN nq).cell? ⟨w.heap.size, 1, none⟩ = some (.int .i64 l1) := c1
      have hBel : Below w.heap.size w (W.drewN nq) := ⟨hBel.os, hBel.tape, hBel.output, hBel.size, hBel.block⟩
      generalize W.drewN nq = V at *
      clear c0 c1 hW
      go_wp2_with fail
      refine (has178 179 #[] (fun z b => b = decide (z < 0)) _ _ V ent179 (fun z => neg179 z V) (rdl_box d0 d1 0 0 2 (by omega) (by omega) (by omega))).mono ?_
      rintro e V1 ⟨⟨b1, rfl, p1⟩, rfl⟩
      have P1 := Go.Lib.hid p1
      clear p1
      cases b1
      case true =>
        go_wp2
        go_ret
        exact ⟨⟨_, rfl, fun h => by cases h⟩, hBel⟩
      go_wp2_with fail
      refine (has178 180 #[] (fun z b => b = decide (z ≠ 0)) _ _ V1 ent180 (fun z => non180 z V1) (rdl_box d0 d1 0 2 2 (by omega) (by omega) (by omega))).mono ?_
      rintro e V2 ⟨⟨b2, rfl, p2⟩, rfl⟩
      have P2 := Go.Lib.hid p2
      clear p2
      cases b2
      case true =>
        go_wp2
        go_ret
        exact ⟨⟨_, rfl, fun h => by cases h⟩, hBel⟩
      go_wp2_with fail
      refine (has178 181 #[] (fun z b => b = decide (400 < z)) _ _ V2 ent181 (fun z => big181 z V2) (rdl_box d0 d1 0 0 2 (by omega) (by omega) (by omega))).mono ?_
      rintro e V3 ⟨⟨b3, rfl, p3⟩, rfl⟩
      have P3 := Go.Lib.hid p3
      clear p3
      cases b3
      case true =>
        go_wp2
        go_ret
        exact ⟨⟨_, rfl, fun h => by cases h⟩, hBel⟩
      have q1 := P1.out (by first | rfl | trivial)
      have q2 := P2.out (by first | rfl | trivial)
      have q3 := P3.out (by first | rfl | trivial)
      simp at q1 q2 q3
      have hl0 : 0 ≤ l0 ∧ l0 ≤ 400 := by omega
      have hl1 : 0 ≤ l1 ∧ l1 ≤ 400 := by omega
      have Q1 := Go.Lib.hid q1
      have Q2 := Go.Lib.hid q2
      have Q3 := Go.Lib.hid q3
      clear q1 q2 q3 P1 P2 P3
      go_wp2_with fail
      refine (prod122 0 l0 l1 _ (by omega) hl0 hl1).mono ?_
      rintro e V4 ⟨rfl, h4⟩
      generalize hM : (if (0 : Int) = 2 then l1 * l0 else if (0 : Int) = 1 then l0 else 1) = M
      have HM := Go.Lib.hid hM
      have hBel4 := hBel.trans (h4.mono hBel.size)
      clear hM h4
      by_cases hm : M ≤ 400
      · have hdm : decide (400 < M) = false := decide_eq_false (by omega)
        go_wp2
        go_ret
        refine ⟨⟨_, rfl, fun _ => ?_⟩, hBel4⟩
        have := HM.out
        have := Q1.out
        have := Q2.out
        have := Q3.out
        simp at *
        unfold ShapeOk
        omega
      · have hdm : decide (400 < M) = true := decide_eq_true (by omega)
        go_wp2
        go_ret
        exact ⟨⟨_, rfl, fun h => by cases h⟩, hBel4⟩
    · go_enter func121, ntmps121
      go_wp2_with fail
      go_quiet (fail)
      have d0 : (W.drewN nq).cell? ⟨w.heap.size, 0, none⟩ = some (.int .i64 l0) := c0
      have d1 : (W.drewN nq).cell? ⟨w.heap.size, 1, none⟩ = some (.int .i64 l1) := c1
      have hBel : Below w.heap.size w (W.drewN nq) := ⟨hBel.os, hBel.tape, hBel.output, hBel.size, hBel.block⟩
      generalize W.drewN nq = V at *
      clear c0 c1 hW
      go_wp2_with fail
      refine (has178 179 #[] (fun z b => b = decide (z < 0)) _ _ V ent179 (fun z => neg179 z V) (rdl_box d0 d1 0 1 2 (by omega) (by omega) (by omega))).mono ?_
      rintro e V1 ⟨⟨b1, rfl, p1⟩, rfl⟩
      have P1 := Go.Lib.hid p1
      clear p1
      cases b1
      case true =>
        go_wp2
        go_ret
        exact ⟨⟨_, rfl, fun h => by cases h⟩, hBel⟩
      go_wp2_with fail
      refine (has178 180 #[] (fun z b => b = decide (z ≠ 0)) _ _ V1 ent180 (fun z => non180 z V1) (rdl_box d0 d1 1 1 1 (by omega) (by omega) (by omega))).mono ?_
      rintro e V2 ⟨⟨b2, rfl, p2⟩, rfl⟩
      have P2 := Go.Lib.hid p2
      clear p2
      cases b2
      case true =>
        go_wp2
        go_ret
        exact ⟨⟨_, rfl, fun h => by cases h⟩, hBel⟩
      go_wp2_with fail
      refine (has178 181 #[] (fun z b => b = decide (400 < z)) _ _ V2 ent181 (fun z => big181 z V2) (rdl_box d0 d1 0 1 2 (by omega) (by omega) (by omega))).mono ?_
      rintro e V3 ⟨⟨b3, rfl, p3⟩, rfl⟩
      have P3 := Go.Lib.hid p3
      clear p3
      cases b3
      case true =>
        go_wp2
        go_ret
        exact ⟨⟨_, rfl, fun h => by cases h⟩, hBel⟩
      have q1 := P1.out (by first | rfl | trivial)
      have q2 := P2.out (by first | rfl | trivial)
      have q3 := P3.out (by first | rfl | trivial)
      simp at q1 q2 q3
      have hl0 : 0 ≤ l0 ∧ l0 ≤ 400 := by omega
      have hl1 : 0 ≤ l1 ∧ l1 ≤ 400 := by omega
      have Q1 := Go.Lib.hid q1
      have Q2 := Go.Lib.hid q2
      have Q3 := Go.Lib.hid q3
      clear q1 q2 q3 P1 P2 P3
      go_wp2_with fail
      refine (prod122 1 l0 l1 _ (by omega) hl0 hl1).mono ?_
      rintro e V4 ⟨rfl, h4⟩
      generalize hM : (if (1 : Int) = 2 then l1 * l0 else if (1 : Int) = 1 then l0 else 1) = M
      have HM := Go.Lib.hid hM
      have hBel4 := hBel.trans (h4.mono hBel.size)
      clear hM h4
      by_cases hm : M ≤ 400
      · have hdm : decide (400 < M) = false := decide_eq_false (by omega)
        go_wp2
        go_ret
        refine ⟨⟨_, rfl, fun _ => ?_⟩, hBel4⟩
        have := HM.out
        have := Q1.out
        have := Q2.out
        have := Q3.out
        simp at *
        unfold ShapeOk
        omega
      · have hdm : decide (400 < M) = true := decide_eq_true (by omega)
        go_wp2
        go_ret
        exact ⟨⟨_, rfl, fun h => by cases h⟩, hBel4⟩
    · go_enter func121, ntmps121
      go_wp2_with fail
      go_quiet (fail)
      have d0 : (W.drewN nq).cell? ⟨w.heap.size, 0, none⟩ = some (.int .i64 l0) := c0
      have d1 : (W.drewN nq).cell? ⟨w.heap.size, 1, none⟩ = some (.int .i64 l1) := c1
      have hBel : Below w.heap.size w (W.drewN nq) := ⟨hBel.os, hBel.tape, hBel.output, hBel.size, hBel.block⟩
      generalize W.drewN nq = V at *
      clear c0 c1 hW
      go_wp2_with fail
      refine (has178 179 #[] (fun z b => b = decide (z < 0)) _ _ V ent179 (fun z => neg179 z V) (rdl_box d0 d1 0 2 2 (by omega) (by omega) (by omega))).mono ?_
      rintro e V1 ⟨⟨b1, rfl, p1⟩, rfl⟩
      have P1 := Go.Lib.hid p1
      clear p1
      cases b1
      case true =>
        go_wp2
        go_ret
        exact ⟨⟨_, rfl, fun h => by cases h⟩, hBel⟩
      go_wp2_with fail
      refine (has178 180 #[] (fun z b => b = decide (z ≠ 0)) _ _ V1 ent180 (fun z => non180 z V1) (rdl_box d0 d1 0 0 0 (by omega) (by omega) (by omega))).mono ?_
      rintro e V2 ⟨⟨b2, rfl, p2⟩, rfl⟩
      have P2 := Go.Lib.hid p2
      clear p2
      cases b2
      case true =>
        go_wp2
        go_ret
        exact ⟨⟨_, rfl, fun h => by cases h⟩, hBel⟩
      go_wp2_with fail
      refine (has178 181 #[] (fun z b => b = decide (400 < z)) _ _ V2 ent181 (fun z => big181 z V2) (rdl_box d0 d1 0 2 2 (by omega) (by omega) (by omega))).mono ?_
      rintro e V3 ⟨⟨b3, rfl, p3⟩, rfl⟩
      have P3 := Go.Lib.hid p3
      clear p3
      cases b3
      case true =>
        go_wp2
        go_ret
        exact ⟨⟨_, rfl, fun h => by cases h⟩, hBel⟩
      have q1 := P1.out (by first | rfl | trivial)
      have q2 := P2.out (by first | rfl | trivial)
      have q3 := P3.out (by first | rfl | trivial)
      simp at q1 q2 q3
      have hl0 : 0 ≤ l0 ∧ l0 ≤ 400 := by omega
      have hl1 : 0 ≤ l1 ∧ l1 ≤ 400 := by omega
      have Q1 := Go.Lib.hid q1
      have Q2 := Go.Lib.hid q2
      have Q3 := Go.Lib.hid q3
      clear q1 q2 q3 P1 P2 P3
      go_wp2_with fail
      refine (prod122 2 l0 l1 _ (by omega) hl0 hl1).mono ?_
      rintro e V4 ⟨rfl, h4⟩
      generalize hM : (if (2 : Int) = 2 then l1 * l0 else if (2 : Int) = 1 then l0 else 1) = M
      have HM := Go.Lib.hid hM
      have hBel4 := hBel.trans (h4.mono hBel.size)
      clear hM h4
      by_cases hm : M ≤ 400
      · have hdm : decide (400 < M) = false := decide_eq_false (by omega)
        go_wp2
        go_ret
        refine ⟨⟨_, rfl, fun _ => ?_⟩, hBel4⟩
        have := HM.out
        have := Q1.out
        have := Q2.out
        have := Q3.out
        simp at *
        unfold ShapeOk
        omega
      · have hdm : decide (400 < M) = true := decide_eq_true (by omega)
        go_wp2
        go_ret
        exact ⟨⟨_, rfl, fun h => by cases h⟩, hBel4⟩
  · have hB : Below w.heap.size w (w.alloc (Obj.cells #[Value.int .i64 l0, Value.int .i64 l1] 22)) := (Below.refl _ _).alloc (Nat.le_refl _) _
    by_cases h0 : r < 0
    · have d0 : decide (r < 0) = true := decide_eq_true h0
      go_enter func121, ntmps121
      go_wp2
      go_ret
      exact ⟨⟨_, rfl, fun h => by cases h⟩, hB⟩
    · have d0 : decide (r < 0) = false := decide_eq_false h0
      have d2 : decide (2 < r) = true := decide_eq_true (by omega)
      go_enter func121, ntmps121
      go_wp2
      go_ret
      exact ⟨⟨_, rfl, fun h => by cases h⟩, hB⟩
end Go.Proofs.Tryz

namespace Go.Proofs.Tryz
open Go.RowKit

def prd (r l0 l1 : Int) : Int := if r = 2 then l1 * l0 else if r = 1 then l0 else 1
theorem ShapeOk.r {r l0 l1 : Int} (h : ShapeOk r l0 l1) : (r = 0 ∨ r = 1 ∨ r = 2) ∧ (0 ≤ l0 ∧ l0 ≤ 400) ∧ (0 ≤ l1 ∧ l1 ≤ 400) := by unfold ShapeOk at h; omega

set_option maxRecDepth 100000 in
set_option maxHeartbeats 3200000 in
theorem cells65 (r l0 l1 : Int) (w : World) : Calls prog 65 #[.int .i64 r, .agg #[.int .i64 l0, .int .i64 l1]] w
    (fun e w' => (∃ m c, e = .returned (.tuple #[.int .i64 m, .int .i64 c]) ∧ (c = 0 → ShapeOk r l0 l1 ∧ m = prd r l0 l1)) ∧ Below w.heap.size w w') := by
  generalize hW : (w.alloc (Obj.cells #[Value.int .i64 l0, Value.int .i64 l1] 22)) = W
  have hBel : Below w.heap.size w W := by rw [← hW]; exact (Below.refl _ _).alloc (Nat.le_refl _) _
  have c0 : W.cell? ⟨w.heap.size, 0, none⟩ = some (.int .i64 l0) := by rw [← hW]; exact box_new w _ _ 0
  have c1 : W.cell? ⟨w.heap.size, 1, none⟩ = some (.int .i64 l1) := by rw [← hW]; exact box_new w _ _ 1
  have hlt : w.heap.size < W.heap.size := by rw [← hW]; simp
  go_enter func65, ntmps65
  go_wp2_with fail
  refine (shape121 r l0 l1 _).mono ?_
  rintro e V ⟨⟨c, rfl, hc⟩, h1⟩
  have d0 : V.cell? ⟨w.heap.size, 0, none⟩ = some (.int .i64 l0) := (h1.cell (p := ⟨w.heap.size, 0, none⟩) hlt).trans c0
  have d1 : V.cell? ⟨w.heap.size, 1, none⟩ = some (.int .i64 l1) := (h1.cell (p := ⟨w.heap.size, 1, none⟩) hlt).trans c1
  have hB := hBel.trans (h1.mono hBel.size)
  have HC := Go.Lib.hid hc
  clear hc c0 c1 hW h1
  by_cases h0 : c = 0
  · subst h0
    have hs := HC.out (by first | rfl | trivial)
    have HS := Go.Lib.hid hs
    obtain ⟨hr, hl0, hl1⟩ := hs.r
    have HR := Go.Lib.hid hr
    clear hs hr HC
    go_wp2_with fail
    refine (prod122 r l0 l1 _ HR.out hl0 hl1).mono ?_
    rintro e V4 ⟨rfl, h4⟩
    have hB4 := hB.trans (h4.mono hB.size)
    generalize hM : (if r = 2 then l1 * l0 else if r = 1 then l0 else 1) = M
    have HM := Go.Lib.hid hM
    clear hM h4
    go_wp2
    go_ret2
    exact ⟨⟨_, _, rfl, fun _ => ⟨HS.out, HM.out.symm⟩⟩, hB4⟩
  · have hd : decide (c = 0) = false := decide_eq_false h0
    go_wp2
    go_ret2
    exact ⟨⟨_, _, rfl, fun h => absurd h h0⟩, hB⟩

/-- what Check finds right: n cells -/
def ArrOk (k r l0 l1 : Int) (n : Nat) : Prop := (k = 1 ∨ k = 2) ∧ ShapeOk r l0 l1 ∧ (n : Int) = prd r l0 l1
theorem ArrOk.n {k r l0 l1 : Int} {n : Nat} (h : ArrOk k r l0 l1 n) : n ≤ 400 := by
  obtain ⟨_, h1, h2⟩ := h
  unfold prd at h2
  rcases h1 with ⟨rfl, rfl, rfl⟩ | ⟨rfl, a, b, c⟩ | ⟨rfl, a, b, c, d, e⟩ <;> simp at h2 <;> omega

/-- an array, as a value -/
def arrV (k r l0 l1 : Int) (v : Value) : Value := .agg #[.int .i64 k, .int .i64 r, .int .i64 l0, .int .i64 l1, v]

theorem box5 (w : World) (a b c d e : Value) : let W := w.alloc (.cells #[a, b, c, d, e] 25)
    W.cell? ⟨w.heap.size, 0, none⟩ = some a ∧ W.cell? ⟨w.heap.size, 1, none⟩ = some b ∧ W.cell? ⟨w.heap.size, 2, none⟩ = some c ∧ W.cell? ⟨w.heap.size, 3, none⟩ = some d ∧ W.cell? ⟨w.heap.size, 4, none⟩ = some e :=
  ⟨box_new w _ _ 0, box_new w _ _ 1, box_new w _ _ 2, box_new w _ _ 3, box_new w _ _ 4⟩
/-- a box of an array -/
structure ArrAt (w : World) (b : Nat) (k r l0 l1 : Int) (v : Value) : Prop where
  lt : b < w.heap.size
  c0 : w.cell? ⟨b, 0, none⟩ = some (.int .i64 k)
  c1 : w.cell? ⟨b, 1, none⟩ = some (.int .i64 r)
  c2 : w.cell? ⟨b, 2, none⟩ = some (.int .i64 l0)
  c3 : w.cell? ⟨b, 3, none⟩ = some (.int .i64 l1)
  c4 : w.cell? ⟨b, 4, none⟩ = some v
theorem ArrAt.new (w : World) (k r l0 l1 : Int) (v : Value) : ArrAt (w.alloc (.cells #[.int .i64 k, .int .i64 r, .int .i64 l0, .int .i64 l1, v] 25)) w.heap.size k r l0 l1 v := by
  obtain ⟨h0, h1, h2, h3, h4⟩ := box5 w (.int .i64 k) (.int .i64 r) (.int .i64 l0) (.int .i64 l1) v
  exact ⟨by simp, h0, h1, h2, h3, h4⟩
theorem ArrAt.below {w w' : World} {b : Nat} {k r l0 l1 : Int} {v : Value} (h : ArrAt w b k r l0 l1 v) (hb : Below w.heap.size w w') : ArrAt w' b k r l0 l1 v :=
  ⟨Nat.lt_of_lt_of_le h.lt hb.size, (hb.cell (p := ⟨b, 0, none⟩) h.lt).trans h.c0, (hb.cell (p := ⟨b, 1, none⟩) h.lt).trans h.c1, (hb.cell (p := ⟨b, 2, none⟩) h.lt).trans h.c2, (hb.cell (p := ⟨b, 3, none⟩) h.lt).trans h.c3, (hb.cell (p := ⟨b, 4, none⟩) h.lt).trans h.c4⟩

set_option maxRecDepth 100000 in
set_option maxHeartbeats 3200000 in
theorem check51 (k r l0 l1 : Int) (v : Value) (n : Nat) (w : World) (h : RdI w v n) : Calls prog 51 #[arrV k r l0 l1 v] w (ErrIf w (ArrOk k r l0 l1 n)) := by
  unfold arrV
  generalize hW : (w.alloc (.cells #[.int .i64 k, .int .i64 r, .int .i64 l0, .int .i64 l1, v] 25)) = W
  have hBel : Below w.heap.size w W := by rw [← hW]; exact (Below.refl _ _).alloc (Nat.le_refl _) _
  have hA : ArrAt W w.heap.size k r l0 l1 v := by rw [← hW]; exact ArrAt.new w k r l0 l1 v
  have HR : Hid (RdI W v n) := h.below hBel
  obtain ⟨A, cap, rfl⟩ : ∃ A cap, v = .slice A n cap := by
    rcases h with ⟨rfl, rfl⟩ | ⟨b, o, cap, rfl, _⟩
    · exact ⟨_, _, rfl⟩
    · exact ⟨_, _, rfl⟩
  have HA := Go.Lib.hid hA
  obtain ⟨a0, a1, a2, a3, a4, a5⟩ := hA
  clear h
  by_cases hk : k = 1 ∨ k = 2
  · go_enter func51, ntmps51
    have hk0 : (k != 1) = true → (k != 2) = false := by rcases hk with rfl | rfl <;> simp
    have HK := Go.Lib.hid hk
    rcases hk with rfl | rfl
    all_goals
      clear hk0
      go_wp2_with fail
      refine (cells65 r l0 l1 _).mono ?_
      rintro e V ⟨⟨m, c, rfl, hc⟩, h1⟩
      have HA1 := Go.Lib.hid (HA.out.below h1)
      have HB := Go.Lib.hid (hBel.trans (h1.mono hBel.size))
      have HR1 := Go.Lib.hid (HR.out.below h1)
      obtain ⟨b0, b1, b2, b3, b4, b5⟩ := HA1.out
      have HC := Go.Lib.hid hc
      clear hc h1 a0 a1 a2 a3 a4 a5 hW hBel
      by_cases h0 : c = 0
      · subst h0
        obtain ⟨hs, hm⟩ := HC.out (by first | rfl | trivial)
        have HS := Go.Lib.hid hs
        have HM := Go.Lib.hid hm
        clear hs hm HC
        by_cases hnm : (n : Int) = m
        · subst hnm
          go_wp2_with fail
          obtain ⟨L, hL, hrd⟩ := HR1.out.list
          refine (has66 67 #[.pointer (some ⟨w.heap.size, 0, none⟩)] (fun _ _ => True) _ L V ent67 (fun z => (chk67 w.heap.size _ z V b1).mono (by rintro e w' ⟨⟨b, rfl⟩, rfl⟩; exact ⟨⟨b, rfl, trivial⟩, rfl⟩)) hrd).mono ?_
          rintro e V1 ⟨⟨b, rfl, _⟩, rfl⟩
          cases b
          · go_wp2
            go_ret
            exact ⟨⟨_, rfl, fun _ => ⟨by simp, HS.out, HM.out⟩⟩, HB.out⟩
          · go_wp2
            go_ret
            exact ⟨⟨_, rfl, fun h => by cases h⟩, HB.out⟩
        · have hd : ((n : Int) != m) = true := by simpa using hnm
          go_wp2
          go_ret
          exact ⟨⟨_, rfl, fun h => by cases h⟩, HB.out⟩
      · have hd : decide (c = 0) = false := decide_eq_false h0
        go_wp2
        go_ret
        exact ⟨⟨_, rfl, fun h => absurd h h0⟩, HB.out⟩
  · have d1 : (k != 1) = true := by simp; omega
    have d2 : (k != 2) = true := by simp; omega
    go_enter func51, ntmps51
    go_wp2
    go_ret
    exact ⟨⟨_, rfl, fun h => by cases h⟩, hBel⟩
end Go.Proofs.Tryz

namespace Go.Proofs.Tryz
open Go.RowKit

set_option maxRecDepth 100000 in
set_option maxHeartbeats 3200000 in
theorem check39 (k r l0 l1 : Int) (v : Value) (n : Nat) (ints : Bool) (w : World) (h : RdI w v n) : Calls prog 39 #[arrV k r l0 l1 v, .bool ints] w (ErrIf w (ArrOk k r l0 l1 n ∧ (r = 1 ∨ r = 2))) := by
  unfold arrV
  generalize hW : (w.alloc (.cells #[.int .i64 k, .int .i64 r, .int .i64 l0, .int .i64 l1, v] 25)) = W
  have hBel : Below w.heap.size w W := by rw [← hW]; exact (Below.refl _ _).alloc (Nat.le_refl _) _
  have hA : ArrAt W w.heap.size k r l0 l1 v := by rw [← hW]; exact ArrAt.new w k r l0 l1 v
  have HR : Hid (RdI W v n) := h.below hBel
  have HA := Go.Lib.hid hA
  obtain ⟨a0, a1, a2, a3, a4, a5⟩ := hA
  clear h
  go_enter func39, ntmps39
  go_wp2_with fail
  refine (check51 k r l0 l1 v n W HR.out).mono ?_
  rintro e V ⟨⟨c, rfl, hc⟩, h1⟩
  have HA1 := Go.Lib.hid (HA.out.below h1)
  have HB := Go.Lib.hid (hBel.trans (h1.mono hBel.size))
  obtain ⟨b0, b1, b2, b3, b4, b5⟩ := HA1.out
  have HC := Go.Lib.hid hc
  clear hc h1 a0 a1 a2 a3 a4 a5 hW hBel
  by_cases h0 : c = 0
  · subst h0
    have hs := HC.out (by first | rfl | trivial)
    have HS := Go.Lib.hid hs
    clear hs HC
    by_cases hk : ints = true ∧ k ≠ 1
    · obtain ⟨rfl, hk⟩ := hk
      have d1 : (k != 1) = true := by simpa using hk
      go_wp2
      go_ret
      exact ⟨⟨_, rfl, fun h => by cases h⟩, HB.out⟩
    · by_cases hr : r = 0
      · subst hr
        cases ints
        · go_wp2
          go_ret
          exact ⟨⟨_, rfl, fun h => by cases h⟩, HB.out⟩
        · have d1 : (k != 1) = false := by simpa using hk
          go_wp2
          go_ret
          exact ⟨⟨_, rfl, fun h => by cases h⟩, HB.out⟩
      · have d2 : (r == 0) = false := by simpa using hr
        have hr12 : r = 1 ∨ r = 2 := by have := HS.out.2.1.r.1; omega
        have HR12 := Go.Lib.hid hr12
        clear hr12
        cases ints
        · go_wp2
          go_ret
          exact ⟨⟨_, rfl, fun _ => ⟨HS.out, HR12.out⟩⟩, HB.out⟩
        · have d1 : (k != 1) = false := by simpa using hk
          go_wp2
          go_ret
          exact ⟨⟨_, rfl, fun _ => ⟨HS.out, HR12.out⟩⟩, HB.out⟩
  · have hd : decide (c = 0) = false := decide_eq_false h0
    go_wp2
    go_ret
    exact ⟨⟨_, rfl, fun h => absurd h h0⟩, HB.out⟩

/-- rows that can be read -/
def RdR (w : World) (v : Value) (m : Nat) : Prop :=
  ∃ b o cap, v = .slice (some ⟨b, o, none⟩) m cap ∧ m ≤ cap ∧ b < w.heap.size ∧ ∀ j, j < m → ∃ row n, w.cell? ⟨b, o + j, none⟩ = some row ∧ RdI w row n ∧ n ≤ 400
theorem RdR.below {w w' : World} {v : Value} {m : Nat} (h : RdR w v m) (hb : Below w.heap.size w w') : RdR w' v m := by
  obtain ⟨b, o, cap, h1, h2, h3, h4⟩ := h
  refine ⟨b, o, cap, h1, h2, Nat.lt_of_lt_of_le h3 hb.size, fun j hj => ?_⟩
  obtain ⟨row, n, c1, c2, c3⟩ := h4 j hj
  exact ⟨row, n, (hb.cell (p := ⟨b, o + j, none⟩) h3).trans c1, c2.below hb, c3⟩

theorem info23 : (prog.info? 23).map (fun i => (i.zero, i.size, i.bytes)) = some (some (.slice none 0 0), 1, 24) := by kernel_rfl
/-- a new row of rows that can be read -/
def OwnR (w : World) (base : Nat) (v : Value) (m : Nat) : Prop := ∃ xs, w.ownsRow base 23 1 v m xs ∧ ∀ u ∈ xs, ∃ n, RdI w u n ∧ n ≤ 400 ∧ ∀ b, u.ownBlock = some b → v.ownBlock ≠ some b

theorem OwnR.below {w w' : World} {base : Nat} {v : Value} {n : Nat} (h : OwnR w base v n) (hb : Below w.heap.size w w') : OwnR w' base v n := by
  obtain ⟨xs, ⟨h0, h⟩, hi⟩ := h
  refine ⟨xs, ⟨h0, ?_⟩, fun u hu => ?_⟩
  · rcases h with h | ⟨g, cap, cur, h1, h2, h3, h4⟩
    · exact .inl h
    · exact .inr ⟨g, cap, cur, h1, h2, (hb.block g (lt_heap h3)).trans h3, h4⟩
  · obtain ⟨q, h1, h2, h3⟩ := hi u hu
    exact ⟨q, h1.below hb, h2, h3⟩
theorem OwnR.cell {w : World} {base g n cap k : Nat} (h : OwnR w base (.slice (some ⟨g, 0, none⟩) n cap) n) (hk : k < n) : (∃ u q, w.cell? ⟨g, k, none⟩ = some u ∧ RdI w u q ∧ q ≤ 400) ∧ w.frozen? ⟨g, k, none⟩ = false := by
  obtain ⟨xs, ho, hi⟩ := h
  refine ⟨?_, ho.frozenAt k⟩
  have hj : k < xs.length := by have := ho.1; omega
  obtain ⟨q, h1, h2, h3⟩ := hi xs[k] (List.getElem_mem hj)
  exact ⟨_, q, by rw [ho.cellAt k (by omega), List.getElem?_eq_getElem hj], h1, h2⟩
/-- a cell of a row's, turned: what can be read can be read yet -/
theorem RdI.setCell {w : World} {v : Value} {n : Nat} (h : RdI w v n) {g k : Nat} (hne : ∀ b, v.ownBlock = some b → b ≠ g) (u : Value) : RdI (w.setCell ⟨g, k, none⟩ u) v n := by
  rcases h with h | ⟨b, o, cap, h1, h2, h3, h4, h5⟩
  · exact .inl h
  · refine .inr ⟨b, o, cap, h1, h2, h3, by simpa using h4, fun j hj => ?_⟩
    obtain ⟨z, hz⟩ := h5 j hj
    refine ⟨z, ?_⟩
    rw [World.cell?_setCell_other _ _ _ _ (by intro e; injection e with e1 _; exact hne b (by rw [h1]; rfl) e1.symm)]
    exact hz
theorem OwnR.rd {w : World} {base : Nat} {v : Value} {n : Nat} (h : OwnR w base v n) (hv : v ≠ .slice none 0 0) : RdR w v n := by
  obtain ⟨xs, ⟨h0, h⟩, hi⟩ := h
  rcases h with ⟨h, _⟩ | ⟨g, cap, cur, h1, h2, h3, h4, h5, h6, h7⟩
  · exact absurd h hv
  · refine ⟨g, 0, cap, h1, h4, lt_heap h3, fun j hj => ?_⟩
    have hj' : j < xs.length := by omega
    obtain ⟨q, q1, q2, _⟩ := hi xs[j] (List.getElem_mem hj')
    refine ⟨_, q, ?_, q1, q2⟩
    rw [cell_of_row w g (0 + j) cur 23 (0, 0) h3, Nat.zero_add]
    have : (cur.toList.take (n * 1))[j]? = xs[j]? := by rw [h7]
    rw [List.getElem?_take, if_pos (by omega), List.getElem?_eq_getElem hj'] at this
    simpa using this

theorem OwnR.stored {w : World} {base g n cap k : Nat} {u : Value} {q : Nat} (h : OwnR w base (.slice (some ⟨g, 0, none⟩) n cap) n) (hu : RdI w u q) (hq : q ≤ 400) (hne : ∀ b, u.ownBlock = some b → b ≠ g) :
    OwnR (w.setCell ⟨g, k, none⟩ u) base (.slice (some ⟨g, 0, none⟩) n cap) n := by
  obtain ⟨xs, ho, hi⟩ := h
  refine ⟨_, (ho.stored k _).1, ?_⟩
  intro x hx
  rcases List.mem_or_eq_of_mem_set hx with h | h
  · obtain ⟨q1, h1, h2, h3⟩ := hi x h
    exact ⟨q1, h1.setCell (fun b hb e => h3 b hb (by rw [e]; rfl)) _, h2, h3⟩
  · subst h
    exact ⟨q, hu.setCell hne _, hq, fun b hb e => hne b hb (by cases e; rfl)⟩
theorem RdI.part {w : World} {A : Option Addr} {n cap p q : Nat} (h : RdI w (.slice A n cap) n) (hpq : p + q ≤ n) : RdI w (.slice (if q = 0 then A else A.map fun x => x.add p) q q) q := by
  rcases h with ⟨h1, rfl⟩ | ⟨b, o, c, h1, h2, h3, h4, h5⟩
  · cases h1
    obtain rfl : q = 0 := by omega
    exact .inl ⟨rfl, rfl⟩
  · cases h1
    by_cases hq : q = 0
    · subst hq
      exact .inr ⟨b, o, 0, rfl, Nat.le_refl _, by unfold maxLen; omega, h4, fun j hj => by omega⟩
    · refine .inr ⟨b, o + p, q, by rw [if_neg hq]; simp [add_lit'], Nat.le_refl _, by omega, h4, fun j hj => ?_⟩
      obtain ⟨z, hz⟩ := h5 (p + j) (by omega)
      exact ⟨z, by rw [Nat.add_assoc]; exact hz⟩
theorem RdI.lt {w : World} {v : Value} {n : Nat} (h : RdI w v n) : ∀ b, v.ownBlock = some b → b < w.heap.size := by
  intro b hb
  rcases h with ⟨rfl, _⟩ | ⟨b', o, c, rfl, h2, h3, h4, h5⟩
  · cases hb
  · cases hb; exact h4

set_option maxRecDepth 100000 in
set_option maxHeartbeats 3200000 in
theorem rows52 (k r l0 l1 : Int) (v : Value) (n : Nat) (w : World) (h : RdI w v n) (ha : ArrOk k r l0 l1 n) (hr : r = 1 ∨ r = 2) :
    Calls prog 52 #[arrV k r l0 l1 v] w (fun e w' => (∃ v' m, e = .returned v' ∧ RdR w' v' m ∧ m ≤ 400) ∧ Below w.heap.size w w') := by
  unfold arrV
  obtain ⟨i0, hi0, hz0, hz1, hz2⟩ := info_parts info23
  generalize hW : (w.alloc (.cells #[.int .i64 k, .int .i64 r, .int .i64 l0, .int .i64 l1, v] 25)) = W
  have hBel : Below w.heap.size w W := by rw [← hW]; exact (Below.refl _ _).alloc (Nat.le_refl _) _
  have hA : ArrAt W w.heap.size k r l0 l1 v := by rw [← hW]; exact ArrAt.new w k r l0 l1 v
  have HR : Hid (RdI W v n) := h.below hBel
  have HA := Go.Lib.hid hA
  have hn400 := ha.n
  have HOk := Go.Lib.hid ha
  have HBel := Go.Lib.hid hBel
  have hncap : ∀ A cap, v = .slice A n cap → n ≤ cap := by
    rintro A cap rfl
    rcases h with ⟨h, rfl⟩ | ⟨b, o, cap', h1, h2, _⟩
    · omega
    · cases h1; exact h2
  obtain ⟨A, cap, rfl⟩ : ∃ A cap, v = .slice A n cap := by
    rcases h with ⟨rfl, rfl⟩ | ⟨b, o, cap, rfl, _⟩
    · exact ⟨_, _, rfl⟩
    · exact ⟨_, _, rfl⟩
  have hnc : n ≤ cap := hncap A cap rfl
  obtain ⟨a0, a1, a2, a3, a4, a5⟩ := hA
  clear h ha hncap
  rcases hr with rfl | rfl
  · go_enter func52, ntmps52
    go_wp2
    go_ret
    refine ⟨⟨_, 1, rfl, ⟨W.heap.size, 0, 1, rfl, Nat.le_refl _, by simp, fun j hj => ⟨.slice A n cap, n, ?_, ?_, hn400⟩⟩, by omega⟩, hBel.alloc hBel.size _⟩
    · obtain rfl : j = 0 := by omega
      exact box_new W _ _ 0
    · exact HR.out.below ((Below.refl _ _).alloc (Nat.le_refl _) _)
  · obtain ⟨m, rfl⟩ : ∃ m : Nat, l0 = m := ⟨l0.toNat, by have := HOk.out.2.1.r; omega⟩
    obtain ⟨q, rfl⟩ : ∃ q : Nat, l1 = q := ⟨l1.toNat, by have := HOk.out.2.1.r; omega⟩
    have hm : m ≤ 400 := by have := HOk.out.2.1.r; omega
    have hq : q ≤ 400 := by have := HOk.out.2.1.r; omega
    go_enter func52, ntmps52
    go_wp2_with (at_make; refine wpList_make_full W rfl _ _ 66 rfl W.heap.size 23 i0 _ 1 underlying66 hi0 hz0 hz1 .i64 .i64 _ _ m rfl rfl rfl rfl (by rw [hz2]; omega) (by unfold maxLen; omega) (Nat.le_refl _) ?_)
    intro w1 ho hg
    have hne0 : m ≤ maxLen := by unfold maxLen; omega
    have HO : Hid (OwnR w1 W.heap.size (.slice (some ⟨W.heap.size, 0, none⟩) m m) m ∧ Below W.heap.size W w1) :=
      ⟨⟨_, ho, fun u hu => ⟨0, .inl ⟨by
        obtain ⟨i, hi, rfl⟩ := List.mem_iff_getElem.1 hu
        simp [madeCells, Nat.mod_one], rfl⟩, by omega, by
        obtain ⟨i, hi, rfl⟩ := List.mem_iff_getElem.1 hu
        simp [madeCells, Nat.mod_one, Value.ownBlock]⟩⟩, hg.os, hg.tape, hg.output, hg.size, fun k hk => hg.block k hk (by simp)⟩
    clear ho hg
    go_wp2
    go_loopw [18] (fun i wr => ∃ (k : Nat), k ≤ m ∧ i = .int .i64 k ∧ Hid (OwnR wr W.heap.size (.slice (some ⟨W.heap.size, 0, none⟩) m m) m ∧ Below W.heap.size W wr)) (fun i _ => m - (intOf i).toNat)
    case atStart => exact ⟨0, Nat.zero_le _, rfl, HO⟩
    case round =>
      obtain ⟨k, hk, rfl, hr⟩ := hrel
      obtain ⟨b0, b1, b2, b3, b4, b5⟩ := HA.out.below hr.out.2
      have HRr := Go.Lib.hid (HR.out.below hr.out.2)
      clear a0 a1 a2 a3 a4 a5 hW hBel
      by_cases hlt : k < m
      · have hnq : n = q * m := by have := HOk.out.2.2; unfold prd at this; simp at this; exact_mod_cast this
        have hkq : k * q + q ≤ n := by rw [hnq, Nat.mul_comm q m, ← Nat.succ_mul]; exact Nat.mul_le_mul_right q hlt
        obtain ⟨p, hp⟩ : ∃ p, p = k * q := ⟨_, rfl⟩
        have hpi : (k : Int) * (q : Int) = ((p : Nat) : Int) := by rw [hp]; simp
        rw [← hp] at hkq
        have HNQ := Go.Lib.hid hnq
        have HP := Go.Lib.hid hp
        clear hnq hp
        obtain ⟨⟨u, qq, hcell, _⟩, hfr⟩ := hr.out.1.cell hlt
        go_wp2
        go_roundw
        case rel =>
          have hp := (HR.out.part (p := p) (q := q) hkq)
          exact ⟨k + 1, by omega, by go_num, hr.out.1.stored (hp.below hr.out.2) hq (fun b hb => Nat.ne_of_lt (hp.lt b hb)), hr.out.2.setCell (Nat.le_refl _) _⟩
        case measure => simp [intOf]; omega
      · go_wp2
        go_ret
        exact ⟨⟨_, m, rfl, hr.out.1.rd (by simp), hm⟩, (HBel.out.trans (hr.out.2.mono HBel.out.size))⟩
end Go.Proofs.Tryz

namespace Go.Proofs.Tryz
open Go.RowKit

theorem Below.grownRow {B : Nat} {w w' : World} {v : Value} {base n : Nat} {xs : List Value} {e : TypeId} {size : Nat} (hg : w.grownBy w' v.ownBlock) (ho : w.ownsRow base e size v n xs) (hB : B ≤ base) (hs : B ≤ w.heap.size) : Below B w w' :=
  (Below.refl _ _).grown hg hs fun k hk => Nat.le_trans hB (ho.lt k hk).1

theorem OwnI.mono {w : World} {base base' : Nat} {v : Value} {n : Nat} (h : OwnI w base v n) (hb : base' ≤ base) : OwnI w base' v n := by
  obtain ⟨xs, h1, h2⟩ := h
  refine ⟨xs, ⟨h1.1, ?_⟩, h2⟩
  rcases h1.2 with h | ⟨g, cap, cur, q1, q2, q3⟩
  · exact .inl h
  · exact .inr ⟨g, cap, cur, q1, Nat.le_trans hb q2, q3⟩
/-- a function value that makes a number of a row -/
structure DoI (w : World) (fd : FuncId) (cp : Array Value) : Prop where
  ent : ∀ args w, Sem.run prog (callFunc fd args) w = .ok (.enter fd args) w
  run : ∀ wr row q, Below w.heap.size w wr → RdI wr row q → q ≤ 400 → Calls prog fd (#[row] ++ cp) wr (Int2 wr)

set_option maxRecDepth 100000 in
set_option maxHeartbeats 3200000 in
theorem each46 (k r l0 l1 : Int) (v : Value) (n : Nat) (fd : FuncId) (cp : Array Value) (w : World) (h : RdI w v n) (ha : ArrOk k r l0 l1 n) (hr : r = 1 ∨ r = 2) (hd : DoI w fd cp) :
    Calls prog 46 #[arrV k r l0 l1 v, .func (.func fd) #[] cp] w (fun e w' => ∃ v' c, e = .returned (.tuple #[v', .int .i64 c]) ∧ ((v' = .slice none 0 0 ∧ c ≠ 0) ∨ (c = 0 ∧ ∃ m, OwnI w' w.heap.size v' m ∧ m ≤ 400)) ∧ Below w.heap.size w w') := by
  obtain ⟨i0, hi0, hz0, hz1, hz2⟩ := info_parts info2
  have HD := Go.Lib.hid hd
  have hent := hd.ent
  have H := Go.Lib.hid h
  have HOk := Go.Lib.hid ha
  have HRr := Go.Lib.hid hr
  unfold arrV
  generalize hW : (w.alloc (.cells #[.int .i64 k, .int .i64 r, .int .i64 l0, .int .i64 l1, v] 25)) = W
  have hBel : Below w.heap.size w W := by rw [← hW]; exact (Below.refl _ _).alloc (Nat.le_refl _) _
  have hA : ArrAt W w.heap.size k r l0 l1 v := by rw [← hW]; exact ArrAt.new w k r l0 l1 v
  obtain ⟨a0, a1, a2, a3, a4, a5⟩ := hA
  clear h ha hr hd
  go_enter func46, ntmps46
  go_wp2_with fail
  refine (rows52 k r l0 l1 v n W (H.out.below hBel) HOk.out HRr.out).mono ?_
  rintro e w1 ⟨⟨rows, m, rfl, hrows, hm⟩, hb1⟩
  have HB1 := Go.Lib.hid (hBel.trans (hb1.mono hBel.size))
  have HROWS := Go.Lib.hid hrows
  obtain ⟨br, or, cr, rfl, hmc, hbr, _⟩ := hrows
  clear a0 a1 a2 a3 a4 a5 hW hBel hb1
  go_wp2
  go_loopw [6, 14] (fun o i wr => ∃ (j : Nat), j ≤ m ∧ i = .int .i64 j ∧ Hid (OwnI wr w1.heap.size o j ∧ Below w1.heap.size w1 wr)) (fun _ i _ => m - (intOf i).toNat)
  case atStart => exact ⟨0, Nat.zero_le _, rfl, OwnI.nil _ _, Below.refl _ _⟩
  case round =>
    obtain ⟨j, hj, rfl, hr⟩ := hrel
    by_cases hlt : j < m
    · obtain ⟨row, q, hc, hrd, hq⟩ : ∃ row q, wr.cell? ⟨br, or + j, none⟩ = some row ∧ RdI wr row q ∧ q ≤ 400 := by
        obtain ⟨b, o, c, h1, _, _, h4⟩ := HROWS.out.below hr.out.2
        cases h1
        exact h4 j hlt
      go_wp2_with fail
      refine (HD.out.run _ row q (HB1.out.trans (hr.out.2.mono HB1.out.size)) hrd hq).mono ?_
      rintro e w2 ⟨⟨z, c, rfl⟩, h2⟩
      have HR : Hid (OwnI w2 w1.heap.size u6 j ∧ Below w1.heap.size w1 w2) := ⟨hr.out.1.below h2, hr.out.2.trans (h2.mono hr.out.2.size)⟩
      clear hrd
      by_cases hc0 : c = 0
      · subst hc0
        obtain ⟨xs, hown, hi⟩ := HR.out.1
        have HI := Go.Lib.hid hi
        have HO := Go.Lib.hid hown
        have hs2 : w1.heap.size ≤ w2.heap.size := HR.out.2.size
        have hform := hown.lt
        clear h2 hi
        go_wp2_with (at_builtin; refine wpList_append_own_at _ rfl _ _ 23 rfl w1.heap.size 2 i0 _ 1 8 underlying23 hi0 hz0 hz1 hz2 rfl (by omega) u6 j xs rfl (hown.alloc _) ⟨w2.heap.size, 0, none⟩ 1 1 [.int .i64 z] rfl rfl (cell_one_new _ _ _) (by simp [Value.oneCell']) (by unfold maxLen; omega) (by omega) (by simp; omega) ?_)
        intro v' w3 ho3 hg3 hnil hat
        have hb3 : Below w1.heap.size w2 w3 := ((Below.refl _ _).alloc hs2 _).trans (Below.grownRow hg3 (HO.out.alloc _) (Nat.le_refl _) (by simp; omega))
        have H3 : Hid (OwnI w3 w1.heap.size v' (j + 1) ∧ Below w1.heap.size w1 w3) := ⟨⟨_, ho3, fun u hu => by
          rcases List.mem_append.1 hu with h | h
          · exact HI.out u h
          · exact ⟨z, by simpa using h⟩⟩, HR.out.2.trans hb3⟩
        clear ho3 hg3 hnil hat
        go_wp2
        go_roundw
        case rel => exact ⟨j + 1, by omega, by go_num, H3⟩
        case measure => simp [intOf]; omega
      · have hdc : decide (c = 0) = false := decide_eq_false hc0
        clear h2
        go_wp2
        go_ret2
        exact ⟨_, _, rfl, .inl ⟨rfl, hc0⟩, HB1.out.trans (HR.out.2.mono HB1.out.size)⟩
    · go_wp2
      go_ret2
      exact ⟨_, _, rfl, .inr ⟨rfl, j, hr.out.1.mono HB1.out.size, by omega⟩, HB1.out.trans (hr.out.2.mono HB1.out.size)⟩
end Go.Proofs.Tryz

namespace Go.Proofs.Tryz
open Go.RowKit

theorem RdI.grown {w w' : World} {v : Value} {n : Nat} {row : Option Nat} (h : RdI w v n) (hg : w.grownBy w' row) (hne : ∀ b, v.ownBlock = some b → row ≠ some b) : RdI w' v n := by
  rcases h with h | ⟨b, o, cap, h1, h2, h3, h4, h5⟩
  · exact .inl h
  · refine .inr ⟨b, o, cap, h1, h2, h3, Nat.lt_of_lt_of_le h4 hg.size, fun j hj => ?_⟩
    obtain ⟨z, hz⟩ := h5 j hj
    exact ⟨z, (World.cell?_of_block (a := ⟨b, o + j, none⟩) (hg.block b h4 fun e => hne b (by rw [h1]; rfl) e.symm)).trans hz⟩
theorem OwnR.nil (w : World) (base : Nat) : OwnR w base (.slice none 0 0) 0 := ⟨[], ⟨rfl, .inl ⟨rfl, rfl⟩⟩, by simp⟩
theorem OwnR.mono {w : World} {base base' : Nat} {v : Value} {n : Nat} (h : OwnR w base v n) (hb : base' ≤ base) : OwnR w base' v n := by
  obtain ⟨xs, h1, h2⟩ := h
  refine ⟨xs, ⟨h1.1, ?_⟩, h2⟩
  rcases h1.2 with h | ⟨g, cap, cur, q1, q2, q3⟩
  · exact .inl h
  · exact .inr ⟨g, cap, cur, q1, Nat.le_trans hb q2, q3⟩
/-- behind an append of a row -/
theorem OwnR.appended {w w3 : World} {base j q : Nat} {v v' u : Value} {xs : List Value} {a : Array Value} {t : TypeId} (hi : ∀ u ∈ xs, ∃ n, RdI w u n ∧ n ≤ 400 ∧ ∀ b, u.ownBlock = some b → v.ownBlock ≠ some b)
    (hu : RdI w u q) (hq : q ≤ 400) (hne : ∀ b, u.ownBlock = some b → v.ownBlock ≠ some b) (h3 : w3.ownsRow base 23 1 v' (j + 1) (xs ++ [u])) (hg : (w.alloc (.cells a t)).grownBy w3 v.ownBlock)
    (hat : v'.ownBlock = v.ownBlock ∨ v'.ownBlock = some (w.alloc (.cells a t)).heap.size) : OwnR w3 base v' (j + 1) := by
  refine ⟨_, h3, fun x hx => ?_⟩
  have key : ∃ n, RdI w x n ∧ n ≤ 400 ∧ ∀ b, x.ownBlock = some b → v.ownBlock ≠ some b := by
    rcases List.mem_append.1 hx with h | h
    · exact hi x h
    · obtain rfl : x = u := by simpa using h
      exact ⟨q, hu, hq, hne⟩
  obtain ⟨n, k1, k2, k3⟩ := key
  refine ⟨n, (k1.below ((Below.refl _ _).alloc (Nat.le_refl _) _)).grown hg k3, k2, fun b hb => ?_⟩
  rcases hat with h | h
  · rw [h]; exact k3 b hb
  · rw [h]
    have := k1.lt b hb
    simp; omega

set_option maxRecDepth 100000 in
set_option maxHeartbeats 3200000 in
theorem each40 (k r l0 l1 : Int) (v : Value) (n : Nat) (w : World) (h : RdI w v n) (ha : ArrOk k r l0 l1 n) (hr : r = 1 ∨ r = 2) :
    Calls prog 40 #[arrV k r l0 l1 v, .func (.func 31) #[] #[]] w (fun e w' => ∃ v' c, e = .returned (.tuple #[v', .int .i64 c]) ∧ ((v' = .slice none 0 0 ∧ c ≠ 0) ∨ (c = 0 ∧ ∃ m, OwnR w' w.heap.size v' m ∧ m ≤ 400)) ∧ Below w.heap.size w w') := by
  obtain ⟨i0, hi0, hz0, hz1, hz2⟩ := info_parts info23
  have H := Go.Lib.hid h
  have HOk := Go.Lib.hid ha
  have HRr := Go.Lib.hid hr
  unfold arrV
  generalize hW : (w.alloc (.cells #[.int .i64 k, .int .i64 r, .int .i64 l0, .int .i64 l1, v] 25)) = W
  have hBel : Below w.heap.size w W := by rw [← hW]; exact (Below.refl _ _).alloc (Nat.le_refl _) _
  have hA : ArrAt W w.heap.size k r l0 l1 v := by rw [← hW]; exact ArrAt.new w k r l0 l1 v
  obtain ⟨a0, a1, a2, a3, a4, a5⟩ := hA
  clear h ha hr
  go_enter func40, ntmps40
  go_wp2_with fail
  refine (rows52 k r l0 l1 v n W (H.out.below hBel) HOk.out HRr.out).mono ?_
  rintro e w1 ⟨⟨rows, m, rfl, hrows, hm⟩, hb1⟩
  have HB1 := Go.Lib.hid (hBel.trans (hb1.mono hBel.size))
  have HROWS := Go.Lib.hid hrows
  obtain ⟨br, or, cr, rfl, hmc, hbr, _⟩ := hrows
  clear a0 a1 a2 a3 a4 a5 hW hBel hb1
  go_wp2
  go_loopw [6, 14] (fun o i wr => ∃ (j : Nat), j ≤ m ∧ i = .int .i64 j ∧ Hid (OwnR wr w1.heap.size o j ∧ Below w1.heap.size w1 wr)) (fun _ i _ => m - (intOf i).toNat)
  case atStart => exact ⟨0, Nat.zero_le _, rfl, OwnR.nil _ _, Below.refl _ _⟩
  case round =>
    obtain ⟨j, hj, rfl, hr⟩ := hrel
    by_cases hlt : j < m
    · obtain ⟨row, q, hc, hrd, hq⟩ : ∃ row q, wr.cell? ⟨br, or + j, none⟩ = some row ∧ RdI wr row q ∧ q ≤ 400 := by
        obtain ⟨b, o, c, h1, _, _, h4⟩ := HROWS.out.below hr.out.2
        cases h1
        exact h4 j hlt
      go_wp2_with fail
      refine (sums31 row q wr hrd hq).mono ?_
      rintro e w2 ⟨x, c, rfl, hx, h2⟩
      have HR : Hid (OwnR w2 w1.heap.size u6 j ∧ Below w1.heap.size w1 w2) := ⟨hr.out.1.below h2, hr.out.2.trans (h2.mono hr.out.2.size)⟩
      have HX := Go.Lib.hid hx
      obtain ⟨ax, lx, cx, rfl⟩ : ∃ ax lx cx, x = .slice ax lx cx := by
        rcases hx with ⟨rfl, _⟩ | ⟨_, ho⟩
        · exact ⟨_, _, _, rfl⟩
        · rcases ho.form with ⟨rfl, _⟩ | ⟨_, _, rfl, _⟩
          · exact ⟨_, _, _, rfl⟩
          · exact ⟨_, _, _, rfl⟩
      clear hrd hx
      by_cases hc0 : c = 0
      · subst hc0
        have hx0 : OwnI w2 wr.heap.size (.slice ax lx cx) q := by
          rcases HX.out with ⟨_, h⟩ | ⟨_, h⟩
          · exact absurd rfl h
          · exact h
        have HX0 := Go.Lib.hid hx0
        obtain ⟨xs, hown, hi⟩ := HR.out.1
        have HI := Go.Lib.hid hi
        have HO := Go.Lib.hid hown
        obtain ⟨_, ho0, _⟩ := hr.out.1
        have HL := Go.Lib.hid ho0.lt
        have hs2 : w1.heap.size ≤ w2.heap.size := HR.out.2.size
        clear h2 hi hx0 HX ho0
        go_wp2_with (at_builtin; refine wpList_append_own_at _ rfl _ _ 66 rfl w1.heap.size 23 i0 _ 1 24 underlying66 hi0 hz0 hz1 hz2 rfl (by omega) u6 j xs rfl (hown.alloc _) ⟨w2.heap.size, 0, none⟩ 1 1 [.slice ax lx cx] rfl rfl (cell_one_new _ _ _) (by simp [Value.oneCell']) (by unfold maxLen; omega) (by omega) (by simp; omega) ?_)
        intro v' w3 ho3 hg3 hnil hat
        have hb3 : Below w1.heap.size w2 w3 := ((Below.refl _ _).alloc hs2 _).trans (Below.grownRow hg3 (HO.out.alloc _) (Nat.le_refl _) (by simp; omega))
        have H3 : Hid (OwnR w3 w1.heap.size v' (j + 1) ∧ Below w1.heap.size w1 w3) := ⟨OwnR.appended HI.out HX0.out.rd hq (fun b hb e => by
          have h1 := (HL.out b e).2
          rcases HX0.out.form with ⟨h, _⟩ | ⟨g, _, h, hge, _⟩ <;> rw [h] at hb <;> simp [Value.ownBlock] at hb
          omega) ho3 hg3 (by simpa using hat), HR.out.2.trans hb3⟩
        clear ho3 hg3 hnil hat
        go_wp2
        go_roundw
        case rel => exact ⟨j + 1, by omega, by go_num, H3⟩
        case measure => simp [intOf]; omega
      · have hdc : decide (c = 0) = false := decide_eq_false hc0
        clear h2
        go_wp2
        go_ret2
        exact ⟨_, _, rfl, .inl ⟨rfl, hc0⟩, HB1.out.trans (HR.out.2.mono HB1.out.size)⟩
    · go_wp2
      go_ret2
      exact ⟨_, _, rfl, .inr ⟨rfl, j, hr.out.1.mono HB1.out.size, by omega⟩, HB1.out.trans (hr.out.2.mono HB1.out.size)⟩
end Go.Proofs.Tryz
