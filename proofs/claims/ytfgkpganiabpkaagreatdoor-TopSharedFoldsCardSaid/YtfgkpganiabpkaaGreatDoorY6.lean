import Derived.Test.YtfgkpganiabpkaaGreatDoorY5
import Derived.Laws.ResultCell
import Derived.Lib.AppendZeros
/- Proved in this claim (its last text holds the theorem): the given statement TopSharedFoldsCardSaid, with no condition of ours. This text is one part of that proof: contracts of the functions that the statement's code calls. -/
set_option linter.all false
namespace Go.Proofs.Tryz
open Go.RowKit

/-- an array of its own, and an error number -/
def ArrRes (w : World) (e : Ending) (w' : World) : Prop :=
  ∃ k r l0 l1 v m c, e = .returned (.tuple #[arrV k r l0 l1 v, .int .i64 c]) ∧ OwnI w' w.heap.size v m ∧ Below w.heap.size w w'

/-- five cells that may be written -/
structure Slot5 (w : World) (b : Nat) : Prop where
  lt : b < w.heap.size
  c : ∀ i, i < 5 → ∃ v, w.cell? ⟨b, i, none⟩ = some v
  f : ∀ i, w.frozen? ⟨b, i, none⟩ = false
theorem Slot5.new (w : World) (a b c d e : Value) : Slot5 (w.alloc (.cells #[a, b, c, d, e] 25)) w.heap.size := by
  obtain ⟨h0, h1, h2, h3, h4⟩ := box5 w a b c d e
  refine ⟨by simp, fun i hi => ?_, fun i => ?_⟩
  · rcases (by omega : i = 0 ∨ i = 1 ∨ i = 2 ∨ i = 3 ∨ i = 4) with rfl | rfl | rfl | rfl | rfl
    · exact ⟨_, h0⟩
    · exact ⟨_, h1⟩
    · exact ⟨_, h2⟩
    · exact ⟨_, h3⟩
    · exact ⟨_, h4⟩
  · simp only [World.frozen?, heap_alloc_new w (.cells #[a, b, c, d, e] 25)]
    simp
theorem Slot5.below {w w' : World} {b : Nat} (h : Slot5 w b) (hb : Below w.heap.size w w') : Slot5 w' b :=
  ⟨Nat.lt_of_lt_of_le h.lt hb.size, fun i hi => by obtain ⟨v, hv⟩ := h.c i hi; exact ⟨v, (hb.cell (p := ⟨b, i, none⟩) h.lt).trans hv⟩, fun i => (hb.frozen (p := ⟨b, i, none⟩) h.lt).trans (h.f i)⟩

def put5 (w : World) (b : Nat) (x0 x1 x2 x3 x4 : Value) : World :=
  ((((w.setCell ⟨b, 0, none⟩ x0).setCell ⟨b, 1, none⟩ x1).setCell ⟨b, 2, none⟩ x2).setCell ⟨b, 3, none⟩ x3).setCell ⟨b, 4, none⟩ x4
theorem put5_cells {w : World} {b : Nat} (h : Slot5 w b) (x0 x1 x2 x3 x4 : Value) : (put5 w b x0 x1 x2 x3 x4).cell? ⟨b, 0, none⟩ = some x0 ∧ (put5 w b x0 x1 x2 x3 x4).cell? ⟨b, 1, none⟩ = some x1 ∧
    (put5 w b x0 x1 x2 x3 x4).cell? ⟨b, 2, none⟩ = some x2 ∧ (put5 w b x0 x1 x2 x3 x4).cell? ⟨b, 3, none⟩ = some x3 ∧ (put5 w b x0 x1 x2 x3 x4).cell? ⟨b, 4, none⟩ = some x4 := by
  obtain ⟨s0, q0⟩ := h.c 0 (by omega)
  obtain ⟨s1, q1⟩ := h.c 1 (by omega)
  obtain ⟨s2, q2⟩ := h.c 2 (by omega)
  obtain ⟨s3, q3⟩ := h.c 3 (by omega)
  obtain ⟨s4, q4⟩ := h.c 4 (by omega)
  have ne : ∀ {i j : Nat} (w : World) (u : Value), i ≠ j → (w.setCell ⟨b, i, none⟩ u).cell? ⟨b, j, none⟩ = w.cell? ⟨b, j, none⟩ := fun w u hij => World.cell?_setCell_other _ _ _ _ (by intro e; injection e with _ e2; omega)
  have p1 := (ne (j := 1) w x0 (by omega : 0 ≠ 1)).trans q1
  have p2 := (ne _ x1 (by omega : 1 ≠ 2)).trans ((ne w x0 (by omega : 0 ≠ 2)).trans q2)
  have p3 := (ne _ x2 (by omega : 2 ≠ 3)).trans ((ne _ x1 (by omega : 1 ≠ 3)).trans ((ne w x0 (by omega : 0 ≠ 3)).trans q3))
  have p4 := (ne _ x3 (by omega : 3 ≠ 4)).trans ((ne _ x2 (by omega : 2 ≠ 4)).trans ((ne _ x1 (by omega : 1 ≠ 4)).trans ((ne w x0 (by omega : 0 ≠ 4)).trans q4)))
  unfold put5
  refine ⟨?_, ?_, ?_, ?_, ?_⟩
  · rw [ne _ _ (by omega), ne _ _ (by omega), ne _ _ (by omega), ne _ _ (by omega)]; exact World.cell?_setCell_same _ _ _ q0
  · rw [ne _ _ (by omega), ne _ _ (by omega), ne _ _ (by omega)]; exact World.cell?_setCell_same _ _ _ p1
  · rw [ne _ _ (by omega), ne _ _ (by omega)]; exact World.cell?_setCell_same _ _ _ p2
  · rw [ne _ _ (by omega)]; exact World.cell?_setCell_same _ _ _ p3
  · exact World.cell?_setCell_same _ _ _ p4
theorem below_put5 {B : Nat} {a w : World} (h : Below B a w) {b : Nat} (hb : B ≤ b) (x0 x1 x2 x3 x4 : Value) : Below B a (put5 w b x0 x1 x2 x3 x4) :=
  ((((h.setCell (p := ⟨b, 0, none⟩) hb x0).setCell (p := ⟨b, 1, none⟩) hb x1).setCell (p := ⟨b, 2, none⟩) hb x2).setCell (p := ⟨b, 3, none⟩) hb x3).setCell (p := ⟨b, 4, none⟩) hb x4
theorem OwnI.setCell {w : World} {base : Nat} {v : Value} {n : Nat} (h : OwnI w base v n) {a : Addr} (ha : v.ownBlock ≠ some a.block) (u : Value) : OwnI (w.setCell a u) base v n := by
  obtain ⟨xs, ⟨h0, h⟩, hi⟩ := h
  refine ⟨xs, ⟨h0, ?_⟩, hi⟩
  rcases h with h | ⟨g, cap, cur, h1, h2, h3, h4⟩
  · exact .inl h
  · exact .inr ⟨g, cap, cur, h1, h2, (Below.heap_setCell _ _ _ _ (by rintro rfl; apply ha; rw [h1]; rfl)).trans h3, h4⟩
theorem OwnI.put5 {w : World} {base : Nat} {v : Value} {n : Nat} (h : OwnI w base v n) {b : Nat} (hb : v.ownBlock ≠ some b) (x0 x1 x2 x3 x4 : Value) : OwnI (put5 w b x0 x1 x2 x3 x4) base v n :=
  ((((h.setCell (a := ⟨b, 0, none⟩) hb x0).setCell (a := ⟨b, 1, none⟩) hb x1).setCell (a := ⟨b, 2, none⟩) hb x2).setCell (a := ⟨b, 3, none⟩) hb x3).setCell (a := ⟨b, 4, none⟩) hb x4

theorem loadV25 {w : World} {b : Nat} {x0 x1 x2 x3 x4 : Value} (h : w.cell? ⟨b, 0, none⟩ = some x0 ∧ w.cell? ⟨b, 1, none⟩ = some x1 ∧ w.cell? ⟨b, 2, none⟩ = some x2 ∧ w.cell? ⟨b, 3, none⟩ = some x3 ∧ w.cell? ⟨b, 4, none⟩ = some x4) :
    (loadVar 25 ⟨b, 0, none⟩).run prog w = .ok (.agg #[x0, x1, x2, x3, x4]) w := by
  obtain ⟨h0, h1, h2, h3, h4⟩ := h
  simp [go_sem, h0, h1, h2, h3, h4]
theorem res25 {fn : Func} {p u : Tmp} (h : fn.results = #[.cell p 25, .tmp u]) (tmps : Array Value) {w : World} {b : Nat} {x0 x1 x2 x3 x4 : Value} (hp : tmps.getD p undef = .pointer (some ⟨b, 0, none⟩))
    (hc : w.cell? ⟨b, 0, none⟩ = some x0 ∧ w.cell? ⟨b, 1, none⟩ = some x1 ∧ w.cell? ⟨b, 2, none⟩ = some x2 ∧ w.cell? ⟨b, 3, none⟩ = some x3 ∧ w.cell? ⟨b, 4, none⟩ = some x4) :
    (results fn tmps).run prog w = .ok (.tuple #[.agg #[x0, x1, x2, x3, x4], tmps.getD u undef]) w := by
  rw [results_cell_tmp h, hp]
  simp [asAddr, Result.andThen, loadV25 hc]

set_option maxRecDepth 100000 in
set_option maxHeartbeats 3200000 in
theorem fold29 (k r l0 l1 : Int) (v : Value) (n : Nat) (ints : Bool) (fd : FuncId) (cp : Array Value) (w : World) (h : RdI w v n) (hd : DoI w fd cp) :
    Calls prog 29 #[arrV k r l0 l1 v, .bool ints, .func (.func fd) #[] cp] w (ArrRes w) := by
  have HD := Go.Lib.hid hd
  have H := Go.Lib.hid h
  unfold arrV
  generalize hW : (w.alloc (.cells #[.int .i64 k, .int .i64 r, .int .i64 l0, .int .i64 l1, v] 25)) = W
  have hBel : Below w.heap.size w W := by rw [← hW]; exact (Below.refl _ _).alloc (Nat.le_refl _) _
  have hA : ArrAt W w.heap.size k r l0 l1 v := by rw [← hW]; exact ArrAt.new w k r l0 l1 v
  generalize hV : (W.alloc (Obj.cells #[.int .i64 0, .int .i64 0, .int .i64 0, .int .i64 0, .slice none 0 0] 25)) = V
  have hBelV : Below W.heap.size W V := by rw [← hV]; exact (Below.refl _ _).alloc (Nat.le_refl _) _
  have hS : Slot5 V W.heap.size := by rw [← hV]; exact Slot5.new W _ _ _ _ _
  have HA := Go.Lib.hid (hA.below hBelV)
  have HBV := Go.Lib.hid (hBel.trans (hBelV.mono hBel.size))
  have hBW : w.heap.size ≤ W.heap.size := hBel.size
  obtain ⟨a0, a1, a2, a3, a4, a5⟩ := hA.below hBelV
  clear h hd hA
  go_enter func29, ntmps29
  go_wp2_with fail
  refine (check39 k r l0 l1 v n ints V (H.out.below HBV.out)).mono ?_
  rintro e w1 ⟨⟨c, rfl, hc⟩, h1⟩
  have HC := Go.Lib.hid hc
  have HB1 := Go.Lib.hid (HBV.out.trans (h1.mono HBV.out.size))
  have HS1 := Go.Lib.hid (hS.below h1)
  have HA1 := Go.Lib.hid (HA.out.below h1)
  clear hc a0 a1 a2 a3 a4 a5 hS hBelV hV hBel hW h1
  by_cases h0 : c = 0
  · subst h0
    obtain ⟨ha, hr⟩ := HC.out (by first | rfl | trivial)
    obtain ⟨a0, a1, a2, a3, a4, a5⟩ := HA1.out
    have hr0 : Hid (r = 1 ∨ r = 2) := hr
    have HAO := Go.Lib.hid ha
    clear ha hr
    go_wp2_with fail
    refine (each46 k r l0 l1 v n fd cp w1 (H.out.below HB1.out) HAO.out hr0.out ⟨HD.out.ent, fun wr row q hb => HD.out.run wr row q (HB1.out.trans (hb.mono HB1.out.size))⟩).mono ?_
    rintro e w2 ⟨v', c, rfl, hv, h2⟩
    have HB2 := Go.Lib.hid (HB1.out.trans (h2.mono HB1.out.size))
    have HS2 := Go.Lib.hid (HS1.out.below h2)
    have HA2 := Go.Lib.hid (HA1.out.below h2)
    have hlt1 : W.heap.size < w1.heap.size := HS1.out.lt
    have hsz1 : w.heap.size ≤ w1.heap.size := HB1.out.size
    have HVV := Go.Lib.hid hv
    clear hv h2 a0 a1 a2 a3 a4 a5
    have f1 := HS2.out.f
    obtain ⟨a0, a1, a2, a3, a4, a5⟩ := HA2.out
    obtain ⟨s0, q0⟩ := HS2.out.c 0 (by omega)
    obtain ⟨s1, q1⟩ := HS2.out.c 1 (by omega)
    obtain ⟨s2, q2⟩ := HS2.out.c 2 (by omega)
    obtain ⟨s3, q3⟩ := HS2.out.c 3 (by omega)
    obtain ⟨s4, q4⟩ := HS2.out.c 4 (by omega)
    by_cases h0 : c = 0
    · subst h0
      obtain ⟨m, ho, hm⟩ : ∃ m, OwnI w2 w1.heap.size v' m ∧ m ≤ 400 := by
        rcases HVV.out with ⟨_, h⟩ | ⟨_, h⟩
        · exact absurd rfl h
        · exact h
      have hne : v'.ownBlock ≠ some W.heap.size := by
        rcases ho.form with ⟨rfl, _⟩ | ⟨g, _, rfl, hg, _⟩
        · simp [Value.ownBlock]
        · simp [Value.ownBlock]; omega
      obtain ⟨A, cap, rfl⟩ : ∃ A cap, v' = .slice A m cap := by
        rcases ho.form with ⟨rfl, rfl⟩ | ⟨g, _, rfl, hg, _⟩
        · exact ⟨_, _, rfl⟩
        · exact ⟨_, _, rfl⟩
      have HO := Go.Lib.hid ho
      clear ho
      by_cases hr1 : r = 1
      · subst hr1
        go_wp2
        (try simp only [Exit.inBlock, Exit.then])
        refine bodyPost_ret (res25 rfl _ rfl (put5_cells HS2.out _ _ _ _ _)) rfl ?_
        exact ⟨_, _, _, _, _, m, _, rfl, (HO.out.put5 hne _ _ _ _ _).mono hsz1, below_put5 HB2.out hBW _ _ _ _ _⟩
      · have hr1d : (r == 1) = false := by simpa using hr1
        go_wp2
        (try simp only [Exit.inBlock, Exit.then])
        refine bodyPost_ret (res25 rfl _ rfl (put5_cells HS2.out _ _ _ _ _)) rfl ?_
        exact ⟨_, _, _, _, _, m, _, rfl, (HO.out.put5 hne _ _ _ _ _).mono hsz1, below_put5 HB2.out hBW _ _ _ _ _⟩
    · have hdc : decide (c = 0) = false := decide_eq_false h0
      go_wp2
      (try simp only [Exit.inBlock, Exit.then])
      refine bodyPost_ret (res25 rfl _ rfl (put5_cells HS2.out _ _ _ _ _)) rfl ?_
      exact ⟨_, _, _, _, _, 0, _, rfl, OwnI.nil _ _, below_put5 HB2.out hBW _ _ _ _ _⟩
  · have hdc : decide (c = 0) = false := decide_eq_false h0
    have f1 := HS1.out.f
    obtain ⟨s0, q0⟩ := HS1.out.c 0 (by omega)
    obtain ⟨s1, q1⟩ := HS1.out.c 1 (by omega)
    obtain ⟨s2, q2⟩ := HS1.out.c 2 (by omega)
    obtain ⟨s3, q3⟩ := HS1.out.c 3 (by omega)
    obtain ⟨s4, q4⟩ := HS1.out.c 4 (by omega)
    go_wp2
    (try simp only [Exit.inBlock, Exit.then])
    refine bodyPost_ret (res25 rfl _ rfl (put5_cells HS1.out _ _ _ _ _)) rfl ?_
    exact ⟨_, _, _, _, _, 0, _, rfl, OwnI.nil _ _, below_put5 HB1.out hBW _ _ _ _ _⟩
end Go.Proofs.Tryz

namespace Go.Proofs.Tryz
open Go.RowKit

set_option maxRecDepth 100000 in
theorem ent30 : ∀ args w, Sem.run prog (callFunc 30 args) w = .ok (.enter 30 args) w := fun _ _ => rfl
set_option maxRecDepth 100000 in
theorem ent38 : ∀ args w, Sem.run prog (callFunc 38 args) w = .ok (.enter 38 args) w := fun _ _ => rfl
set_option maxRecDepth 100000 in
theorem ent50 : ∀ args w, Sem.run prog (callFunc 50 args) w = .ok (.enter 50 args) w := fun _ _ => rfl
theorem do30 (w : World) : DoI w 30 #[] := ⟨ent30, fun wr row q _ h hq => sum30 row q wr h hq⟩
theorem do38 (w : World) : DoI w 38 #[] := ⟨ent38, fun wr row q _ h _ => count38 row q wr h⟩

/-- what is behind a call that makes an array: it is laid into the result's cells -/
theorem ArrRes.opened {w : World} {e : Ending} {w' : World} (h : ArrRes w e w') : ∃ k r l0 l1 A m cap c, e = .returned (.tuple #[arrV k r l0 l1 (.slice A m cap), .int .i64 c]) ∧ OwnI w' w.heap.size (.slice A m cap) m ∧ Below w.heap.size w w' := by
  obtain ⟨k, r, l0, l1, v, m, c, rfl, ho, hb⟩ := h
  rcases ho.form with ⟨rfl, rfl⟩ | ⟨g, cap, rfl, _⟩
  · exact ⟨k, r, l0, l1, _, _, _, c, rfl, ho, hb⟩
  · exact ⟨k, r, l0, l1, _, _, _, c, rfl, ho, hb⟩

set_option maxRecDepth 100000 in
set_option maxHeartbeats 3200000 in
theorem sum8 (k r l0 l1 : Int) (v : Value) (n : Nat) (w : World) (h : RdI w v n) : Calls prog 8 #[arrV k r l0 l1 v] w (ArrRes w) := by
  unfold arrV
  generalize hW : (w.alloc (.cells #[.int .i64 k, .int .i64 r, .int .i64 l0, .int .i64 l1, v] 25)) = W
  have hBel : Below w.heap.size w W := by rw [← hW]; exact (Below.refl _ _).alloc (Nat.le_refl _) _
  have hA : ArrAt W w.heap.size k r l0 l1 v := by rw [← hW]; exact ArrAt.new w k r l0 l1 v
  generalize hV : (W.alloc (Obj.cells #[.int .i64 0, .int .i64 0, .int .i64 0, .int .i64 0, .slice none 0 0] 25)) = V
  have hBelV : Below W.heap.size W V := by rw [← hV]; exact (Below.refl _ _).alloc (Nat.le_refl _) _
  have hS : Slot5 V W.heap.size := by rw [← hV]; exact Slot5.new W _ _ _ _ _
  have HBV := Go.Lib.hid (hBel.trans (hBelV.mono hBel.size))
  have hBW : w.heap.size ≤ W.heap.size := hBel.size
  obtain ⟨a0, a1, a2, a3, a4, a5⟩ := hA.below hBelV
  go_enter func8, ntmps8
  go_wp2_with fail
  refine (fold29 k r l0 l1 v n true 30 #[] V (h.below HBV.out) (do30 V)).mono ?_
  intro e w1 he
  obtain ⟨k', r', l0', l1', A, m, cap, c, rfl, ho, hb⟩ := he.opened
  have HB1 := Go.Lib.hid (HBV.out.trans (hb.mono HBV.out.size))
  have HS1 := Go.Lib.hid (hS.below hb)
  have hlt : W.heap.size < V.heap.size := hS.lt
  have hne : Value.ownBlock (.slice A m cap) ≠ some W.heap.size := by
    rcases ho.form with ⟨h, _⟩ | ⟨g, _, h, hg, _⟩
    · rw [h]; simp [Value.ownBlock]
    · rw [h]; simp [Value.ownBlock]; omega
  have HO := Go.Lib.hid (ho.mono HBV.out.size)
  clear he ho hb a0 a1 a2 a3 a4 a5 hS hBelV hV hBel hW hA
  have f1 := HS1.out.f
  obtain ⟨s0, q0⟩ := HS1.out.c 0 (by omega)
  obtain ⟨s1, q1⟩ := HS1.out.c 1 (by omega)
  obtain ⟨s2, q2⟩ := HS1.out.c 2 (by omega)
  obtain ⟨s3, q3⟩ := HS1.out.c 3 (by omega)
  obtain ⟨s4, q4⟩ := HS1.out.c 4 (by omega)
  unfold arrV
  go_wp2
  (try simp only [Exit.inBlock, Exit.then])
  refine bodyPost_ret (res25 rfl _ rfl (put5_cells HS1.out _ _ _ _ _)) rfl ?_
  exact ⟨_, _, _, _, _, m, _, rfl, HO.out.put5 hne _ _ _ _ _, below_put5 HB1.out hBW _ _ _ _ _⟩
set_option maxRecDepth 100000 in
set_option maxHeartbeats 3200000 in
theorem count18 (k r l0 l1 : Int) (v : Value) (n : Nat) (w : World) (h : RdI w v n) : Calls prog 18 #[arrV k r l0 l1 v] w (ArrRes w) := by
  unfold arrV
  generalize hW : (w.alloc (.cells #[.int .i64 k, .int .i64 r, .int .i64 l0, .int .i64 l1, v] 25)) = W
  have hBel : Below w.heap.size w W := by rw [← hW]; exact (Below.refl _ _).alloc (Nat.le_refl _) _
  have hA : ArrAt W w.heap.size k r l0 l1 v := by rw [← hW]; exact ArrAt.new w k r l0 l1 v
  generalize hV : (W.alloc (Obj.cells #[.int .i64 0, .int .i64 0, .int .i64 0, .int .i64 0, .slice none 0 0] 25)) = V
  have hBelV : Below W.heap.size W V := by rw [← hV]; exact (Below.refl _ _).alloc (Nat.le_refl _) _
  have hS : Slot5 V W.heap.size := by rw [← hV]; exact Slot5.new W _ _ _ _ _
  have HBV := Go.Lib.hid (hBel.trans (hBelV.mono hBel.size))
  have hBW : w.heap.size ≤ W.heap.size := hBel.size
  obtain ⟨a0, a1, a2, a3, a4, a5⟩ := hA.below hBelV
  go_enter func18, ntmps18
  go_wp2_with fail
  refine (fold29 k r l0 l1 v n false 38 #[] V (h.below HBV.out) (do38 V)).mono ?_
  intro e w1 he
  obtain ⟨k', r', l0', l1', A, m, cap, c, rfl, ho, hb⟩ := he.opened
  have HB1 := Go.Lib.hid (HBV.out.trans (hb.mono HBV.out.size))
  have HS1 := Go.Lib.hid (hS.below hb)
  have hlt : W.heap.size < V.heap.size := hS.lt
  have hne : Value.ownBlock (.slice A m cap) ≠ some W.heap.size := by
    rcases ho.form with ⟨h, _⟩ | ⟨g, _, h, hg, _⟩
    · rw [h]; simp [Value.ownBlock]
    · rw [h]; simp [Value.ownBlock]; omega
  have HO := Go.Lib.hid (ho.mono HBV.out.size)
  clear he ho hb a0 a1 a2 a3 a4 a5 hS hBelV hV hBel hW hA
  have f1 := HS1.out.f
  obtain ⟨s0, q0⟩ := HS1.out.c 0 (by omega)
  obtain ⟨s1, q1⟩ := HS1.out.c 1 (by omega)
  obtain ⟨s2, q2⟩ := HS1.out.c 2 (by omega)
  obtain ⟨s3, q3⟩ := HS1.out.c 3 (by omega)
  obtain ⟨s4, q4⟩ := HS1.out.c 4 (by omega)
  unfold arrV
  go_wp2
  (try simp only [Exit.inBlock, Exit.then])
  refine bodyPost_ret (res25 rfl _ rfl (put5_cells HS1.out _ _ _ _ _)) rfl ?_
  exact ⟨_, _, _, _, _, m, _, rfl, HO.out.put5 hne _ _ _ _ _, below_put5 HB1.out hBW _ _ _ _ _⟩
set_option maxRecDepth 100000 in
set_option maxHeartbeats 3200000 in
theorem end35 (f : FuncId) (hf : Mm f) (k r l0 l1 : Int) (v : Value) (n : Nat) (w : World) (h : RdI w v n) : Calls prog 35 #[arrV k r l0 l1 v, .func (.func f) #[] #[]] w (ArrRes w) := by
  unfold arrV
  generalize hW : (w.alloc (.cells #[.int .i64 k, .int .i64 r, .int .i64 l0, .int .i64 l1, v] 25)) = W
  have hBel : Below w.heap.size w W := by rw [← hW]; exact (Below.refl _ _).alloc (Nat.le_refl _) _
  have hA : ArrAt W w.heap.size k r l0 l1 v := by rw [← hW]; exact ArrAt.new w k r l0 l1 v
  generalize hX : (W.alloc (Obj.cells #[.func (.func f) #[] #[]] 64)) = X
  have hBelX : Below W.heap.size W X := by rw [← hX]; exact (Below.refl _ _).alloc (Nat.le_refl _) _
  have hX0 : X.cell? ⟨W.heap.size, 0, none⟩ = some (.func (.func f) #[] #[]) := by rw [← hX]; exact box_new W _ _ 0
  generalize hV : (X.alloc (Obj.cells #[.int .i64 0, .int .i64 0, .int .i64 0, .int .i64 0, .slice none 0 0] 25)) = V
  have hBelXV : Below X.heap.size X V := by rw [← hV]; exact (Below.refl _ _).alloc (Nat.le_refl _) _
  have hBelV : Below W.heap.size W V := hBelX.trans (hBelXV.mono hBelX.size)
  have hS : Slot5 V X.heap.size := by rw [← hV]; exact Slot5.new X _ _ _ _ _
  have hXlt : W.heap.size < X.heap.size := by rw [← hX]; simp
  have hV0 : V.cell? ⟨W.heap.size, 0, none⟩ = some (.func (.func f) #[] #[]) := (hBelXV.cell (p := ⟨W.heap.size, 0, none⟩) hXlt).trans hX0
  have hVlt : W.heap.size < V.heap.size := Nat.lt_of_lt_of_le hXlt hBelXV.size
  have HDO : Hid (DoI V 50 #[.pointer (some ⟨W.heap.size, 0, none⟩)]) := ⟨ent50, fun wr row q hb h _ => end50 f hf W.heap.size row q wr ((hb.cell (p := ⟨W.heap.size, 0, none⟩) hVlt).trans hV0) h⟩
  have HBV := Go.Lib.hid (hBel.trans (hBelV.mono hBel.size))
  have hBW : w.heap.size ≤ X.heap.size := Nat.le_trans hBel.size hBelX.size
  obtain ⟨a0, a1, a2, a3, a4, a5⟩ := hA.below hBelV
  go_enter func35, ntmps35
  go_wp2_with fail
  refine (fold29 k r l0 l1 v n true 50 _ V (h.below HBV.out) HDO.out).mono ?_
  intro e w1 he
  obtain ⟨k', r', l0', l1', A, m, cap, c, rfl, ho, hb⟩ := he.opened
  have HB1 := Go.Lib.hid (HBV.out.trans (hb.mono HBV.out.size))
  have HS1 := Go.Lib.hid (hS.below hb)
  have hlt : X.heap.size < V.heap.size := hS.lt
  have hne : Value.ownBlock (.slice A m cap) ≠ some X.heap.size := by
    rcases ho.form with ⟨h, _⟩ | ⟨g, _, h, hg, _⟩
    · rw [h]; simp [Value.ownBlock]
    · rw [h]; simp [Value.ownBlock]; omega
  have HO := Go.Lib.hid (ho.mono HBV.out.size)
  clear he ho hb a0 a1 a2 a3 a4 a5 hS hBelV hV hBel hW hA hX hBelX hX0 hBelXV hXlt hV0 hVlt
  have f1 := HS1.out.f
  obtain ⟨s0, q0⟩ := HS1.out.c 0 (by omega)
  obtain ⟨s1, q1⟩ := HS1.out.c 1 (by omega)
  obtain ⟨s2, q2⟩ := HS1.out.c 2 (by omega)
  obtain ⟨s3, q3⟩ := HS1.out.c 3 (by omega)
  obtain ⟨s4, q4⟩ := HS1.out.c 4 (by omega)
  unfold arrV
  go_wp2
  (try simp only [Exit.inBlock, Exit.then])
  refine bodyPost_ret (res25 rfl _ rfl (put5_cells HS1.out _ _ _ _ _)) rfl ?_
  exact ⟨_, _, _, _, _, m, _, rfl, HO.out.put5 hne _ _ _ _ _, below_put5 HB1.out hBW _ _ _ _ _⟩
set_option maxRecDepth 100000 in
set_option maxHeartbeats 3200000 in
theorem least12 (k r l0 l1 : Int) (v : Value) (n : Nat) (w : World) (h : RdI w v n) : Calls prog 12 #[arrV k r l0 l1 v] w (ArrRes w) := by
  unfold arrV
  generalize hW : (w.alloc (.cells #[.int .i64 k, .int .i64 r, .int .i64 l0, .int .i64 l1, v] 25)) = W
  have hBel : Below w.heap.size w W := by rw [← hW]; exact (Below.refl _ _).alloc (Nat.le_refl _) _
  have hA : ArrAt W w.heap.size k r l0 l1 v := by rw [← hW]; exact ArrAt.new w k r l0 l1 v
  generalize hV : (W.alloc (Obj.cells #[.int .i64 0, .int .i64 0, .int .i64 0, .int .i64 0, .slice none 0 0] 25)) = V
  have hBelV : Below W.heap.size W V := by rw [← hV]; exact (Below.refl _ _).alloc (Nat.le_refl _) _
  have hS : Slot5 V W.heap.size := by rw [← hV]; exact Slot5.new W _ _ _ _ _
  have HBV := Go.Lib.hid (hBel.trans (hBelV.mono hBel.size))
  have hBW : w.heap.size ≤ W.heap.size := hBel.size
  obtain ⟨a0, a1, a2, a3, a4, a5⟩ := hA.below hBelV
  go_enter func12, ntmps12
  go_wp2_with fail
  refine (end35 36 (.inl rfl) k r l0 l1 v n V (h.below HBV.out)).mono ?_
  intro e w1 he
  obtain ⟨k', r', l0', l1', A, m, cap, c, rfl, ho, hb⟩ := he.opened
  have HB1 := Go.Lib.hid (HBV.out.trans (hb.mono HBV.out.size))
  have HS1 := Go.Lib.hid (hS.below hb)
  have hlt : W.heap.size < V.heap.size := hS.lt
  have hne : Value.ownBlock (.slice A m cap) ≠ some W.heap.size := by
    rcases ho.form with ⟨h, _⟩ | ⟨g, _, h, hg, _⟩
    · rw [h]; simp [Value.ownBlock]
    · rw [h]; simp [Value.ownBlock]; omega
  have HO := Go.Lib.hid (ho.mono HBV.out.size)
  clear he ho hb a0 a1 a2 a3 a4 a5 hS hBelV hV hBel hW hA
  have f1 := HS1.out.f
  obtain ⟨s0, q0⟩ := HS1.out.c 0 (by omega)
  obtain ⟨s1, q1⟩ := HS1.out.c 1 (by omega)
  obtain ⟨s2, q2⟩ := HS1.out.c 2 (by omega)
  obtain ⟨s3, q3⟩ := HS1.out.c 3 (by omega)
  obtain ⟨s4, q4⟩ := HS1.out.c 4 (by omega)
  unfold arrV
  go_wp2
  (try simp only [Exit.inBlock, Exit.then])
  refine bodyPost_ret (res25 rfl _ rfl (put5_cells HS1.out _ _ _ _ _)) rfl ?_
  exact ⟨_, _, _, _, _, m, _, rfl, HO.out.put5 hne _ _ _ _ _, below_put5 HB1.out hBW _ _ _ _ _⟩
set_option maxRecDepth 100000 in
set_option maxHeartbeats 3200000 in
theorem most15 (k r l0 l1 : Int) (v : Value) (n : Nat) (w : World) (h : RdI w v n) : Calls prog 15 #[arrV k r l0 l1 v] w (ArrRes w) := by
  unfold arrV
  generalize hW : (w.alloc (.cells #[.int .i64 k, .int .i64 r, .int .i64 l0, .int .i64 l1, v] 25)) = W
  have hBel : Below w.heap.size w W := by rw [← hW]; exact (Below.refl _ _).alloc (Nat.le_refl _) _
  have hA : ArrAt W w.heap.size k r l0 l1 v := by rw [← hW]; exact ArrAt.new w k r l0 l1 v
  generalize hV : (W.alloc (Obj.cells #[.int .i64 0, .int .i64 0, .int .i64 0, .int .i64 0, .slice none 0 0] 25)) = V
  have hBelV : Below W.heap.size W V := by rw [← hV]; exact (Below.refl _ _).alloc (Nat.le_refl _) _
  have hS : Slot5 V W.heap.size := by rw [← hV]; exact Slot5.new W _ _ _ _ _
  have HBV := Go.Lib.hid (hBel.trans (hBelV.mono hBel.size))
  have hBW : w.heap.size ≤ W.heap.size := hBel.size
  obtain ⟨a0, a1, a2, a3, a4, a5⟩ := hA.below hBelV
  go_enter func15, ntmps15
  go_wp2_with fail
  refine (end35 37 (.inr rfl) k r l0 l1 v n V (h.below HBV.out)).mono ?_
  intro e w1 he
  obtain ⟨k', r', l0', l1', A, m, cap, c, rfl, ho, hb⟩ := he.opened
  have HB1 := Go.Lib.hid (HBV.out.trans (hb.mono HBV.out.size))
  have HS1 := Go.Lib.hid (hS.below hb)
  have hlt : W.heap.size < V.heap.size := hS.lt
  have hne : Value.ownBlock (.slice A m cap) ≠ some W.heap.size := by
    rcases ho.form with ⟨h, _⟩ | ⟨g, _, h, hg, _⟩
    · rw [h]; simp [Value.ownBlock]
    · rw [h]; simp [Value.ownBlock]; omega
  have HO := Go.Lib.hid (ho.mono HBV.out.size)
  clear he ho hb a0 a1 a2 a3 a4 a5 hS hBelV hV hBel hW hA
  have f1 := HS1.out.f
  obtain ⟨s0, q0⟩ := HS1.out.c 0 (by omega)
  obtain ⟨s1, q1⟩ := HS1.out.c 1 (by omega)
  obtain ⟨s2, q2⟩ := HS1.out.c 2 (by omega)
  obtain ⟨s3, q3⟩ := HS1.out.c 3 (by omega)
  obtain ⟨s4, q4⟩ := HS1.out.c 4 (by omega)
  unfold arrV
  go_wp2
  (try simp only [Exit.inBlock, Exit.then])
  refine bodyPost_ret (res25 rfl _ rfl (put5_cells HS1.out _ _ _ _ _)) rfl ?_
  exact ⟨_, _, _, _, _, m, _, rfl, HO.out.put5 hne _ _ _ _ _, below_put5 HB1.out hBW _ _ _ _ _⟩
end Go.Proofs.Tryz

namespace Go.Proofs.Tryz
open Go.RowKit

set_option maxRecDepth 100000 in
set_option maxHeartbeats 3200000 in
theorem grow53 (n : Nat) (w : World) (hn : n ≤ 200000) : Calls prog 53 #[.slice none 0 0, .int .i64 n] w (fun e w' => (∃ v, e = .returned v ∧ OwnI w' w.heap.size v 0) ∧ Below w.heap.size w w') := by
  obtain ⟨i0, hi0, hz0, hz1, hz2⟩ := info_parts info2
  by_cases h0 : n = 0
  · subst h0
    go_enter func53, ntmps53
    go_wp2
    go_ret
    exact ⟨⟨_, rfl, OwnI.nil _ _⟩, Below.refl _ _⟩
  · have hr := fun ty => Lib.run_append_nil_zeros (P := prog) w 23 3 ty 2 i0 (.int .i64 0) .i64 .i64 underlying23 underlying3 hi0 hz0 n (by omega) (by rw [hz1]; omega) (by omega) (by rw [hz2]; omega)
    have hG := grownCap_ge w n 0 2
    have hM := grownCap_le_maxLen w n 0 2 (by unfold maxLen; omega)
    have hw0 : ¬ ((n : Int) < 0) := by omega
    have hw1 : (n : Int) > 0 := by omega
    generalize grownCap w n 0 2 = G at hr hG hM
    have HR := Go.Lib.hid hr
    unfold maxLen at hM
    clear hr
    go_enter func53, ntmps53
    go_wp2_with (at_builtin; refine Lib.wpList_append_run _ rfl _ _ _ _ rfl _ _ rfl rfl _ _ (HR.out _) ?_)
    go_ret
    refine ⟨⟨_, rfl, [], ⟨rfl, .inr ⟨w.heap.size, G, _, rfl, Nat.le_refl _, heap_alloc_new w _, Nat.zero_le _, by unfold maxLen; omega, ?_, by simp⟩⟩, by simp⟩, ((Below.refl _ _).alloc (Nat.le_refl _) _).drew⟩
    simp [Builtin.zeroCells]
    omega

theorem RdI.some_le {w : World} {v : Value} {n : Nat} (h : RdI w v n) : ∃ A cap, v = .slice A n cap ∧ n ≤ cap ∧ cap ≤ maxLen ∧ (A = none → n = 0 ∧ cap = 0) ∧ ∀ ad, A = some ad → ∃ xs : List Value, xs.length = n * 1 ∧ (∀ u ∈ xs, ∃ z, u = .int .i64 z) ∧ ∀ j u, xs[j]? = some u → w.cell? (ad.add j) = some u := by
  rcases h with ⟨rfl, rfl⟩ | ⟨b, o, cap, rfl, h2, h3, h4, h5⟩
  · exact ⟨none, 0, rfl, Nat.le_refl _, by unfold maxLen; omega, fun _ => ⟨rfl, rfl⟩, fun ad h => by cases h⟩
  · refine ⟨_, cap, rfl, h2, h3, fun h => (by cases h), fun ad h => ?_⟩
    cases h
    refine ⟨(List.range n).map fun j => if h : j < n then .int .i64 (h5 j h).choose else .int .i64 0, by simp, ?_, ?_⟩
    · intro u hu
      obtain ⟨j, _, rfl⟩ := List.mem_map.1 hu
      split
      · exact ⟨_, rfl⟩
      · exact ⟨_, rfl⟩
    · intro j u hu
      rw [add_lit']
      have hj : j < n := by
        have := (List.getElem?_eq_some_iff.1 hu).1
        simpa using this
      rw [List.getElem?_map, List.getElem?_range hj] at hu
      simp only [Option.map_some, hj, dite_true, Option.some.injEq] at hu
      rw [← hu]
      exact (h5 j hj).choose_spec

/-- an append of a row that can be read to a row of its own -/
theorem wpList_appendI {ops : Array Oper} {rest : List Oper} {o : Oper} {a : Act} {Q : Exit → Act → World → Prop} {w : World} (hgd : o.guard = none) (s x : Operand)
    (ho : o.op = .call { callee := .builtin .append, args := #[s, x], argTypes := #[23, 23] }) (base : Nat) (v u : Value) (n m : Nat) (hs : a.eval s = v) (hx : a.eval x = u) (hown : OwnI w base v n) (hrd : RdI w u m) (hb : n + m ≤ 200000) (hbase : base ≤ w.heap.size)
    (h : ∀ v' w', OwnI w' base v' (n + m) → Below base w w' → wpList prog ops Q rest (a.put o.dst v') w') : wpList prog ops Q (o :: rest) a w := by
  obtain ⟨i0, hi0, hz0, hz1, hz2⟩ := info_parts info2
  obtain ⟨xs, hxs, hi⟩ := hown
  obtain ⟨A, cap, rfl, h1, h2, h3, h4⟩ := hrd.some_le
  cases A with
  | none =>
    obtain ⟨rfl, rfl⟩ := h3 rfl
    refine wpList_plain hgd fun K hK => ?_
    have hrun := run_append_owned_none (P := prog) (w := w) base 23 o.type 2 i0 1 underlying23 hi0 v n xs hxs
    unfold Oper.wp
    simp [execOp, ho, resolve, invoke, builtin, hs, hx, hrun, Result.andThen]
    exact hK _ _ (h v w (show OwnI w base v n from ⟨xs, hxs, hi⟩) (Below.refl _ _))
  | some ad =>
    obtain ⟨ys, hl, hy, hc⟩ := h4 ad rfl
    refine wpList_append_own_at w hgd s x 23 ho base 2 i0 _ 1 8 underlying23 hi0 hz0 hz1 hz2 rfl (by omega) v n xs hs hxs ad m cap ys hx hl hc (fun u hu => by obtain ⟨z, rfl⟩ := hy u hu; rfl) (by unfold maxLen; omega) (by omega) hbase ?_
    intro v' w' ho' hg _ _
    exact h v' w' ⟨_, ho', fun u hu => by
      rcases List.mem_append.1 hu with h | h
      · exact hi u h
      · exact hy u h⟩ (Below.grownRow hg hxs (Nat.le_refl _) hbase)

/-- rows, or none -/
def RdRn (w : World) (v : Value) (m : Nat) : Prop := (v = .slice none 0 0 ∧ m = 0) ∨ RdR w v m
theorem RdRn.below {w w' : World} {v : Value} {m : Nat} (h : RdRn w v m) (hb : Below w.heap.size w w') : RdRn w' v m := by
  rcases h with h | h
  · exact .inl h
  · exact .inr (h.below hb)
theorem RdRn.at_ {w : World} {A : Option Addr} {m cap j : Nat} (h : RdRn w (.slice A m cap) m) (hj : j < m) : ∃ b o row q, A = some ⟨b, o, none⟩ ∧ w.cell? ⟨b, o + j, none⟩ = some row ∧ RdI w row q ∧ q ≤ 400 := by
  rcases h with ⟨_, rfl⟩ | ⟨b, o, c, h1, _, _, h4⟩
  · omega
  · cases h1
    obtain ⟨row, q, h5, h6, h7⟩ := h4 j hj
    exact ⟨b, o, row, q, rfl, h5, h6, h7⟩

set_option maxRecDepth 100000 in
set_option maxHeartbeats 3200000 in
theorem concat41 (v : Value) (m : Nat) (w : World) (h : RdRn w v m) (hm : m ≤ 400) : Calls prog 41 #[v] w (fun e w' => (∃ v' q, e = .returned v' ∧ OwnI w' w.heap.size v' q) ∧ Below w.heap.size w w') := by
  obtain ⟨A, cap, rfl⟩ : ∃ A cap, v = .slice A m cap := by
    rcases h with ⟨rfl, rfl⟩ | ⟨b, o, cap, rfl, _⟩
    · exact ⟨_, _, rfl⟩
    · exact ⟨_, _, rfl⟩
  have H := Go.Lib.hid h
  clear h
  go_enter func41, ntmps41
  go_wp2
  go_loop [3, 11] (fun s i => ∃ (j t : Nat), j ≤ m ∧ i = .int .i64 j ∧ s = .int .i64 t ∧ t ≤ j * 400) (fun _ i => m - (intOf i).toNat)
  case atStart => exact ⟨0, 0, Nat.zero_le _, rfl, rfl, Nat.le_refl _⟩
  case round =>
    obtain ⟨j, t, hj, rfl, rfl, ht⟩ := hrel
    by_cases hlt : j < m
    · obtain ⟨b, o, row, q, rfl, hc, hrd, hq⟩ := H.out.at_ hlt
      obtain ⟨A', cap', rfl, _⟩ := hrd.some_le
      have hneg : ¬ (((t : Int) + (q : Int)) < 0) := by omega
      clear hrd
      go_wp2
      go_round
      case rel => exact ⟨j + 1, t + q, by omega, by go_num, by go_num, by omega⟩
      case measure => simp [intOf]; omega
    · go_wp2_with fail
      refine (grow53 t w (by omega)).mono ?_
      rintro e w1 ⟨⟨v1, rfl, ho1⟩, hb1⟩
      have HO := Go.Lib.hid (And.intro ho1 hb1)
      clear ho1 hb1
      go_wp2
      go_loopw [6, 27] (fun o i wr => ∃ (j q : Nat), j ≤ m ∧ i = .int .i64 j ∧ q ≤ j * 400 ∧ Hid (OwnI wr w.heap.size o q ∧ Below w.heap.size w wr)) (fun _ i _ => m - (intOf i).toNat)
      case atStart => exact ⟨0, 0, Nat.zero_le _, rfl, Nat.le_refl _, HO.out⟩
      case round =>
        obtain ⟨j, p, hj, rfl, hp, hr⟩ := hrel
        by_cases hlt : j < m
        · obtain ⟨b, o, row, q, rfl, hc, hrd, hq⟩ := (H.out.below hr.out.2).at_ hlt
          have HRD := Go.Lib.hid hrd
          clear hrd
          go_wp2_with (at_builtin; refine wpList_appendI rfl _ _ rfl w.heap.size _ _ p q rfl rfl hr.out.1 HRD.out (by omega) hr.out.2.size ?_)
          intro v' w3 ho3 hb3
          have H3 : Hid (OwnI w3 w.heap.size v' (p + q) ∧ Below w.heap.size w w3) := ⟨ho3, hr.out.2.trans hb3⟩
          clear ho3 hb3
          go_wp2
          go_roundw
          case rel => exact ⟨j + 1, p + q, by omega, by go_num, by omega, H3⟩
          case measure => simp [intOf]; omega
        · go_wp2
          go_ret
          exact ⟨⟨_, p, rfl, hr.out.1⟩, hr.out.2⟩
end Go.Proofs.Tryz

namespace Go.Proofs.Tryz
open Go.RowKit

theorem OwnR.rdn {w : World} {base : Nat} {v : Value} {n : Nat} (h : OwnR w base v n) : RdRn w v n := by
  by_cases hv : v = .slice none 0 0
  · subst hv
    obtain ⟨xs, ⟨_, h | ⟨g, cap, cur, h1, _⟩⟩, _⟩ := h
    · exact .inl ⟨rfl, h.2⟩
    · cases h1
  · exact .inr (h.rd hv)

set_option maxRecDepth 100000 in
set_option maxHeartbeats 3200000 in
theorem scan21 (k r l0 l1 : Int) (v : Value) (n : Nat) (w : World) (h : RdI w v n) : Calls prog 21 #[arrV k r l0 l1 v] w (ArrRes w) := by
  have H := Go.Lib.hid h
  unfold arrV
  generalize hW : (w.alloc (.cells #[.int .i64 k, .int .i64 r, .int .i64 l0, .int .i64 l1, v] 25)) = W
  have hBel : Below w.heap.size w W := by rw [← hW]; exact (Below.refl _ _).alloc (Nat.le_refl _) _
  have hA : ArrAt W w.heap.size k r l0 l1 v := by rw [← hW]; exact ArrAt.new w k r l0 l1 v
  have hSA : Slot5 W w.heap.size := by rw [← hW]; exact Slot5.new w _ _ _ _ _
  generalize hV : (W.alloc (Obj.cells #[.int .i64 0, .int .i64 0, .int .i64 0, .int .i64 0, .slice none 0 0] 25)) = V
  have hBelV : Below W.heap.size W V := by rw [← hV]; exact (Below.refl _ _).alloc (Nat.le_refl _) _
  have hS : Slot5 V W.heap.size := by rw [← hV]; exact Slot5.new W _ _ _ _ _
  have HA := Go.Lib.hid (hA.below hBelV)
  have HSA := Go.Lib.hid (hSA.below hBelV)
  have HBV := Go.Lib.hid (hBel.trans (hBelV.mono hBel.size))
  have hBW : w.heap.size ≤ W.heap.size := hBel.size
  have hwW : w.heap.size < W.heap.size := hA.lt
  obtain ⟨a0, a1, a2, a3, a4, a5⟩ := hA.below hBelV
  clear h hA hSA
  go_enter func21, ntmps21
  go_wp2_with fail
  refine (check39 k r l0 l1 v n true V (H.out.below HBV.out)).mono ?_
  rintro e w1 ⟨⟨c, rfl, hc⟩, h1⟩
  have HC := Go.Lib.hid hc
  have HB1 := Go.Lib.hid (HBV.out.trans (h1.mono HBV.out.size))
  have HS1 := Go.Lib.hid (hS.below h1)
  have HSA1 := Go.Lib.hid (HSA.out.below h1)
  have HA1 := Go.Lib.hid (HA.out.below h1)
  clear hc a0 a1 a2 a3 a4 a5 hS hBelV hV hBel hW h1
  by_cases h0 : c = 0
  · subst h0
    obtain ⟨ha, hr⟩ := HC.out (by first | rfl | trivial)
    obtain ⟨a0, a1, a2, a3, a4, a5⟩ := HA1.out
    have hr0 : Hid (r = 1 ∨ r = 2) := hr
    have HAO := Go.Lib.hid ha
    clear ha hr
    go_wp2_with fail
    refine (each40 k r l0 l1 v n w1 (H.out.below HB1.out) HAO.out hr0.out).mono ?_
    rintro e w2 ⟨v', c, rfl, hv, h2⟩
    have HB2 := Go.Lib.hid (HB1.out.trans (h2.mono HB1.out.size))
    have HS2 := Go.Lib.hid (HS1.out.below h2)
    have HSA2 := Go.Lib.hid (HSA1.out.below h2)
    have HA2 := Go.Lib.hid (HA1.out.below h2)
    have hlt1 : W.heap.size < w1.heap.size := HS1.out.lt
    have hsz1 : w.heap.size ≤ w1.heap.size := HB1.out.size
    have hsz2 : w1.heap.size ≤ w2.heap.size := h2.size
    have HVV := Go.Lib.hid hv
    clear hv h2 a0 a1 a2 a3 a4 a5
    by_cases h0 : c = 0
    · subst h0
      obtain ⟨m, ho, hm⟩ : ∃ m, OwnR w2 w1.heap.size v' m ∧ m ≤ 400 := by
        rcases HVV.out with ⟨_, h⟩ | ⟨_, h⟩
        · exact absurd rfl h
        · exact h
      have HO := Go.Lib.hid ho
      clear ho HVV
      go_wp2_with fail
      refine (concat41 v' m w2 HO.out.rdn hm).mono ?_
      rintro e w3 ⟨⟨v3, q, rfl, ho3⟩, h3⟩
      have HB3 := Go.Lib.hid (HB2.out.trans (h3.mono HB2.out.size))
      have HS3 := Go.Lib.hid (HS2.out.below h3)
      have HSA3 := Go.Lib.hid (HSA2.out.below h3)
      have HA3 := Go.Lib.hid (HA2.out.below h3)
      have hne : v3.ownBlock ≠ some W.heap.size ∧ v3.ownBlock ≠ some w.heap.size := by
        rcases ho3.form with ⟨rfl, _⟩ | ⟨g, _, rfl, hg, _⟩
        · simp [Value.ownBlock]
        · simp [Value.ownBlock]; omega
      obtain ⟨A3, cap3, rfl⟩ : ∃ A cap, v3 = .slice A q cap := by
        rcases ho3.form with ⟨rfl, rfl⟩ | ⟨g, _, rfl, hg, _⟩
        · exact ⟨_, _, rfl⟩
        · exact ⟨_, _, rfl⟩
      have HO3 := Go.Lib.hid (ho3.mono (base' := w.heap.size) (by omega))
      clear h3 ho3
      have fA := HSA3.out.f 4
      have f1 := HS3.out.f
      obtain ⟨a0, a1, a2, a3, a4, a5⟩ := HA3.out
      generalize hX : (w3.setCell ⟨w.heap.size, 4, none⟩ (.slice A3 q cap3)) = X
      have HBX : Hid (Below w.heap.size w X) := by show Below _ _ _; rw [← hX]; exact HB3.out.setCell (Nat.le_refl _) _
      have hX5 : ∀ b i, b ≠ w.heap.size → X.cell? ⟨b, i, none⟩ = w3.cell? ⟨b, i, none⟩ := fun b i hb => by rw [← hX]; exact World.cell?_setCell_other _ _ _ _ (by intro e; injection e with e1; exact hb e1.symm)
      have hXf : ∀ a, X.frozen? a = w3.frozen? a := fun a => by rw [← hX, World.frozen?_setCell]
      have HSX : Hid (Slot5 X W.heap.size) := ⟨by rw [← hX]; simpa using HS3.out.lt, fun i hi => by
        obtain ⟨y, hy⟩ := HS3.out.c i hi
        exact ⟨y, (hX5 _ _ (by omega)).trans hy⟩, fun i => (hXf _).trans (HS3.out.f i)⟩
      have x0 : X.cell? ⟨w.heap.size, 0, none⟩ = some (.int .i64 k) := by rw [← hX, World.cell?_setCell_other _ _ _ _ (by intro e; injection e; omega)]; exact a1
      have x1 : X.cell? ⟨w.heap.size, 1, none⟩ = some (.int .i64 r) := by rw [← hX, World.cell?_setCell_other _ _ _ _ (by intro e; injection e; omega)]; exact a2
      have x2 : X.cell? ⟨w.heap.size, 2, none⟩ = some (.int .i64 l0) := by rw [← hX, World.cell?_setCell_other _ _ _ _ (by intro e; injection e; omega)]; exact a3
      have x3 : X.cell? ⟨w.heap.size, 3, none⟩ = some (.int .i64 l1) := by rw [← hX, World.cell?_setCell_other _ _ _ _ (by intro e; injection e; omega)]; exact a4
      have x4 : X.cell? ⟨w.heap.size, 4, none⟩ = some (.slice A3 q cap3) := by rw [← hX]; exact World.cell?_setCell_same _ _ _ a5
      have HOX : Hid (OwnI X w.heap.size (.slice A3 q cap3) q) := by show OwnI _ _ _ _; rw [← hX]; exact HO3.out.setCell (by simpa using hne.2) _
      obtain ⟨s0, q0⟩ := HSX.out.c 0 (by omega)
      obtain ⟨s1, q1⟩ := HSX.out.c 1 (by omega)
      obtain ⟨s2, q2⟩ := HSX.out.c 2 (by omega)
      obtain ⟨s3, q3⟩ := HSX.out.c 3 (by omega)
      obtain ⟨s4, q4⟩ := HSX.out.c 4 (by omega)
      have fX := HSX.out.f
      have HNE := Go.Lib.hid hne
      clear hX5 hXf hne
      go_wp2
      (try simp only [Exit.inBlock, Exit.then])
      refine bodyPost_ret (res25 rfl _ rfl (put5_cells HSX.out _ _ _ _ _)) rfl ?_
      exact ⟨_, _, _, _, _, q, _, rfl, HOX.out.put5 HNE.out.1 _ _ _ _ _, below_put5 HBX.out hBW _ _ _ _ _⟩
    · have hdc : decide (c = 0) = false := decide_eq_false h0
      have f1 := HS2.out.f
      obtain ⟨s0, q0⟩ := HS2.out.c 0 (by omega)
      obtain ⟨s1, q1⟩ := HS2.out.c 1 (by omega)
      obtain ⟨s2, q2⟩ := HS2.out.c 2 (by omega)
      obtain ⟨s3, q3⟩ := HS2.out.c 3 (by omega)
      obtain ⟨s4, q4⟩ := HS2.out.c 4 (by omega)
      go_wp2
      (try simp only [Exit.inBlock, Exit.then])
      refine bodyPost_ret (res25 rfl _ rfl (put5_cells HS2.out _ _ _ _ _)) rfl ?_
      exact ⟨_, _, _, _, _, 0, _, rfl, OwnI.nil _ _, below_put5 HB2.out hBW _ _ _ _ _⟩
  · have hdc : decide (c = 0) = false := decide_eq_false h0
    have f1 := HS1.out.f
    obtain ⟨s0, q0⟩ := HS1.out.c 0 (by omega)
    obtain ⟨s1, q1⟩ := HS1.out.c 1 (by omega)
    obtain ⟨s2, q2⟩ := HS1.out.c 2 (by omega)
    obtain ⟨s3, q3⟩ := HS1.out.c 3 (by omega)
    obtain ⟨s4, q4⟩ := HS1.out.c 4 (by omega)
    go_wp2
    (try simp only [Exit.inBlock, Exit.then])
    refine bodyPost_ret (res25 rfl _ rfl (put5_cells HS1.out _ _ _ _ _)) rfl ?_
    exact ⟨_, _, _, _, _, 0, _, rfl, OwnI.nil _ _, below_put5 HB1.out hBW _ _ _ _ _⟩
end Go.Proofs.Tryz
