import Derived.Test.YtfgkpganiabpkaaGreatDoorProg
import Derived.Tactics
import Derived.Tactics2
import Derived.WalkKit
import Derived.WalkSpells
import Derived.StillTactics
import Derived.OwnWalk
import Derived.Laws.Pointers
import Derived.Deep.RegionHeld3
import Derived.Deep.AppendLies
import Derived.Deep.RegionLaw
import Derived.Below
import Derived.Lib.Hide
import Derived.IntWalk
import Derived.KernelRfl
import Derived.LoopTactic
/- Proved in this claim (its last text holds the theorem): the given statement TopSharedFoldsCardSaid, with no condition of ours. This text is one part of that proof: contracts of the functions that the statement's code calls. -/
set_option linter.all false
namespace Go.Proofs.Tryz
open Go.RowKit

theorem info3 : (prog.info? 3).map (fun i => (i.zero, i.size, i.bytes)) = some (some (.int .i64 0), 1, 8) := by kernel_rfl

/-- all that lies below base is as it was, but one cell of block be -/
structure But (base be oe : Nat) (w w' : World) : Prop where
  os : w'.os = w.os
  tape : w'.tape = w.tape
  output : w'.output = w.output
  size : w.heap.size ≤ w'.heap.size
  block : ∀ k, k < base → k ≠ be → w'.heap[k]? = w.heap[k]?
  own : ∃ v, w'.heap[be]? = (w.setCell ⟨be, oe, none⟩ v).heap[be]?

/-- an eye that does not mark, and the numbers that it has seen -/
structure EyeSt (w : World) (base be oe : Nat) (xs : List Value) : Prop where
  lt : be < base
  le : base ≤ w.heap.size
  row : ∃ v, w.cell? ⟨be, oe, none⟩ = some v ∧ w.ownsRow base 3 1 v xs.length xs
  mark : w.cell? ⟨be, oe + 2, none⟩ = some (.bool false)
  fz : w.frozen? ⟨be, oe, none⟩ = false

def EyeOut (base be oe : Nat) (w : World) (ys : List Value) (e : Ending) (w' : World) : Prop :=
  e = .returned (.tuple #[]) ∧ But base be oe w w' ∧ EyeSt w' base be oe ys

theorem heap_setCell_be (w : World) (be oe : Nat) (u v : Value) : ((w.setCell ⟨be, oe, none⟩ u).setCell ⟨be, oe, none⟩ v).heap[be]? = (w.setCell ⟨be, oe, none⟩ v).heap[be]? := by
  simp only [World.setCell, Array.getElem?_modify, if_true]
  cases w.heap[be]? with
  | none => rfl
  | some o => cases o <;> simp

theorem heap_setCell_of {w w' : World} {be oe : Nat} (h : w'.heap[be]? = w.heap[be]?) (v : Value) : (w'.setCell ⟨be, oe, none⟩ v).heap[be]? = (w.setCell ⟨be, oe, none⟩ v).heap[be]? := by
  simp only [World.setCell, Array.getElem?_modify, if_true, h]

theorem But.trans {base be oe : Nat} {a b c : World} (h : But base be oe a b) (k : But base be oe b c) : But base be oe a c := by
  refine ⟨k.os.trans h.os, k.tape.trans h.tape, k.output.trans h.output, Nat.le_trans h.size k.size, fun i hi hn => (k.block i hi hn).trans (h.block i hi hn), ?_⟩
  obtain ⟨v, hv⟩ := k.own
  obtain ⟨u, hu⟩ := h.own
  exact ⟨v, by rw [hv, heap_setCell_of hu, heap_setCell_be]⟩
theorem But.cell {base be oe : Nat} {w w' : World} (h : But base be oe w w') {p : Addr} (hp : p.block < base) (hn : p.block ≠ be) : w'.cell? p = w.cell? p := World.cell?_of_block (h.block _ hp hn)

/-- behind an append and a store -/
theorem eye_done {base be oe : Nat} {w w0 w1 : World} {v v' : Value} {xs ys : List Value} (h : EyeSt w base be oe xs) (hc : w.cell? ⟨be, oe, none⟩ = some v) (ho : w.ownsRow base 3 1 v xs.length xs)
    (h0 : Below w.heap.size w w0) (hg : w0.grownBy w1 v.ownBlock) (hown : w1.ownsRow base 3 1 v' ys.length ys) :
    But base be oe w (w1.setCell ⟨be, oe, none⟩ v') ∧ EyeSt (w1.setCell ⟨be, oe, none⟩ v') base be oe ys := by
  have hbase := h.le
  have hlt := h.lt
  have hrow : ∀ k, k < base → some k ≠ v.ownBlock := by
    intro k hk
    rcases ho.2 with ⟨rfl, _⟩ | ⟨g, cap, cur, rfl, hb, _⟩
    · simp [Value.ownBlock]
    · simp only [Value.ownBlock]; intro he; cases he; omega
  have hblk : ∀ k, k < base → w1.heap[k]? = w.heap[k]? := fun k hk => (hg.block k (Nat.lt_of_lt_of_le (Nat.lt_of_lt_of_le hk hbase) h0.size) (hrow k hk)).trans (h0.block k (by omega))
  refine ⟨⟨hg.os.trans h0.os, hg.tape.trans h0.tape, hg.output.trans h0.output, by simp only [World.size_setCell]; exact Nat.le_trans h0.size hg.size,
    fun k hk hn => by rw [Below.heap_setCell _ _ _ _ (by simpa using hn)]; exact hblk k hk, v', heap_setCell_of (hblk be hlt) v'⟩, ?_⟩
  have hcb : ∀ o, w1.cell? ⟨be, o, none⟩ = w.cell? ⟨be, o, none⟩ := fun o => World.cell?_of_block (hblk be hlt)
  refine ⟨hlt, by simp only [World.size_setCell]; exact Nat.le_trans hbase (Nat.le_trans h0.size hg.size), ⟨v', ?_, ownsRow_setCell_below hown hlt v'⟩, ?_, ?_⟩
  · exact World.cell?_setCell_same _ _ _ ((hcb oe).trans hc)
  · rw [World.cell?_setCell_other _ _ _ _ (by intro e; injection e; omega), hcb]; exact h.mark
  · rw [World.frozen?_setCell]; exact (World.frozen?_of_block (hblk be hlt)).trans h.fz

set_option maxRecDepth 100000 in
set_option maxHeartbeats 3200000 in
theorem num49 (base be oe bx ox : Nat) (i : Int) (xs : List Value) (w : World) (h : EyeSt w base be oe xs)
    (hX : w.cell? ⟨bx, ox, none⟩ = some (.int .i64 i)) (hn : xs.length + 1 ≤ 300000) :
    Calls prog 49 #[.pointer (some ⟨be, oe, none⟩), .pointer (some ⟨bx, ox, none⟩)] w (EyeOut base be oe w (xs ++ [.int .i64 i])) := by
  obtain ⟨ov, hN, hown⟩ := h.row
  have hM := h.mark
  have hF := h.fz
  have hbase := h.le
  have hlt := h.lt
  obtain ⟨i0, hi0, hz0, hz1, hz2⟩ := info_parts info3
  have le := World.block_lt_of_cell? w _ hN
  have ae : ov.ownBlock ≠ some be := by
    rcases hown.2 with ⟨rfl, _⟩ | ⟨g, cap, cur, rfl, hb, _⟩
    · simp [Value.ownBlock]
    · simp only [Value.ownBlock]; intro he; cases he; omega
  have hFa : ∀ c t, (w.alloc (.cells c t)).drew.frozen? ⟨be, oe, none⟩ = false := fun c t => by
    show (w.alloc (.cells c t)).frozen? _ = _
    rw [frozen?_alloc_cells]; exact hF
  have hCa : ∀ c t, (w.alloc (.cells c t)).drew.cell? ⟨be, oe, none⟩ = some ov := fun c t => by
    show (w.alloc (.cells c t)).cell? _ = _
    rw [World.cell?_alloc_lt _ _ _ (by simpa using le)]; exact hN
  have H : Hid (EyeSt w base be oe xs) := h
  have hlen : (xs ++ [Value.int .i64 i]).length = xs.length + 1 := by simp
  have HL : Hid ((xs ++ [Value.int .i64 i]).length = xs.length + 1) := hlen
  clear h hlen
  go_enter func49, ntmps49
  go_wp2_with fail
  go_region_law ((refine step_append_lies _ (by rfl) _ _ _ (by rfl) base 3 i0 _ 1 8 underlying44 hi0 hz0 hz1 hz2 rfl (by omega) ov xs.length xs (by rfl) ((hown.alloc _).drew) ⟨w.heap.size, 0, none⟩ 1 1 [.int .i64 i] (by rfl) (by rfl) (World.news_of_block (cs := #[.int .i64 i]) (t := 3) (fr := (0, 0)) (heap_alloc_new w _)) (by simp [Value.oneCell']) (by omega) (by unfold maxLen; omega) (by omega) (by simp; omega) (w.heap.size + 1) (by simp) ?_; intro gg cap w1 hown1 hgrow hat hlt1; have hf1 := (hgrow.frozen_far ⟨be, oe, none⟩ (by simp; omega) (Ne.symm ae)).trans (hFa _ _); have hc1 := (hgrow.cell_far ⟨be, oe, none⟩ (by simp; omega) (Ne.symm ae)).trans (hCa _ _)))
  all_goals
    go_wp2
    go_end0
    have hd := eye_done (ys := xs ++ [.int .i64 i]) H.out hN hown (((Below.refl _ _).alloc (Nat.le_refl _) _).drew) hgrow (by rw [HL.out]; exact hown1)
    exact ⟨rfl, hd⟩

set_option maxRecDepth 100000 in
set_option maxHeartbeats 3200000 in
theorem num32 (base be oe bx ox : Nat) (i : Int) (xs : List Value) (w : World) (h : EyeSt w base be oe xs)
    (hX : w.cell? ⟨bx, ox, none⟩ = some (.int .i64 i)) (hn : xs.length + 1 ≤ 300000) :
    Calls prog 32 #[.pointer (some ⟨be, oe, none⟩), .pointer (some ⟨bx, ox, none⟩)] w (EyeOut base be oe w (xs ++ [.int .i64 i])) := by
  obtain ⟨ov, hN, hown⟩ := h.row
  have hM := h.mark
  have hF := h.fz
  have hbase := h.le
  have hlt := h.lt
  obtain ⟨i0, hi0, hz0, hz1, hz2⟩ := info_parts info3
  have le := World.block_lt_of_cell? w _ hN
  have ae : ov.ownBlock ≠ some be := by
    rcases hown.2 with ⟨rfl, _⟩ | ⟨g, cap, cur, rfl, hb, _⟩
    · simp [Value.ownBlock]
    · simp only [Value.ownBlock]; intro he; cases he; omega
  have hFa : ∀ c t, (w.alloc (.cells c t)).drew.frozen? ⟨be, oe, none⟩ = false := fun c t => by
    show (w.alloc (.cells c t)).frozen? _ = _
    rw [frozen?_alloc_cells]; exact hF
  have hCa : ∀ c t, (w.alloc (.cells c t)).drew.cell? ⟨be, oe, none⟩ = some ov := fun c t => by
    show (w.alloc (.cells c t)).cell? _ = _
    rw [World.cell?_alloc_lt _ _ _ (by simpa using le)]; exact hN
  have H : Hid (EyeSt w base be oe xs) := h
  have hlen : (xs ++ [Value.int .i64 i]).length = xs.length + 1 := by simp
  have HL : Hid ((xs ++ [Value.int .i64 i]).length = xs.length + 1) := hlen
  clear h hlen
  go_enter func32, ntmps32
  go_wp2_with fail
  go_region_law ((refine step_append_lies _ (by rfl) _ _ _ (by rfl) base 3 i0 _ 1 8 underlying44 hi0 hz0 hz1 hz2 rfl (by omega) ov xs.length xs (by rfl) ((hown.alloc _).drew) ⟨w.heap.size, 0, none⟩ 1 1 [.int .i64 i] (by rfl) (by rfl) (World.news_of_block (cs := #[.int .i64 i]) (t := 3) (fr := (0, 0)) (heap_alloc_new w _)) (by simp [Value.oneCell']) (by omega) (by unfold maxLen; omega) (by omega) (by simp; omega) (w.heap.size + 1) (by simp) ?_; intro gg cap w1 hown1 hgrow hat hlt1; have hf1 := (hgrow.frozen_far ⟨be, oe, none⟩ (by simp; omega) (Ne.symm ae)).trans (hFa _ _); have hc1 := (hgrow.cell_far ⟨be, oe, none⟩ (by simp; omega) (Ne.symm ae)).trans (hCa _ _)))
  all_goals
    go_wp2
    go_end0
    have hd := eye_done (ys := xs ++ [.int .i64 i]) H.out hN hown (((Below.refl _ _).alloc (Nat.le_refl _) _).drew) hgrow (by rw [HL.out]; exact hown1)
    exact ⟨rfl, hd⟩
end Go.Proofs.Tryz

namespace Go.Proofs.Tryz
open Go.RowKit

theorem setCell_self (w : World) (be oe : Nat) (v : Value) (h : w.cell? ⟨be, oe, none⟩ = some v) : (w.setCell ⟨be, oe, none⟩ v).heap[be]? = w.heap[be]? := by
  simp only [World.setCell, Array.getElem?_modify, if_true]
  simp only [World.cell?] at h
  cases ho : w.heap[be]? with
  | none => rfl
  | some o =>
    rw [ho] at h
    cases o <;> simp_all
    rename_i c _ _
    apply Array.ext_getElem?
    intro i
    rw [Array.getElem?_setIfInBounds]
    split
    · rename_i hi; subst hi; split
      · exact h.symm
      · rename_i hge; rw [Array.getElem?_eq_none (by omega)]
    · rfl
theorem But.refl {base be oe : Nat} {w : World} {xs : List Value} (h : EyeSt w base be oe xs) : But base be oe w w := by
  obtain ⟨v, hv, _⟩ := h.row
  exact ⟨rfl, rfl, rfl, Nat.le_refl _, fun _ _ _ => rfl, v, (setCell_self w be oe v hv).symm⟩

def Two (base be oe : Nat) (w : World) (xs : List Value) (a b : Int) (k : Nat) (wr : World) : Prop :=
  But base be oe w wr ∧ EyeSt wr base be oe (xs ++ ([a, b].take k).map (Value.int .i64))

theorem two_next {base be oe : Nat} {w wr w' : World} {xs : List Value} {a b c : Int} {k : Nat} (h : Two base be oe w xs a b k wr) (hk : [a, b][k]? = some c) {e : Ending}
    (hd : EyeOut base be oe wr ((xs ++ ([a, b].take k).map (Value.int .i64)) ++ [.int .i64 c]) e w') : e = .returned (.tuple #[]) ∧ Two base be oe w xs a b (k + 1) w' := by
  refine ⟨hd.1, h.1.trans hd.2.1, ?_⟩
  have e1 : [a, b].take (k + 1) = [a, b].take k ++ [c] := by rw [List.take_add_one, hk]; rfl
  rw [e1, List.map_append, ← List.append_assoc]
  exact hd.2.2

set_option maxRecDepth 100000 in
set_option maxHeartbeats 1600000 in
theorem row33 (base be oe bx ox : Nat) (a b : Int) (xs : List Value) (w : World) (h : EyeSt w base be oe xs) (hb : bx < base) (hne : bx ≠ be)
    (hA : w.cell? ⟨bx, ox, none⟩ = some (.int .i64 a)) (hB : w.cell? ⟨bx, ox + 1, none⟩ = some (.int .i64 b)) (hn : xs.length + 2 ≤ 300000) :
    Calls prog 33 #[.pointer (some ⟨be, oe, none⟩), .pointer (some ⟨bx, ox, none⟩)] w (EyeOut base be oe w (xs ++ [.int .i64 a, .int .i64 b])) := by
  have H : Hid (Two base be oe w xs a b 0 w) := ⟨But.refl h, by simpa using h⟩
  have HA : Hid (w.cell? ⟨bx, ox, none⟩ = some (.int .i64 a)) := hA
  have HB : Hid (w.cell? ⟨bx, ox + 1, none⟩ = some (.int .i64 b)) := hB
  clear h hA hB
  go_enter func33, ntmps33
  go_wp2
  go_loopw [4] (fun i wr => ∃ k : Nat, k ≤ 2 ∧ i = .int .i64 k ∧ Hid (Two base be oe w xs a b k wr)) (fun i _ => 2 - (intOf i).toNat)
  case atStart => exact ⟨0, Nat.zero_le _, rfl, H⟩
  case round =>
    obtain ⟨k, hk, rfl, hr⟩ := hrel
    rcases (by omega : k = 0 ∨ k = 1 ∨ k = 2) with hk0 | hk0 | hk0
    · obtain rfl := hk0
      have hc : Hid (wr.cell? ⟨bx, ox, none⟩ = some (.int .i64 a)) := (hr.out.1.cell hb hne).trans HA.out
      go_wp2_with fail
      refine (num32 base be oe bx ox a xs _ (by have := hr.out.2; simpa using this) hc.out (by omega)).mono ?_
      rintro e w' he
      obtain ⟨rfl, he⟩ := he
      have H2 : Hid (Two base be oe w xs a b 1 w') := (two_next (e := .returned (.tuple #[])) hr.out rfl ⟨rfl, by simpa using he⟩).2
      go_wp2
      go_roundw
      case rel => exact ⟨1, by omega, by go_num, H2⟩
      case measure => simp [intOf]
    · obtain rfl := hk0
      have hc : Hid (wr.cell? ⟨bx, ox + 1, none⟩ = some (.int .i64 b)) := (hr.out.1.cell hb hne).trans HB.out
      go_wp2_with fail
      refine (num32 base be oe bx (ox + 1) b (xs ++ [.int .i64 a]) _ (by have := hr.out.2; simpa using this) hc.out (by simp; omega)).mono ?_
      rintro e w' he
      obtain ⟨rfl, he⟩ := he
      have H2 : Hid (Two base be oe w xs a b 2 w') := (two_next (e := .returned (.tuple #[])) hr.out rfl ⟨rfl, he⟩).2
      go_wp2
      go_roundw
      case rel => exact ⟨2, by omega, by go_num, H2⟩
      case measure => simp [intOf]
    · obtain rfl := hk0
      go_wp2
      go_end0
      exact ⟨rfl, hr.out.1, by simpa using hr.out.2⟩

/-! ### all -/
def AllR (base be oe : Nat) (w : World) (xs vs : List Value) (k : Nat) (wr : World) : Prop :=
  But base be oe w wr ∧ EyeSt wr base be oe (xs ++ [.int .i64 vs.length] ++ vs.take k) ∧ (xs.length + 1 + k ≤ 200000 ∨ k = 0)

theorem all_next {base be oe : Nat} {w wr w' : World} {xs vs : List Value} {u : Value} {k : Nat} (h : AllR base be oe w xs vs k wr) (hk : vs[k]? = some u) (hl : xs.length + 1 + k < 200000) {e : Ending}
    (hd : EyeOut base be oe wr ((xs ++ [.int .i64 vs.length] ++ vs.take k) ++ [u]) e w') : e = .returned (.tuple #[]) ∧ AllR base be oe w xs vs (k + 1) w' := by
  refine ⟨hd.1, h.1.trans hd.2.1, ?_, Or.inl (by omega)⟩
  have e1 : vs.take (k + 1) = vs.take k ++ [u] := by rw [List.take_add_one, hk]; rfl
  rw [e1, ← List.append_assoc]
  exact hd.2.2
theorem all_end {base be oe len : Nat} {w wr : World} {xs vs : List Value} {k : Nat} (hl : vs.length = len) (h : AllR base be oe w xs vs k wr) (hx : xs.length + 1 ≤ 200000) (hk : k ≤ vs.length) (he : k = vs.length ∨ 200000 ≤ xs.length + 1 + k) :
    EyeOut base be oe w (xs ++ [.int .i64 len] ++ vs.take (200000 - (xs.length + 1))) (.returned (.tuple #[])) wr := by
  subst hl
  refine ⟨rfl, h.1, ?_⟩
  have : vs.take (200000 - (xs.length + 1)) = vs.take k := by
    rcases he with rfl | he
    · rcases Nat.lt_or_ge (200000 - (xs.length + 1)) vs.length with hlt | hge
      · rcases h.2.2 with h3 | h3
        · omega
        · omega
      · rw [List.take_of_length_le hge, List.take_of_length_le (Nat.le_refl _)]
    · rcases h.2.2 with h3 | h3
      · congr 1; omega
      · congr 1; omega
  rw [this]
  exact h.2.1

theorem all_end' {base be oe len : Nat} {w wr : World} {xs vs zs : List Value} {k : Nat} (hl : vs.length = len) (hz : zs = xs ++ [.int .i64 len] ++ vs.take (200000 - (xs.length + 1))) (h : AllR base be oe w xs vs k wr) (hx : xs.length + 1 ≤ 200000) (hk : k ≤ vs.length) (he : k = vs.length ∨ 200000 ≤ xs.length + 1 + k) :
    EyeOut base be oe w zs (.returned (.tuple #[])) wr := by
  subst hz; exact all_end hl h hx hk he
set_option maxRecDepth 100000 in
set_option maxHeartbeats 3200000 in
theorem all48 (base be oe bc oc len cap : Nat) (xs vs : List Value) (w : World) (h : EyeSt w base be oe xs) (hb : bc < base) (hne : bc ≠ be)
    (hl : vs.length = len) (hml : len ≤ maxLen) (hlc : len ≤ cap) (hc : ∀ j u, vs[j]? = some u → w.cell? ⟨bc, oc + j, none⟩ = some u) (hi : ∀ u ∈ vs, ∃ i, u = .int .i64 i) (hn : xs.length + 1 ≤ 200000) :
    Calls prog 48 #[.pointer (some ⟨be, oe, none⟩), .slice (some ⟨bc, oc, none⟩) len cap, .func (.func 49) #[] #[]] w (EyeOut base be oe w (xs ++ [.int .i64 len] ++ vs.take (200000 - (xs.length + 1)))) := by
  obtain ⟨ov, hN, hown⟩ := h.row
  have hF := h.fz
  have hbase := h.le
  have hlt := h.lt
  obtain ⟨i0, hi0, hz0, hz1, hz2⟩ := info_parts info3
  have le := World.block_lt_of_cell? w _ hN
  have ae : ov.ownBlock ≠ some be := by
    rcases hown.2 with ⟨rfl, _⟩ | ⟨g, cap, cur, rfl, hb, _⟩
    · simp [Value.ownBlock]
    · simp only [Value.ownBlock]; intro he; cases he; omega
  have hFa : ∀ c t, (w.alloc (.cells c t)).frozen? ⟨be, oe, none⟩ = false := fun c t => by
    rw [frozen?_alloc_cells]; exact hF
  have hCa : ∀ c t, (w.alloc (.cells c t)).cell? ⟨be, oe, none⟩ = some ov := fun c t => by
    rw [World.cell?_alloc_lt _ _ _ (by simpa using le)]; exact hN
  have H : Hid (EyeSt w base be oe xs) := h
  have HL : Hid ((xs ++ [Value.int .i64 len]).length = xs.length + 1) := by show _ = _; simp
  have HC : Hid (∀ j u, vs[j]? = some u → w.cell? ⟨bc, oc + j, none⟩ = some u) := hc
  have HI : Hid (∀ u ∈ vs, ∃ i, u = .int .i64 i) := hi
  have HV : Hid (vs.length = len) := hl
  obtain ⟨zs, hzs⟩ : ∃ zs, zs = xs ++ [.int .i64 len] ++ vs.take (200000 - (xs.length + 1)) := ⟨_, rfl⟩
  rw [← hzs]
  have HZ := Go.Lib.hid hzs
  clear h hc hi hl hzs
  go_enter func48, ntmps48
  go_wp2_with (at_builtin; refine wpList_append_lies _ rfl _ _ _ rfl base 3 i0 _ 1 8 underlying44 hi0 hz0 hz1 hz2 rfl (by omega) ov xs.length xs rfl (hown.alloc _) ⟨w.heap.size, 0, none⟩ 1 1 [.int .i64 len] rfl rfl (World.news_of_block (cs := #[.int .i64 len]) (t := 3) (fr := (0, 0)) (heap_alloc_new w _)) (by simp [Value.oneCell']) (by omega) (by unfold maxLen; omega) (by omega) (by simp; omega) (w.heap.size + 1) (by simp) ?_)
  intro gg cap1 w1 hown1 hgrow hat hlt1
  have hf1 := (hgrow.frozen_far ⟨be, oe, none⟩ (by simp; omega) (Ne.symm ae)).trans (hFa _ _)
  have hc1 := (hgrow.cell_far ⟨be, oe, none⟩ (by simp; omega) (Ne.symm ae)).trans (hCa _ _)
  have H0 : Hid (AllR base be oe w xs vs 0 (w1.setCell ⟨be, oe, none⟩ (.slice (some ⟨gg, 0, none⟩) (xs.length + 1) cap1))) := by
    have hd := eye_done (ys := xs ++ [.int .i64 len]) H.out hN hown ((Below.refl _ _).alloc (Nat.le_refl _) _) hgrow (by rw [HL.out]; exact hown1)
    refine ⟨hd.1, ?_, Or.inr rfl⟩
    rw [HV.out]
    simpa using hd.2
  unfold maxLen at hml
  clear hF hown hN hat hFa hCa hgrow hown1
  go_wp2
  clear hf1 hc1 hlt1
  go_loopw [6] (fun i wr => ∃ k : Nat, k ≤ len ∧ i = .int .i64 k ∧ Hid (AllR base be oe w xs vs k wr)) (fun i _ => len - (intOf i).toNat)
  case atStart => exact ⟨0, Nat.zero_le _, rfl, H0⟩
  case round =>
    obtain ⟨k, hk, rfl, hr⟩ := hrel
    obtain ⟨v, hv, ho⟩ := hr.out.2.1.row
    have hm0 : (xs ++ [Value.int .i64 vs.length] ++ vs.take k).length = xs.length + 1 + k := by
      simp only [List.length_append, List.length_take, List.length_cons, List.length_nil, HV.out]; omega
    obtain ⟨m, hm⟩ : ∃ m, m = (xs ++ [Value.int .i64 vs.length] ++ vs.take k).length := ⟨_, rfl⟩
    rw [← hm] at ho hm0
    obtain ⟨g, cap2, rfl, _, _⟩ := ho.form (by omega)
    have HM : Hid (m = xs.length + 1 + k) := hm0
    clear ho hm hm0
    have HN := Go.Lib.hid hn
    clear hn
    by_cases hlt : k < len
    · by_cases h2 : m < 200000
      · have HM2 := Go.Lib.hid h2
        have hd : decide ((m : Int) < 200000) = true := decide_eq_true (by omega)
        clear h2
        obtain ⟨u, hu⟩ : ∃ u, vs[k]? = some u := by
          rw [List.getElem?_eq_getElem (by rw [HV.out]; exact hlt)]; exact ⟨_, rfl⟩
        obtain ⟨z, hz⟩ := HI.out u (List.mem_of_getElem? hu)
        have HU : Hid (vs[k]? = some (.int .i64 z)) := by show _ = _; rw [hu, hz]
        have hcell : Hid (wr.cell? ⟨bc, oc + k, none⟩ = some (.int .i64 z)) := (hr.out.1.cell hb hne).trans (HC.out k _ HU.out)
        clear hu hz
        go_wp2_with fail
        refine (num49 base be oe bc (oc + k) z (xs ++ [.int .i64 vs.length] ++ vs.take k) _ hr.out.2.1 hcell.out (by have := HM.out; have := HM2.out; have := HV.out; simp; omega)).mono ?_
        rintro e w' he
        obtain ⟨rfl, he⟩ := he
        have H2 : Hid (AllR base be oe w xs vs (k + 1) w') := (all_next (e := .returned (.tuple #[])) hr.out HU.out (by have := HM.out; have := HM2.out; omega) ⟨rfl, he⟩).2
        clear he
        go_wp2
        go_roundw
        case rel => exact ⟨k + 1, by omega, by go_num, H2⟩
        case measure => simp [intOf]; omega
      · have HM2 := Go.Lib.hid h2
        have hd : decide ((m : Int) < 200000) = false := decide_eq_false (by omega)
        clear h2
        go_wp2
        go_end0
        exact all_end' HV.out HZ.out hr.out HN.out (by rw [HV.out]; exact hk) (Or.inr (by have := HM.out; have := HM2.out; omega))
    · go_wp2
      go_end0
      exact all_end' HV.out HZ.out hr.out HN.out (by rw [HV.out]; exact hk) (Or.inl (by rw [HV.out]; omega))

set_option maxRecDepth 100000 in
set_option maxHeartbeats 3200000 in
theorem all48nil (base be oe : Nat) (xs : List Value) (w : World) (h : EyeSt w base be oe xs) (hn : xs.length + 1 ≤ 200000) :
    Calls prog 48 #[.pointer (some ⟨be, oe, none⟩), .slice none 0 0, .func (.func 49) #[] #[]] w (EyeOut base be oe w (xs ++ [.int .i64 0])) := by
  obtain ⟨ov, hN, hown⟩ := h.row
  have hF := h.fz
  have hbase := h.le
  have hlt := h.lt
  obtain ⟨i0, hi0, hz0, hz1, hz2⟩ := info_parts info3
  have le := World.block_lt_of_cell? w _ hN
  have ae : ov.ownBlock ≠ some be := by
    rcases hown.2 with ⟨rfl, _⟩ | ⟨g, cap, cur, rfl, hb, _⟩
    · simp [Value.ownBlock]
    · simp only [Value.ownBlock]; intro he; cases he; omega
  have hFa : ∀ c t, (w.alloc (.cells c t)).frozen? ⟨be, oe, none⟩ = false := fun c t => by
    rw [frozen?_alloc_cells]; exact hF
  have hCa : ∀ c t, (w.alloc (.cells c t)).cell? ⟨be, oe, none⟩ = some ov := fun c t => by
    rw [World.cell?_alloc_lt _ _ _ (by simpa using le)]; exact hN
  have H : Hid (EyeSt w base be oe xs) := h
  have HL : Hid ((xs ++ [Value.int .i64 0]).length = xs.length + 1) := by show _ = _; simp
  clear h
  go_enter func48, ntmps48
  go_wp2_with (at_builtin; refine wpList_append_lies _ rfl _ _ _ rfl base 3 i0 _ 1 8 underlying44 hi0 hz0 hz1 hz2 rfl (by omega) ov xs.length xs rfl (hown.alloc _) ⟨w.heap.size, 0, none⟩ 1 1 [.int .i64 0] rfl rfl (World.news_of_block (cs := #[.int .i64 0]) (t := 3) (fr := (0, 0)) (heap_alloc_new w _)) (by simp [Value.oneCell']) (by omega) (by unfold maxLen; omega) (by omega) (by simp; omega) (w.heap.size + 1) (by simp) ?_)
  intro gg cap1 w1 hown1 hgrow hat hlt1
  have hf1 := (hgrow.frozen_far ⟨be, oe, none⟩ (by simp; omega) (Ne.symm ae)).trans (hFa _ _)
  have hc1 := (hgrow.cell_far ⟨be, oe, none⟩ (by simp; omega) (Ne.symm ae)).trans (hCa _ _)
  have hd0 : (But base be oe w (w1.setCell ⟨be, oe, none⟩ (.slice (some ⟨gg, 0, none⟩) (xs.length + 1) cap1)) ∧ EyeSt (w1.setCell ⟨be, oe, none⟩ (.slice (some ⟨gg, 0, none⟩) (xs.length + 1) cap1)) base be oe (xs ++ [.int .i64 0])) :=
    eye_done (ys := xs ++ [.int .i64 0]) H.out hN hown ((Below.refl _ _).alloc (Nat.le_refl _) _) hgrow (by rw [HL.out]; exact hown1)
  have hd := Go.Lib.hid hd0
  clear hd0
  clear hF hown hN hat hFa hCa hgrow hown1
  go_wp2
  clear hf1 hc1 hlt1
  go_loopw [6] (fun i wr => i = .int .i64 0 ∧ Hid (But base be oe w wr ∧ EyeSt wr base be oe (xs ++ [.int .i64 0]))) (fun _ _ => 0)
  case atStart => exact ⟨rfl, hd⟩
  case round =>
    obtain ⟨rfl, hr⟩ := hrel
    go_wp2
    go_end0
    exact ⟨rfl, hr.out⟩

/-! ### nums, seeArray -/
/-- a slice of integers: what it holds -/
def Ints (w : World) (base be : Nat) (v : Value) (vs : List Value) : Prop :=
  (v = .slice none 0 0 ∧ vs = []) ∨ ∃ bc oc len cap, v = .slice (some ⟨bc, oc, none⟩) len cap ∧ bc < base ∧ bc ≠ be ∧ vs.length = len ∧ len ≤ maxLen ∧ len ≤ cap ∧
    (∀ j u, vs[j]? = some u → w.cell? ⟨bc, oc + j, none⟩ = some u) ∧ ∀ u ∈ vs, ∃ i, u = .int .i64 i

theorem Ints.but {w w' : World} {base be oe : Nat} {v : Value} {vs : List Value} (h : Ints w base be v vs) (hb : But base be oe w w') : Ints w' base be v vs := by
  rcases h with h | ⟨bc, oc, len, cap, h1, h2, h3, h4, h5, h6, h7, h8⟩
  · exact .inl h
  · exact .inr ⟨bc, oc, len, cap, h1, h2, h3, h4, h5, h6, fun j u hu => (hb.cell (p := ⟨bc, oc + j, none⟩) h2 h3).trans (h7 j u hu), h8⟩

theorem all_any (base be oe : Nat) (v : Value) (xs vs : List Value) (w : World) (h : EyeSt w base be oe xs) (hv : Ints w base be v vs) (hn : xs.length + 1 ≤ 200000) :
    Calls prog 48 #[.pointer (some ⟨be, oe, none⟩), v, .func (.func 49) #[] #[]] w (EyeOut base be oe w (xs ++ [.int .i64 vs.length] ++ vs.take (200000 - (xs.length + 1)))) := by
  rcases hv with ⟨rfl, rfl⟩ | ⟨bc, oc, len, cap, rfl, h2, h3, h4, h5, h6, h7, h8⟩
  · simpa using all48nil base be oe xs w h hn
  · rw [h4]; exact all48 base be oe bc oc len cap xs vs w h h2 h3 h4 h5 h6 h7 h8 hn

set_option maxRecDepth 100000 in
theorem nums34 (base be oe bx ox : Nat) (v : Value) (xs vs : List Value) (w : World) (h : EyeSt w base be oe xs) (hx : w.cell? ⟨bx, ox, none⟩ = some v) (hv : Ints w base be v vs) (hn : xs.length + 1 ≤ 200000) :
    Calls prog 34 #[.pointer (some ⟨be, oe, none⟩), .pointer (some ⟨bx, ox, none⟩)] w (EyeOut base be oe w (xs ++ [.int .i64 vs.length] ++ vs.take (200000 - (xs.length + 1)))) := by
  have H : Hid (EyeSt w base be oe xs) := h
  have HV : Hid (Ints w base be v vs) := hv
  clear h hv
  go_enter func34, ntmps34
  go_wp2_with fail
  refine (all_any base be oe v xs vs w H.out HV.out hn).mono ?_
  rintro e w' he
  have HE : Hid (EyeOut base be oe w (xs ++ [.int .i64 vs.length] ++ vs.take (200000 - (xs.length + 1))) e w') := he
  obtain ⟨rfl, _⟩ := he
  go_wp2
  go_end0
  exact HE.out

def SeenA (k r a b : Int) (vs : List Value) : List Value := [.int .i64 k, .int .i64 r, .int .i64 a, .int .i64 b, .int .i64 vs.length] ++ vs.take 199995

set_option maxRecDepth 100000 in
set_option maxHeartbeats 1600000 in
theorem see10 (base be oe bx ox : Nat) (k r a b : Int) (v : Value) (vs : List Value) (w : World) (h : EyeSt w base be oe []) (hb : bx < base) (hne : bx ≠ be)
    (hk : w.cell? ⟨bx, ox, none⟩ = some (.int .i64 k)) (hr : w.cell? ⟨bx, ox + 1, none⟩ = some (.int .i64 r)) (hA : w.cell? ⟨bx, ox + 2, none⟩ = some (.int .i64 a)) (hB : w.cell? ⟨bx, ox + 3, none⟩ = some (.int .i64 b))
    (hx : w.cell? ⟨bx, ox + 4, none⟩ = some v) (hv : Ints w base be v vs) :
    Calls prog 10 #[.pointer (some ⟨be, oe, none⟩), .pointer (some ⟨bx, ox, none⟩)] w (EyeOut base be oe w (SeenA k r a b vs)) := by
  have H : Hid (EyeSt w base be oe []) := h
  have HV : Hid (Ints w base be v vs) := hv
  have HK := Go.Lib.hid hk
  have HR := Go.Lib.hid hr
  have HA := Go.Lib.hid hA
  have HB := Go.Lib.hid hB
  have HX := Go.Lib.hid hx
  clear h hv hk hr hA hB hx
  go_enter func10, ntmps10
  go_wp2_with fail
  refine (num32 base be oe bx ox k [] w H.out HK.out (by simp)).mono ?_
  rintro e w1 ⟨rfl, h1⟩
  have H1 := Go.Lib.hid h1
  clear h1
  go_wp2_with fail
  refine (num32 base be oe bx (ox + 1) r _ w1 H1.out.2 ((H1.out.1.cell hb hne).trans HR.out) (by simp)).mono ?_
  rintro e w2 ⟨rfl, h2⟩
  have H2 := Go.Lib.hid h2
  clear h2
  have HB2 := Go.Lib.hid (H1.out.1.trans H2.out.1)
  go_wp2_with fail
  refine (row33 base be oe bx (ox + 2) a b _ w2 H2.out.2 hb hne ((HB2.out.cell hb hne).trans HA.out) ((HB2.out.cell hb hne).trans HB.out) (by simp)).mono ?_
  rintro e w3 ⟨rfl, h3⟩
  have H3 := Go.Lib.hid h3
  clear h3
  have HB3 := Go.Lib.hid (HB2.out.trans H3.out.1)
  go_wp2_with fail
  refine (nums34 base be oe bx (ox + 4) v _ vs w3 H3.out.2 ((HB3.out.cell hb hne).trans HX.out) (HV.out.but HB3.out) (by simp)).mono ?_
  rintro e w4 ⟨rfl, h4⟩
  have H4 := Go.Lib.hid h4
  clear h4
  go_wp2
  go_end0
  exact ⟨rfl, HB3.out.trans H4.out.1, H4.out.2⟩
end Go.Proofs.Tryz

namespace Go.Proofs.Tryz
open Go.RowKit

def IntAt (w : World) (b i : Nat) : Prop := (∃ z, w.cell? ⟨b, i, none⟩ = some (.int .i64 z)) ∧ w.frozen? ⟨b, i, none⟩ = false

def Turned (w w' : World) (b : Nat) (S : Nat → Prop) : Prop :=
  ∀ arr ty fz, w.heap[b]? = some (.cells arr ty fz) → ∃ arr', w'.heap[b]? = some (.cells arr' ty fz) ∧ arr'.size = arr.size ∧ ∀ i, ¬ S i → arr'[i]? = arr[i]?

/-- below base nothing turns but the places of Z -/
structure MBut (base : Nat) (Z : Nat → Nat → Prop) (w w' : World) : Prop where
  os : w'.os = w.os
  tape : w'.tape = w.tape
  output : w'.output = w.output
  size : w.heap.size ≤ w'.heap.size
  block : ∀ k, k < base → (∀ i, ¬ Z k i) → w'.heap[k]? = w.heap[k]?
  turned : ∀ k, k < base → Turned w w' k (Z k)

theorem Turned.refl (w : World) (b : Nat) (S : Nat → Prop) : Turned w w b S := fun arr _ _ h => ⟨arr, h, rfl, fun _ _ => rfl⟩
theorem Turned.same {w w' : World} {b : Nat} (h : w'.heap[b]? = w.heap[b]?) (S : Nat → Prop) : Turned w w' b S := fun arr _ _ hh => ⟨arr, h.trans hh, rfl, fun _ _ => rfl⟩
theorem Turned.trans {a b c : World} {k : Nat} {S : Nat → Prop} (h : Turned a b k S) (g : Turned b c k S) : Turned a c k S := by
  intro arr ty fz hh
  obtain ⟨arr1, h1, s1, e1⟩ := h arr ty fz hh
  obtain ⟨arr2, h2, s2, e2⟩ := g arr1 ty fz h1
  exact ⟨arr2, h2, s2.trans s1, fun i hi => (e2 i hi).trans (e1 i hi)⟩
theorem Turned.mono {w w' : World} {k : Nat} {S S' : Nat → Prop} (h : Turned w w' k S) (hs : ∀ i, S i → S' i) : Turned w w' k S' := by
  intro arr ty fz hh
  obtain ⟨arr1, h1, s1, e1⟩ := h arr ty fz hh
  exact ⟨arr1, h1, s1, fun i hi => e1 i fun hx => hi (hs i hx)⟩
theorem Turned.setCell (w : World) (b o : Nat) (v : Value) (S : Nat → Prop) (hS : S o) : Turned w (w.setCell ⟨b, o, none⟩ v) b S := by
  intro arr ty fz hh
  refine ⟨arr.setIfInBounds o v, ?_, by simp, fun i hi => ?_⟩
  · simp only [World.setCell, Array.getElem?_modify, if_true, hh]; rfl
  · rw [Array.getElem?_setIfInBounds, if_neg (by rintro rfl; exact hi hS)]
theorem MBut.refl (base : Nat) (Z : Nat → Nat → Prop) (w : World) : MBut base Z w w := ⟨rfl, rfl, rfl, Nat.le_refl _, fun _ _ _ => rfl, fun _ _ => Turned.refl _ _ _⟩
theorem MBut.trans {base : Nat} {Z : Nat → Nat → Prop} {a b c : World} (h : MBut base Z a b) (k : MBut base Z b c) : MBut base Z a c :=
  ⟨k.os.trans h.os, k.tape.trans h.tape, k.output.trans h.output, Nat.le_trans h.size k.size, fun i hi hn => (k.block i hi hn).trans (h.block i hi hn), fun i hi => (h.turned i hi).trans (k.turned i hi)⟩
theorem MBut.mono {base : Nat} {Z Z' : Nat → Nat → Prop} {a b : World} (h : MBut base Z a b) (hz : ∀ k i, Z k i → Z' k i) : MBut base Z' a b :=
  ⟨h.os, h.tape, h.output, h.size, fun k hk hn => h.block k hk fun i hi => hn i (hz k i hi), fun k hk => (h.turned k hk).mono (hz k)⟩
theorem MBut.setCell {base : Nat} {Z : Nat → Nat → Prop} {a w : World} (h : MBut base Z a w) {b o : Nat} (hz : Z b o) (v : Value) : MBut base Z a (w.setCell ⟨b, o, none⟩ v) := by
  refine h.trans ⟨rfl, rfl, rfl, by simp, fun k _ hn => ?_, fun k _ => ?_⟩
  · exact Below.heap_setCell _ _ _ _ (by rintro rfl; exact hn o hz)
  · by_cases hk : k = b
    · subst hk; exact Turned.setCell _ _ _ _ _ hz
    · exact Turned.same (Below.heap_setCell _ _ _ _ hk) _
theorem MBut.below {base : Nat} {Z : Nat → Nat → Prop} {a w w' : World} (h : MBut base Z a w) (hb : Below base w w') : MBut base Z a w' :=
  h.trans ⟨hb.os, hb.tape, hb.output, hb.size, fun k hk _ => hb.block k hk, fun k hk => Turned.same (hb.block k hk) _⟩
theorem MBut.cell {base : Nat} {Z : Nat → Nat → Prop} {w w' : World} (h : MBut base Z w w') {b i : Nat} (hb : b < base) (hz : ¬ Z b i) {v : Value} (hv : w.cell? ⟨b, i, none⟩ = some v) : w'.cell? ⟨b, i, none⟩ = some v := by
  simp only [World.cell?] at hv ⊢
  cases ho : w.heap[b]? with
  | none => rw [ho] at hv; cases hv
  | some o =>
    rw [ho] at hv
    cases o with
    | cells arr ty fz =>
      obtain ⟨arr', h1, _, e1⟩ := h.turned b hb arr ty fz ho
      rw [h1]
      simp only at hv ⊢
      rw [e1 i hz]; exact hv
    | _ => simp at hv
theorem MBut.frozen {base : Nat} {Z : Nat → Nat → Prop} {w w' : World} (h : MBut base Z w w') {b i : Nat} (hb : b < base) {v : Value} {j : Nat} (hv : w.cell? ⟨b, j, none⟩ = some v) (hf : w.frozen? ⟨b, i, none⟩ = false) : w'.frozen? ⟨b, i, none⟩ = false := by
  simp only [World.cell?] at hv
  simp only [World.frozen?] at hf ⊢
  cases ho : w.heap[b]? with
  | none => rw [ho] at hv; cases hv
  | some o =>
    rw [ho] at hv hf
    cases o with
    | cells arr ty fz =>
      obtain ⟨arr', h1, _, e1⟩ := h.turned b hb arr ty fz ho
      rw [h1]; exact hf
    | _ => simp at hv
theorem MBut.intAt {base : Nat} {Z : Nat → Nat → Prop} {w w' : World} (h : MBut base Z w w') {b i : Nat} (hb : b < base) (hz : ¬ Z b i) (hi : IntAt w b i) : IntAt w' b i := by
  obtain ⟨⟨z, hz1⟩, hf⟩ := hi
  exact ⟨⟨z, h.cell hb hz hz1⟩, h.frozen hb hz1 hf⟩

/-- an eye that marks, and how many numbers it has seen -/
structure MarkSt (w : World) (base be oe : Nat) (n : Nat) : Prop where
  lt : be < base
  le : base ≤ w.heap.size
  row : ∃ v xs, w.cell? ⟨be, oe, none⟩ = some v ∧ w.ownsRow base 3 1 v n xs ∧ ∀ u ∈ xs, ∃ i, u = .int .i64 i
  mark : w.cell? ⟨be, oe + 2, none⟩ = some (.bool true)
  at_ : IntAt w be (oe + 3)
  fz : w.frozen? ⟨be, oe, none⟩ = false

def ZE (be oe : Nat) (Z : Nat → Nat → Prop) (k i : Nat) : Prop := (k = be ∧ (i = oe ∨ i = oe + 3)) ∨ Z k i

def MarkOut (base be oe : Nat) (Z : Nat → Nat → Prop) (w : World) (n : Nat) (R : World → Prop) (e : Ending) (w' : World) : Prop :=
  e = .returned (.tuple #[]) ∧ MBut base (ZE be oe Z) w w' ∧ MarkSt w' base be oe n ∧ R w'

/-- behind two stores, an append and a store -/
theorem mark_done {base be oe bx ox n : Nat} {w w0 w1 : World} {v v' : Value} {xs : List Value} {z z' : Int} (h : MarkSt w base be oe n) (hb : bx < base) (hne : bx ≠ be) (hX : IntAt w bx ox)
    (ho : w.ownsRow base 3 1 v n xs) (hi : ∀ u ∈ xs, ∃ i, u = .int .i64 i)
    (h0 : Below w.heap.size ((w.setCell ⟨be, oe + 3, none⟩ (.int .i64 z)).setCell ⟨bx, ox, none⟩ (.int .i64 z)) w0) (hg : w0.grownBy w1 v.ownBlock)
    (hown : w1.ownsRow base 3 1 v' (n + 1) (xs ++ [.int .i64 z'])) :
    MBut base (ZE be oe fun k i => k = bx ∧ i = ox) w (w1.setCell ⟨be, oe, none⟩ v') ∧ MarkSt (w1.setCell ⟨be, oe, none⟩ v') base be oe (n + 1) ∧ IntAt (w1.setCell ⟨be, oe, none⟩ v') bx ox := by
  have hbase := h.le
  have hlt := h.lt
  have hrow : ∀ k, k < base → some k ≠ v.ownBlock := by
    intro k hk
    rcases ho.2 with ⟨rfl, _⟩ | ⟨g, cap, cur, rfl, hb, _⟩
    · simp [Value.ownBlock]
    · simp only [Value.ownBlock]; intro he; cases he; omega
  have hb1 : Below base ((w.setCell ⟨be, oe + 3, none⟩ (.int .i64 z)).setCell ⟨bx, ox, none⟩ (.int .i64 z)) w1 :=
    ⟨hg.os.trans h0.os, hg.tape.trans h0.tape, hg.output.trans h0.output, Nat.le_trans h0.size hg.size,
      fun k hk => (hg.block k (Nat.lt_of_lt_of_le (by simpa using Nat.lt_of_lt_of_le hk hbase) h0.size) (hrow k hk)).trans (h0.block k (by omega))⟩
  have hm : MBut base (ZE be oe fun k i => k = bx ∧ i = ox) w w1 :=
    (((MBut.refl base _ w).setCell (Or.inl ⟨rfl, Or.inr rfl⟩) _).setCell (Or.inr ⟨rfl, rfl⟩) _).below hb1
  have hmm := hm.setCell (b := be) (o := oe) (Or.inl ⟨rfl, Or.inl rfl⟩) v'
  obtain ⟨⟨x0, hx0⟩, hxf⟩ := hX
  obtain ⟨⟨a0, ha0⟩, haf⟩ := h.at_
  obtain ⟨e0, es0, he0, _⟩ := h.row
  have c1 : ((w.setCell ⟨be, oe + 3, none⟩ (.int .i64 z)).setCell ⟨bx, ox, none⟩ (.int .i64 z)).cell? ⟨bx, ox, none⟩ = some (.int .i64 z) :=
    World.cell?_setCell_same _ _ _ ((World.cell?_setCell_other _ _ _ _ (by intro e; injection e; omega)).trans hx0)
  have c2 : ((w.setCell ⟨be, oe + 3, none⟩ (.int .i64 z)).setCell ⟨bx, ox, none⟩ (.int .i64 z)).cell? ⟨be, oe + 3, none⟩ = some (.int .i64 z) :=
    (World.cell?_setCell_other _ _ _ _ (by intro e; injection e; omega)).trans (World.cell?_setCell_same _ _ _ ha0)
  have c3 : w1.cell? ⟨be, oe, none⟩ = some e0 :=
    (hb1.cell (p := ⟨be, oe, none⟩) hlt).trans ((World.cell?_setCell_other _ _ _ _ (by intro e; injection e; omega)).trans ((World.cell?_setCell_other _ _ _ _ (by intro e; injection e; omega)).trans he0))
  refine ⟨hmm, ⟨hlt, by simp only [World.size_setCell]; exact Nat.le_trans (by simpa using hbase) (hb1.size), ⟨v', _, World.cell?_setCell_same _ _ _ c3, ownsRow_setCell_below hown hlt v', ?_⟩, ?_, ?_, ?_⟩, ?_⟩
  · intro u hu
    rcases List.mem_append.1 hu with hu | hu
    · exact hi u hu
    · exact ⟨z', by simpa using hu⟩
  · exact hmm.cell hlt (by rintro (⟨_, h1 | h1⟩ | ⟨h1, _⟩) <;> omega) h.mark
  · refine ⟨⟨z, ?_⟩, hmm.frozen hlt ha0 haf⟩
    exact (World.cell?_setCell_other _ _ _ _ (by intro e; injection e; omega)).trans ((hb1.cell (p := ⟨be, oe + 3, none⟩) hlt).trans c2)
  · exact hmm.frozen hlt he0 h.fz
  · refine ⟨⟨z, ?_⟩, hmm.frozen hb hx0 hxf⟩
    exact (World.cell?_setCell_other _ _ _ _ (by intro e; injection e; omega)).trans ((hb1.cell (p := ⟨bx, ox, none⟩) hb).trans c1)

set_option maxRecDepth 100000 in
set_option maxHeartbeats 3200000 in
theorem num49m (base be oe bx ox n : Nat) (w : World) (h : MarkSt w base be oe n) (hb : bx < base) (hne : bx ≠ be) (hX : IntAt w bx ox) (hn : n + 1 ≤ 300000) :
    Calls prog 49 #[.pointer (some ⟨be, oe, none⟩), .pointer (some ⟨bx, ox, none⟩)] w (MarkOut base be oe (fun k i => k = bx ∧ i = ox) w (n + 1) (fun w' => IntAt w' bx ox)) := by
  obtain ⟨ov, xs, hN, hown, hint⟩ := h.row
  obtain ⟨⟨x0, hx0⟩, hxf⟩ := hX
  obtain ⟨⟨a0, ha0⟩, haf⟩ := h.at_
  have hM := h.mark
  have hF := h.fz
  have hbase := h.le
  have hlt := h.lt
  obtain ⟨i0, hi0, hz0, hz1, hz2⟩ := info_parts info3
  have le := World.block_lt_of_cell? w _ hN
  have ae : ov.ownBlock ≠ some be := by
    rcases hown.2 with ⟨rfl, _⟩ | ⟨g, cap, cur, rfl, hb, _⟩
    · simp [Value.ownBlock]
    · simp only [Value.ownBlock]; intro he; cases he; omega
  have H : Hid (MarkSt w base be oe n) := h
  have HX0 := Go.Lib.hid hx0
  have HXF := Go.Lib.hid hxf
  have HI : Hid (∀ u ∈ xs, ∃ i, u = .int .i64 i) := hint
  clear h hint
  go_enter func49, ntmps49
  go_wp2_with fail
  generalize wrap64 (a0 + 1) = z
  generalize hW : ((w.setCell ⟨be, oe + 3, none⟩ (.int .i64 z)).setCell ⟨bx, ox, none⟩ (.int .i64 z)) = w2
  have hN2 : w2.cell? ⟨be, oe, none⟩ = some ov := by
    rw [← hW]; exact (World.cell?_setCell_other _ _ _ _ (by intro e; injection e; omega)).trans ((World.cell?_setCell_other _ _ _ _ (by intro e; injection e; omega)).trans hN)
  have hX2 : w2.cell? ⟨bx, ox, none⟩ = some (.int .i64 z) := by
    rw [← hW]; exact World.cell?_setCell_same _ _ _ ((World.cell?_setCell_other _ _ _ _ (by intro e; injection e; omega)).trans hx0)
  have hF2 : w2.frozen? ⟨be, oe, none⟩ = false := by rw [← hW]; simpa using hF
  have hown2 : w2.ownsRow base 3 1 ov n xs := by rw [← hW]; exact ownsRow_setCell_below (ownsRow_setCell_below hown hlt _) hb _
  have hs2 : w2.heap.size = w.heap.size := by rw [← hW]; simp
  have le2 := World.block_lt_of_cell? w2 _ hN2
  have HW := Go.Lib.hid hW
  clear hW hx0 hxf ha0 haf hM hF
  have HO := Go.Lib.hid hown
  clear hown
  have HN := Go.Lib.hid hN
  clear hN
  have hbase2 : base ≤ w2.heap.size := by rw [hs2]; exact hbase
  clear hs2
  have hFa : ∀ c t, (w2.alloc (.cells c t)).drew.frozen? ⟨be, oe, none⟩ = false := fun c t => by
    show (w2.alloc (.cells c t)).frozen? _ = _
    rw [frozen?_alloc_cells]; exact hF2
  have hCa : ∀ c t, (w2.alloc (.cells c t)).drew.cell? ⟨be, oe, none⟩ = some ov := fun c t => by
    show (w2.alloc (.cells c t)).cell? _ = _
    rw [World.cell?_alloc_lt _ _ _ (by simpa using le2)]; exact hN2
  have HL : Hid ((xs ++ [Value.int .i64 z]).length = xs.length + 1) := by show _ = _; simp
  go_region_law ((refine step_append_lies _ (by rfl) _ _ _ (by rfl) base 3 i0 _ 1 8 underlying44 hi0 hz0 hz1 hz2 rfl (by omega) ov n xs (by rfl) ((hown2.alloc _).drew) ⟨w2.heap.size, 0, none⟩ 1 1 [.int .i64 z] (by rfl) (by rfl) (World.news_of_block (cs := #[.int .i64 z]) (t := 3) (fr := (0, 0)) (heap_alloc_new w2 _)) (by simp [Value.oneCell']) (by omega) (by unfold maxLen; omega) (by omega) (by simp; omega) (w2.heap.size + 1) (by simp) ?_; intro gg cap w1 hown1 hgrow hat hlt1; have hf1 := (hgrow.frozen_far ⟨be, oe, none⟩ (by simp; omega) (Ne.symm ae)).trans (hFa _ _); have hc1 := (hgrow.cell_far ⟨be, oe, none⟩ (by simp; omega) (Ne.symm ae)).trans (hCa _ _)))
  all_goals
    go_wp2
    go_end0
    have hd := mark_done (z := z) H.out hb hne ⟨⟨x0, HX0.out⟩, HXF.out⟩ HO.out HI.out (w0 := (w2.alloc _).drew) (by rw [HW.out]; exact (((Below.refl _ _).alloc (by rw [← HW.out]; simp) _).drew)) hgrow hown1
    exact ⟨rfl, hd⟩

set_option maxRecDepth 100000 in
set_option maxHeartbeats 3200000 in
theorem num32m (base be oe bx ox n : Nat) (w : World) (h : MarkSt w base be oe n) (hb : bx < base) (hne : bx ≠ be) (hX : IntAt w bx ox) (hn : n + 1 ≤ 300000) :
    Calls prog 32 #[.pointer (some ⟨be, oe, none⟩), .pointer (some ⟨bx, ox, none⟩)] w (MarkOut base be oe (fun k i => k = bx ∧ i = ox) w (n + 1) (fun w' => IntAt w' bx ox)) := by
  obtain ⟨ov, xs, hN, hown, hint⟩ := h.row
  obtain ⟨⟨x0, hx0⟩, hxf⟩ := hX
  obtain ⟨⟨a0, ha0⟩, haf⟩ := h.at_
  have hM := h.mark
  have hF := h.fz
  have hbase := h.le
  have hlt := h.lt
  obtain ⟨i0, hi0, hz0, hz1, hz2⟩ := info_parts info3
  have le := World.block_lt_of_cell? w _ hN
  have ae : ov.ownBlock ≠ some be := by
    rcases hown.2 with ⟨rfl, _⟩ | ⟨g, cap, cur, rfl, hb, _⟩
    · simp [Value.ownBlock]
    · simp only [Value.ownBlock]; intro he; cases he; omega
  have H : Hid (MarkSt w base be oe n) := h
  have HX0 := Go.Lib.hid hx0
  have HXF := Go.Lib.hid hxf
  have HI : Hid (∀ u ∈ xs, ∃ i, u = .int .i64 i) := hint
  clear h hint
  go_enter func32, ntmps32
  go_wp2_with fail
  generalize wrap64 (a0 + 1) = z
  generalize hW : ((w.setCell ⟨be, oe + 3, none⟩ (.int .i64 z)).setCell ⟨bx, ox, none⟩ (.int .i64 z)) = w2
  have hN2 : w2.cell? ⟨be, oe, none⟩ = some ov := by
    rw [← hW]; exact (World.cell?_setCell_other _ _ _ _ (by intro e; injection e; omega)).trans ((World.cell?_setCell_other _ _ _ _ (by intro e; injection e; omega)).trans hN)
  have hX2 : w2.cell? ⟨bx, ox, none⟩ = some (.int .i64 z) := by
    rw [← hW]; exact World.cell?_setCell_same _ _ _ ((World.cell?_setCell_other _ _ _ _ (by intro e; injection e; omega)).trans hx0)
  have hF2 : w2.frozen? ⟨be, oe, none⟩ = false := by rw [← hW]; simpa using hF
  have hown2 : w2.ownsRow base 3 1 ov n xs := by rw [← hW]; exact ownsRow_setCell_below (ownsRow_setCell_below hown hlt _) hb _
  have hs2 : w2.heap.size = w.heap.size := by rw [← hW]; simp
  have le2 := World.block_lt_of_cell? w2 _ hN2
  have HW := Go.Lib.hid hW
  clear hW hx0 hxf ha0 haf hM hF
  have HO := Go.Lib.hid hown
  clear hown
  have HN := Go.Lib.hid hN
  clear hN
  have hbase2 : base ≤ w2.heap.size := by rw [hs2]; exact hbase
  clear hs2
  have hFa : ∀ c t, (w2.alloc (.cells c t)).drew.frozen? ⟨be, oe, none⟩ = false := fun c t => by
    show (w2.alloc (.cells c t)).frozen? _ = _
    rw [frozen?_alloc_cells]; exact hF2
  have hCa : ∀ c t, (w2.alloc (.cells c t)).drew.cell? ⟨be, oe, none⟩ = some ov := fun c t => by
    show (w2.alloc (.cells c t)).cell? _ = _
    rw [World.cell?_alloc_lt _ _ _ (by simpa using le2)]; exact hN2
  have HL : Hid ((xs ++ [Value.int .i64 z]).length = xs.length + 1) := by show _ = _; simp
  go_region_law ((refine step_append_lies _ (by rfl) _ _ _ (by rfl) base 3 i0 _ 1 8 underlying44 hi0 hz0 hz1 hz2 rfl (by omega) ov n xs (by rfl) ((hown2.alloc _).drew) ⟨w2.heap.size, 0, none⟩ 1 1 [.int .i64 z] (by rfl) (by rfl) (World.news_of_block (cs := #[.int .i64 z]) (t := 3) (fr := (0, 0)) (heap_alloc_new w2 _)) (by simp [Value.oneCell']) (by omega) (by unfold maxLen; omega) (by omega) (by simp; omega) (w2.heap.size + 1) (by simp) ?_; intro gg cap w1 hown1 hgrow hat hlt1; have hf1 := (hgrow.frozen_far ⟨be, oe, none⟩ (by simp; omega) (Ne.symm ae)).trans (hFa _ _); have hc1 := (hgrow.cell_far ⟨be, oe, none⟩ (by simp; omega) (Ne.symm ae)).trans (hCa _ _)))
  all_goals
    go_wp2
    go_end0
    have hd := mark_done (z := z) H.out hb hne ⟨⟨x0, HX0.out⟩, HXF.out⟩ HO.out HI.out (w0 := (w2.alloc _).drew) (by rw [HW.out]; exact (((Below.refl _ _).alloc (by rw [← HW.out]; simp) _).drew)) hgrow hown1
    exact ⟨rfl, hd⟩
end Go.Proofs.Tryz
