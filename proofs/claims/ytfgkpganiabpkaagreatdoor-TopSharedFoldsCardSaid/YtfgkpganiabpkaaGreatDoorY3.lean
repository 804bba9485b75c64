import Derived.Test.YtfgkpganiabpkaaGreatDoorY2
import Derived.BigQuiet
import Derived.Deep.QuietTactic
/- Proved in this claim (its last text holds the theorem): the given statement TopSharedFoldsCardSaid, with no condition of ours. This text is one part of that proof: contracts of the functions that the statement's code calls. -/
set_option linter.all false
namespace Go.Proofs.Tryz
open Go.RowKit

def R2 (base be oe bx ox n : Nat) (w : World) (k : Nat) (wr : World) : Prop :=
  MBut base (ZE be oe fun k i => k = bx ∧ (i = ox ∨ i = ox + 1)) w wr ∧ MarkSt wr base be oe (n + k) ∧ IntAt wr bx ox ∧ IntAt wr bx (ox + 1)

theorem r2_next {base be oe bx ox n k : Nat} {w wr w' : World} (h : R2 base be oe bx ox n w k wr) (hb : bx < base) (hne : bx ≠ be) (p : Nat) (hp : p = ox ∨ p = ox + 1) {e : Ending}
    (hd : MarkOut base be oe (fun k i => k = bx ∧ i = p) wr (n + k + 1) (fun w' => IntAt w' bx p) e w') : e = .returned (.tuple #[]) ∧ R2 base be oe bx ox n w (k + 1) w' := by
  obtain ⟨h1, h2, h3, h4⟩ := hd
  refine ⟨h1, h.1.trans (h2.mono ?_), h3, ?_, ?_⟩
  · rintro k i (hx | ⟨hx, rfl⟩)
    · exact .inl hx
    · exact .inr ⟨hx, hp⟩
  · rcases hp with rfl | rfl
    · exact h4
    · exact h2.intAt hb (by rintro (⟨hx, _⟩ | ⟨_, hx⟩) <;> omega) h.2.2.1
  · rcases hp with rfl | rfl
    · exact h2.intAt hb (by rintro (⟨hx, _⟩ | ⟨_, hx⟩) <;> omega) h.2.2.2
    · exact h4

set_option maxRecDepth 100000 in
set_option maxHeartbeats 1600000 in
theorem row33m (base be oe bx ox n : Nat) (w : World) (h : MarkSt w base be oe n) (hb : bx < base) (hne : bx ≠ be) (hA : IntAt w bx ox) (hB : IntAt w bx (ox + 1)) (hn : n + 2 ≤ 300000) :
    Calls prog 33 #[.pointer (some ⟨be, oe, none⟩), .pointer (some ⟨bx, ox, none⟩)] w (MarkOut base be oe (fun k i => k = bx ∧ (i = ox ∨ i = ox + 1)) w (n + 2) (fun w' => IntAt w' bx ox ∧ IntAt w' bx (ox + 1))) := by
  have H : Hid (R2 base be oe bx ox n w 0 w) := ⟨MBut.refl _ _ _, h, hA, hB⟩
  clear h hA hB
  go_enter func33, ntmps33
  go_wp2
  go_loopw [4] (fun i wr => ∃ k : Nat, k ≤ 2 ∧ i = .int .i64 k ∧ Hid (R2 base be oe bx ox n w k wr)) (fun i _ => 2 - (intOf i).toNat)
  case atStart => exact ⟨0, Nat.zero_le _, rfl, H⟩
  case round =>
    obtain ⟨k, hk, rfl, hr⟩ := hrel
    rcases (by omega : k = 0 ∨ k = 1 ∨ k = 2) with hk0 | hk0 | hk0
    · obtain rfl := hk0
      go_wp2_with fail
      refine (num32m base be oe bx ox (n + 0) wr hr.out.2.1 hb hne hr.out.2.2.1 (by omega)).mono ?_
      rintro e w' he
      have H1 := r2_next hr.out hb hne ox (.inl rfl) he
      clear he
      obtain ⟨rfl, H1⟩ := H1
      have H2 := Go.Lib.hid H1
      clear H1
      go_wp2
      go_roundw
      case rel => exact ⟨1, by omega, by go_num, H2⟩
      case measure => simp [intOf]
    · obtain rfl := hk0
      go_wp2_with fail
      refine (num32m base be oe bx (ox + 1) (n + 1) wr hr.out.2.1 hb hne hr.out.2.2.2 (by omega)).mono ?_
      rintro e w' he
      have H1 := r2_next hr.out hb hne (ox + 1) (.inr rfl) he
      clear he
      obtain ⟨rfl, H1⟩ := H1
      have H2 := Go.Lib.hid H1
      clear H1
      go_wp2
      go_roundw
      case rel => exact ⟨2, by omega, by go_num, H2⟩
      case measure => simp [intOf]
    · obtain rfl := hk0
      go_wp2
      go_end0
      exact ⟨rfl, hr.out⟩

/-! ### all -/
def RA (base be oe bc oc len n : Nat) (w : World) (k : Nat) (wr : World) : Prop :=
  MBut base (ZE be oe fun k i => k = bc ∧ oc ≤ i ∧ i < oc + len) w wr ∧ MarkSt wr base be oe (n + k) ∧ (∀ j, j < len → IntAt wr bc (oc + j)) ∧ (n + k ≤ 200000 ∨ k = 0)

theorem ra_next {base be oe bc oc len n k : Nat} {w wr w' : World} (h : RA base be oe bc oc len n w k wr) (hb : bc < base) (hne : bc ≠ be) (hk : k < len) (hl : n + k < 200000) {e : Ending}
    (hd : MarkOut base be oe (fun b i => b = bc ∧ i = oc + k) wr (n + k + 1) (fun w' => IntAt w' bc (oc + k)) e w') : e = .returned (.tuple #[]) ∧ RA base be oe bc oc len n w (k + 1) w' := by
  obtain ⟨h1, h2, h3, h4⟩ := hd
  refine ⟨h1, h.1.trans (h2.mono ?_), h3, fun j hj => ?_, .inl (by omega)⟩
  · rintro k i (hx | ⟨hx, rfl⟩)
    · exact .inl hx
    · exact .inr ⟨hx, by omega, by omega⟩
  · by_cases hjk : j = k
    · subst hjk; exact h4
    · exact h2.intAt hb (by rintro (⟨hx, _⟩ | ⟨_, hx⟩) <;> omega) (h.2.2.1 j hj)

theorem mark_app {base be oe n : Nat} {w w0 w1 : World} {v v' : Value} {xs : List Value} {z' : Int} (h : MarkSt w base be oe n)
    (ho : w.ownsRow base 3 1 v n xs) (hi : ∀ u ∈ xs, ∃ i, u = .int .i64 i) (h0 : Below w.heap.size w w0) (hg : w0.grownBy w1 v.ownBlock)
    (hown : w1.ownsRow base 3 1 v' (n + 1) (xs ++ [.int .i64 z'])) :
    MBut base (ZE be oe fun _ _ => False) w (w1.setCell ⟨be, oe, none⟩ v') ∧ MarkSt (w1.setCell ⟨be, oe, none⟩ v') base be oe (n + 1) := by
  have hbase := h.le
  have hlt := h.lt
  have hrow : ∀ k, k < base → some k ≠ v.ownBlock := by
    intro k hk
    rcases ho.2 with ⟨rfl, _⟩ | ⟨g, cap, cur, rfl, hb, _⟩
    · simp [Value.ownBlock]
    · simp only [Value.ownBlock]; intro he; cases he; omega
  have hb1 : Below base w w1 :=
    ⟨hg.os.trans h0.os, hg.tape.trans h0.tape, hg.output.trans h0.output, Nat.le_trans h0.size hg.size,
      fun k hk => (hg.block k (Nat.lt_of_lt_of_le (Nat.lt_of_lt_of_le hk hbase) h0.size) (hrow k hk)).trans (h0.block k (by omega))⟩
  have hmm : MBut base (ZE be oe fun _ _ => False) w (w1.setCell ⟨be, oe, none⟩ v') := ((MBut.refl base _ w).below hb1).setCell (Or.inl ⟨rfl, Or.inl rfl⟩) v'
  obtain ⟨⟨a0, ha0⟩, haf⟩ := h.at_
  obtain ⟨e0, es0, he0, _⟩ := h.row
  have c3 : w1.cell? ⟨be, oe, none⟩ = some e0 := (hb1.cell (p := ⟨be, oe, none⟩) hlt).trans he0
  refine ⟨hmm, ⟨hlt, by simp only [World.size_setCell]; exact Nat.le_trans hbase hb1.size, ⟨v', _, World.cell?_setCell_same _ _ _ c3, ownsRow_setCell_below hown hlt v', ?_⟩, ?_, ?_, ?_⟩⟩
  · intro u hu
    rcases List.mem_append.1 hu with hu | hu
    · exact hi u hu
    · exact ⟨z', by simpa using hu⟩
  · exact hmm.cell hlt (by rintro (⟨_, h1 | h1⟩ | h1) <;> omega) h.mark
  · exact ⟨⟨a0, (World.cell?_setCell_other _ _ _ _ (by intro e; injection e; omega)).trans ((hb1.cell (p := ⟨be, oe + 3, none⟩) hlt).trans ha0)⟩, hmm.frozen hlt ha0 haf⟩
  · exact hmm.frozen hlt he0 h.fz

def MarkEnd (base be oe : Nat) (Z : Nat → Nat → Prop) (w : World) (R : World → Prop) (e : Ending) (w' : World) : Prop :=
  e = .returned (.tuple #[]) ∧ MBut base (ZE be oe Z) w w' ∧ (∃ n, MarkSt w' base be oe (n + 1)) ∧ R w'

theorem ra_end {base be oe bc oc len n k : Nat} {w wr : World} (h : RA base be oe bc oc len (n + 1) w k wr) :
    MarkEnd base be oe (fun k i => k = bc ∧ oc ≤ i ∧ i < oc + len) w (fun w' => ∀ j, j < len → IntAt w' bc (oc + j)) (.returned (.tuple #[])) wr :=
  ⟨rfl, h.1, ⟨n + k, by rw [show n + k + 1 = n + 1 + k by omega]; exact h.2.1⟩, h.2.2.1⟩

set_option maxRecDepth 100000 in
set_option maxHeartbeats 3200000 in
theorem all48m (base be oe bc oc len cap n : Nat) (w : World) (h : MarkSt w base be oe n) (hb : bc < base) (hne : bc ≠ be)
    (hml : len ≤ maxLen) (hc : ∀ j, j < len → IntAt w bc (oc + j)) (hn : n + 1 ≤ 200000) :
    Calls prog 48 #[.pointer (some ⟨be, oe, none⟩), .slice (some ⟨bc, oc, none⟩) len cap, .func (.func 49) #[] #[]] w
      (MarkEnd base be oe (fun k i => k = bc ∧ oc ≤ i ∧ i < oc + len) w (fun w' => ∀ j, j < len → IntAt w' bc (oc + j))) := by
  obtain ⟨ov, xs, hN, hown, hint⟩ := h.row
  have hF := h.fz
  have hbase := h.le
  have hlt := h.lt
  obtain ⟨i0, hi0, hz0, hz1, hz2⟩ := info_parts info3
  have le := World.block_lt_of_cell? w _ hN
  have ae : ov.ownBlock ≠ some be := by
    rcases hown.2 with ⟨rfl, _⟩ | ⟨g, cap, cur, rfl, hb, _⟩
    · simp [Value.ownBlock]
    · simp only [Value.ownBlock]; intro he; cases he; omega
  have hFa : ∀ c t, (w.alloc (.cells c t)).frozen? ⟨be, oe, none⟩ = false := fun c t => by
    rw [frozen?_alloc_cells]; exact hF
  have hCa : ∀ c t, (w.alloc (.cells c t)).cell? ⟨be, oe, none⟩ = some ov := fun c t => by
    rw [World.cell?_alloc_lt _ _ _ (by simpa using le)]; exact hN
  have H := Go.Lib.hid h
  have HI := Go.Lib.hid hint
  have HC := Go.Lib.hid hc
  clear h hc hint
  go_enter func48, ntmps48
  go_wp2_with (at_builtin; refine wpList_append_lies _ rfl _ _ _ rfl base 3 i0 _ 1 8 underlying44 hi0 hz0 hz1 hz2 rfl (by omega) ov n xs rfl (hown.alloc _) ⟨w.heap.size, 0, none⟩ 1 1 [.int .i64 len] rfl rfl (World.news_of_block (cs := #[.int .i64 len]) (t := 3) (fr := (0, 0)) (heap_alloc_new w _)) (by simp [Value.oneCell']) (by omega) (by unfold maxLen; omega) (by omega) (by simp; omega) (w.heap.size + 1) (by simp) ?_)
  intro gg cap1 w1 hown1 hgrow hat hlt1
  have hf1 := (hgrow.frozen_far ⟨be, oe, none⟩ (by simp; omega) (Ne.symm ae)).trans (hFa _ _)
  have hc1 := (hgrow.cell_far ⟨be, oe, none⟩ (by simp; omega) (Ne.symm ae)).trans (hCa _ _)
  have hd0 := mark_app H.out hown HI.out ((Below.refl _ _).alloc (Nat.le_refl _) _) hgrow hown1
  have h00 : RA base be oe bc oc len (n + 1) w 0 (w1.setCell ⟨be, oe, none⟩ (.slice (some ⟨gg, 0, none⟩) (n + 1) cap1)) := by
    refine ⟨hd0.1.mono ?_, hd0.2, fun j hj => hd0.1.intAt hb (by rintro (⟨hx, _⟩ | hx) <;> omega) (HC.out j hj), .inr rfl⟩
    rintro k i (hx | hx)
    · exact .inl hx
    · exact hx.elim
  have H0 := Go.Lib.hid h00
  clear h00 hd0
  unfold maxLen at hml
  clear hF hown hN hat hFa hCa hgrow hown1
  go_wp2
  clear hf1 hc1 hlt1
  go_loopw [6] (fun i wr => ∃ k : Nat, k ≤ len ∧ i = .int .i64 k ∧ Hid (RA base be oe bc oc len (n + 1) w k wr)) (fun i _ => len - (intOf i).toNat)
  case atStart => exact ⟨0, Nat.zero_le _, rfl, H0⟩
  case round =>
    obtain ⟨k, hk, rfl, hr⟩ := hrel
    obtain ⟨v, ys, hv, ho, _⟩ := hr.out.2.1.row
    obtain ⟨m, hm⟩ : ∃ m, m = n + 1 + k := ⟨_, rfl⟩
    rw [← hm] at ho
    obtain ⟨g, cap2, rfl, _, _⟩ := ho.form (by omega)
    have HM := Go.Lib.hid hm
    clear ho hm
    have HN := Go.Lib.hid hn
    clear hn
    by_cases hlt : k < len
    · by_cases h2 : m < 200000
      · have HM2 := Go.Lib.hid h2
        have hd : decide ((m : Int) < 200000) = true := decide_eq_true (by omega)
        clear h2
        have hcell := hr.out.2.2.1 k hlt
        have HCell := Go.Lib.hid hcell
        clear hcell
        go_wp2_with fail
        refine (num49m base be oe bc (oc + k) (n + 1 + k) wr hr.out.2.1 hb hne HCell.out (by have := HM.out; have := HM2.out; omega)).mono ?_
        rintro e w' he
        have he2 := ra_next hr.out hb hne hlt (by have := HM.out; have := HM2.out; omega) he
        clear he
        obtain ⟨rfl, he3⟩ := he2
        have H2 := Go.Lib.hid he3
        clear he3
        go_wp2
        go_roundw
        case rel => exact ⟨k + 1, by omega, by go_num, H2⟩
        case measure => simp [intOf]; omega
      · have hd : decide ((m : Int) < 200000) = false := decide_eq_false (by omega)
        clear h2
        go_wp2
        go_end0
        exact ra_end hr.out
    · go_wp2
      go_end0
      exact ra_end hr.out
end Go.Proofs.Tryz

namespace Go.Proofs.Tryz
open Go.RowKit

set_option maxRecDepth 100000 in
set_option maxHeartbeats 3200000 in
theorem all48mnil (base be oe n : Nat) (w : World) (h : MarkSt w base be oe n) (hn : n + 1 ≤ 200000) :
    Calls prog 48 #[.pointer (some ⟨be, oe, none⟩), .slice none 0 0, .func (.func 49) #[] #[]] w (MarkEnd base be oe (fun _ _ => False) w (fun _ => True)) := by
  obtain ⟨ov, xs, hN, hown, hint⟩ := h.row
  have hF := h.fz
  have hbase := h.le
  have hlt := h.lt
  obtain ⟨i0, hi0, hz0, hz1, hz2⟩ := info_parts info3
  have le := World.block_lt_of_cell? w _ hN
  have ae : ov.ownBlock ≠ some be := by
    rcases hown.2 with ⟨rfl, _⟩ | ⟨g, cap, cur, rfl, hb, _⟩
    · simp [Value.ownBlock]
    · simp only [Value.ownBlock]; intro he; cases he; omega
  have hFa : ∀ c t, (w.alloc (.cells c t)).frozen? ⟨be, oe, none⟩ = false := fun c t => by
    rw [frozen?_alloc_cells]; exact hF
  have hCa : ∀ c t, (w.alloc (.cells c t)).cell? ⟨be, oe, none⟩ = some ov := fun c t => by
    rw [World.cell?_alloc_lt _ _ _ (by simpa using le)]; exact hN
  have H := Go.Lib.hid h
  have HI := Go.Lib.hid hint
  clear h hint
  go_enter func48, ntmps48
  go_wp2_with (at_builtin; refine wpList_append_lies _ rfl _ _ _ rfl base 3 i0 _ 1 8 underlying44 hi0 hz0 hz1 hz2 rfl (by omega) ov n xs rfl (hown.alloc _) ⟨w.heap.size, 0, none⟩ 1 1 [.int .i64 0] rfl rfl (World.news_of_block (cs := #[.int .i64 0]) (t := 3) (fr := (0, 0)) (heap_alloc_new w _)) (by simp [Value.oneCell']) (by omega) (by unfold maxLen; omega) (by omega) (by simp; omega) (w.heap.size + 1) (by simp) ?_)
  intro gg cap1 w1 hown1 hgrow hat hlt1
  have hf1 := (hgrow.frozen_far ⟨be, oe, none⟩ (by simp; omega) (Ne.symm ae)).trans (hFa _ _)
  have hc1 := (hgrow.cell_far ⟨be, oe, none⟩ (by simp; omega) (Ne.symm ae)).trans (hCa _ _)
  have hd0 := mark_app H.out hown HI.out ((Below.refl _ _).alloc (Nat.le_refl _) _) hgrow hown1
  have H0 := Go.Lib.hid hd0
  clear hd0
  clear hF hown hN hat hFa hCa hgrow hown1
  go_wp2
  clear hf1 hc1 hlt1
  go_loopw [6] (fun i wr => i = .int .i64 0 ∧ Hid (MBut base (ZE be oe fun _ _ => False) w wr ∧ MarkSt wr base be oe (n + 1))) (fun _ _ => 0)
  case atStart => exact ⟨rfl, H0⟩
  case round =>
    obtain ⟨rfl, hr⟩ := hrel
    go_wp2
    go_end0
    exact ⟨rfl, hr.out.1, ⟨_, hr.out.2⟩, trivial⟩

/-- the places of a slice -/
def ZC (v : Value) (k i : Nat) : Prop := ∃ oc len cap, v = .slice (some ⟨k, oc, none⟩) len cap ∧ oc ≤ i ∧ i < oc + len
/-- a slice of integers that may be written over -/
def IntsM (w : World) (base be bx : Nat) (v : Value) : Prop :=
  v = .slice none 0 0 ∨ ∃ bc oc len cap, v = .slice (some ⟨bc, oc, none⟩) len cap ∧ bc < base ∧ bc ≠ be ∧ bc ≠ bx ∧ len ≤ maxLen ∧ ∀ j, j < len → IntAt w bc (oc + j)
theorem IntsM.but {w w' : World} {base be bx : Nat} {Z : Nat → Nat → Prop} {v : Value} (h : IntsM w base be bx v) (hb : MBut base Z w w') (hz : ∀ k i, Z k i → k = be ∨ k = bx) : IntsM w' base be bx v := by
  rcases h with h | ⟨bc, oc, len, cap, h1, h2, h3, h4, h5, h6⟩
  · exact .inl h
  · exact .inr ⟨bc, oc, len, cap, h1, h2, h3, h4, h5, fun j hj => hb.intAt h2 (fun hx => by rcases hz _ _ hx with hx | hx <;> omega) (h6 j hj)⟩

theorem all_any_m (base be oe bx n : Nat) (v : Value) (w : World) (h : MarkSt w base be oe n) (hv : IntsM w base be bx v) (hn : n + 1 ≤ 200000) :
    Calls prog 48 #[.pointer (some ⟨be, oe, none⟩), v, .func (.func 49) #[] #[]] w (MarkEnd base be oe (ZC v) w (fun w' => IntsM w' base be bx v)) := by
  rcases hv with rfl | ⟨bc, oc, len, cap, rfl, h2, h3, h4, h5, h6⟩
  · refine (all48mnil base be oe n w h hn).mono ?_
    rintro e w' ⟨h1, h2, h3, _⟩
    refine ⟨h1, h2.mono ?_, h3, .inl rfl⟩
    rintro k i (hx | hx)
    · exact .inl hx
    · exact hx.elim
  · refine (all48m base be oe bc oc len cap n w h h2 h3 h5 h6 hn).mono ?_
    rintro e w' ⟨k1, k2, k3, k4⟩
    refine ⟨k1, k2.mono ?_, k3, .inr ⟨bc, oc, len, cap, rfl, h2, h3, h4, h5, k4⟩⟩
    rintro k i (hx | ⟨rfl, hx, hy⟩)
    · exact .inl hx
    · exact .inr ⟨oc, len, cap, rfl, hx, hy⟩

set_option maxRecDepth 100000 in
theorem nums34m (base be oe bx ox n : Nat) (v : Value) (w : World) (h : MarkSt w base be oe n) (hx : w.cell? ⟨bx, ox, none⟩ = some v) (hv : IntsM w base be bx v) (hn : n + 1 ≤ 200000) :
    Calls prog 34 #[.pointer (some ⟨be, oe, none⟩), .pointer (some ⟨bx, ox, none⟩)] w (MarkEnd base be oe (ZC v) w (fun w' => IntsM w' base be bx v)) := by
  have H := Go.Lib.hid h
  have HV := Go.Lib.hid hv
  clear h hv
  go_enter func34, ntmps34
  go_wp2_with fail
  refine (all_any_m base be oe bx n v w H.out HV.out hn).mono ?_
  rintro e w' he
  have HE := Go.Lib.hid he
  obtain ⟨rfl, _⟩ := he
  go_wp2
  go_end0
  exact HE.out

def ZX (bx ox : Nat) (v : Value) (k i : Nat) : Prop := (k = bx ∧ ox ≤ i ∧ i < ox + 4) ∨ ZC v k i

theorem see_end {base be oe bx ox : Nat} {v : Value} {w w3 w4 : World} (hb : bx < base) (hne : bx ≠ be) (hv : IntsM w base be bx v) (h3 : MBut base (ZE be oe fun k i => k = bx ∧ ox ≤ i ∧ i < ox + 4) w w3)
    (i3 : ∀ j, j < 4 → IntAt w3 bx (ox + j)) {e : Ending} (h4 : MarkEnd base be oe (ZC v) w3 (fun w' => IntsM w' base be bx v) e w4) :
    MarkEnd base be oe (ZX bx ox v) w (fun w' => (∀ j, j < 4 → IntAt w' bx (ox + j)) ∧ IntsM w' base be bx v) e w4 := by
  obtain ⟨k1, k2, k3, k4⟩ := h4
  refine ⟨k1, (h3.mono ?_).trans (k2.mono ?_), k3, fun j hj => k2.intAt hb ?_ (i3 j hj), k4⟩
  · rintro k i (hx | hx)
    · exact .inl hx
    · exact .inr (.inl hx)
  · rintro k i (hx | hx)
    · exact .inl hx
    · exact .inr (.inr hx)
  · rintro (⟨hx, _⟩ | ⟨oc, len, cap, hx, _⟩)
    · omega
    · rcases hv with rfl | ⟨bc, oc', len', cap', rfl, _, _, hd, _⟩
      · cases hx
      · injection hx with hx; injection hx with hx; injection hx with hx; exact hd hx

set_option maxRecDepth 100000 in
set_option maxHeartbeats 1600000 in
theorem see10m (base be oe bx ox : Nat) (v : Value) (w : World) (h : MarkSt w base be oe 0) (hb : bx < base) (hne : bx ≠ be) (hi : ∀ j, j < 4 → IntAt w bx (ox + j))
    (hx : w.cell? ⟨bx, ox + 4, none⟩ = some v) (hv : IntsM w base be bx v) :
    Calls prog 10 #[.pointer (some ⟨be, oe, none⟩), .pointer (some ⟨bx, ox, none⟩)] w (MarkEnd base be oe (ZX bx ox v) w (fun w' => (∀ j, j < 4 → IntAt w' bx (ox + j)) ∧ IntsM w' base be bx v)) := by
  have H := Go.Lib.hid h
  have HV := Go.Lib.hid hv
  have HI := Go.Lib.hid hi
  have HX := Go.Lib.hid hx
  clear h hv hi hx
  go_enter func10, ntmps10
  go_wp2_with fail
  refine (num32m base be oe bx ox 0 w H.out hb hne (HI.out 0 (by omega)) (by omega)).mono ?_
  rintro e w1 ⟨rfl, h1⟩
  have H1 := Go.Lib.hid h1
  clear h1
  go_wp2_with fail
  refine (num32m base be oe bx (ox + 1) 1 w1 H1.out.2.1 hb hne (H1.out.1.intAt hb (by rintro (⟨hx, _⟩ | ⟨_, hx⟩) <;> omega) (HI.out 1 (by omega))) (by omega)).mono ?_
  rintro e w2 ⟨rfl, h2⟩
  have H2 := Go.Lib.hid h2
  clear h2
  go_wp2_with fail
  refine (row33m base be oe bx (ox + 2) 2 w2 H2.out.2.1 hb hne (H2.out.1.intAt hb (by rintro (⟨hx, _⟩ | ⟨_, hx⟩) <;> omega) (H1.out.1.intAt hb (by rintro (⟨hx, _⟩ | ⟨_, hx⟩) <;> omega) (HI.out 2 (by omega))))
    (H2.out.1.intAt hb (by rintro (⟨hx, _⟩ | ⟨_, hx⟩) <;> omega) (H1.out.1.intAt hb (by rintro (⟨hx, _⟩ | ⟨_, hx⟩) <;> omega) (HI.out 3 (by omega)))) (by omega)).mono ?_
  rintro e w3 ⟨rfl, h3⟩
  have H3 := Go.Lib.hid h3
  clear h3
  have hm : MBut base (ZE be oe fun k i => k = bx ∧ ox ≤ i ∧ i < ox + 4) w w3 := by
    refine (H1.out.1.mono ?_).trans ((H2.out.1.mono ?_).trans (H3.out.1.mono ?_))
    · rintro k i (hx | ⟨hx, rfl⟩)
      · exact .inl hx
      · exact .inr ⟨hx, by omega, by omega⟩
    · rintro k i (hx | ⟨hx, rfl⟩)
      · exact .inl hx
      · exact .inr ⟨hx, by omega, by omega⟩
    · rintro k i (hx | ⟨hx, hy⟩)
      · exact .inl hx
      · exact .inr ⟨hx, by omega, by omega⟩
  have i3 : ∀ j, j < 4 → IntAt w3 bx (ox + j) := by
    intro j hj
    rcases (by omega : j = 0 ∨ j = 1 ∨ j = 2 ∨ j = 3) with rfl | rfl | rfl | rfl
    · exact H3.out.1.intAt hb (by rintro (⟨hx, _⟩ | ⟨_, hx⟩) <;> omega) (H2.out.1.intAt hb (by rintro (⟨hx, _⟩ | ⟨_, hx⟩) <;> omega) H1.out.2.2)
    · exact H3.out.1.intAt hb (by rintro (⟨hx, _⟩ | ⟨_, hx⟩) <;> omega) H2.out.2.2
    · exact H3.out.2.2.1
    · exact H3.out.2.2.2
  have HM := Go.Lib.hid hm
  have HI3 := Go.Lib.hid i3
  have hzz : ∀ k i, ZE be oe (fun k i => k = bx ∧ ox ≤ i ∧ i < ox + 4) k i → k = be ∨ k = bx := by
    rintro k i (⟨hx, _⟩ | ⟨hx, _⟩)
    · exact .inl hx
    · exact .inr hx
  have HZ := Go.Lib.hid hzz
  clear hm i3 hzz
  go_wp2_with fail
  refine (nums34m base be oe bx (ox + 4) 4 v w3 H3.out.2.1 (HM.out.cell hb (by rintro (⟨hx, _⟩ | ⟨_, hx⟩) <;> omega) HX.out) (HV.out.but HM.out HZ.out) (by omega)).mono ?_
  rintro e w4 h4
  have h5 := see_end hb hne HV.out HM.out HI3.out h4
  have H5 := Go.Lib.hid h5
  obtain ⟨rfl, _⟩ := h4
  clear h5
  go_wp2
  go_end0
  exact H5.out
end Go.Proofs.Tryz

namespace Go.Proofs.Tryz
open Go.RowKit

/-- what a slice's address reads -/
def Rd (w : World) (A : Option Addr) (xs : List Value) : Prop :=
  ∀ j u, xs[j]? = some u → ∃ b o, A = some ⟨b, o, none⟩ ∧ b < w.heap.size ∧ w.cell? ⟨b, o + j, none⟩ = some u
theorem Rd.below {w w' : World} {A : Option Addr} {xs : List Value} (h : Rd w A xs) (hb : Below w.heap.size w w') : Rd w' A xs := by
  intro j u hj
  obtain ⟨b, o, h1, h2, h3⟩ := h j u hj
  exact ⟨b, o, h1, Nat.lt_of_lt_of_le h2 hb.size, (hb.cell (p := ⟨b, o + j, none⟩) h2).trans h3⟩

theorem box_new (w : World) (c : Array Value) (t : TypeId) (i : Nat) : (w.alloc (.cells c t)).cell? ⟨w.heap.size, i, none⟩ = c[i]? :=
  cell_of_row _ _ i c t (0, 0) (heap_alloc_new w _)
theorem box2 (w : World) (c d : Array Value) (t t' : TypeId) (i : Nat) :
    ((w.alloc (.cells c t)).alloc (.cells d t')).cell? ⟨w.heap.size, i, none⟩ = c[i]? ∧ ((w.alloc (.cells c t)).alloc (.cells d t')).cell? ⟨w.heap.size + 1, i, none⟩ = d[i]? := by
  refine ⟨(World.cell?_alloc_lt _ _ _ (by simp)).trans (box_new w c t i), ?_⟩
  have := box_new (w.alloc (.cells c t)) d t' i
  simpa using this

set_option maxRecDepth 100000 in
set_option maxHeartbeats 3200000 in
theorem same26 (A B : Option Addr) (n ca cb : Nat) (xs : List Value) (m1 a1 m2 a2 : Value) (w : World) (hA : Rd w A xs) (hB : Rd w B xs) (hn : xs.length = n) (hm : n ≤ maxLen)
    (hi : ∀ u ∈ xs, ∃ i, u = .int .i64 i) :
    Calls prog 26 #[.agg #[.slice A n ca, .slice none 0 0, m1, a1], .agg #[.slice B n cb, .slice none 0 0, m2, a2]] w (fun e w' => e = .returned (.bool true) ∧ Below w.heap.size w w') := by
  unfold maxLen at hm
  have HA := Go.Lib.hid hA
  have HB := Go.Lib.hid hB
  have HI := Go.Lib.hid hi
  have HN := Go.Lib.hid hn
  clear hA hB hi hn
  go_enter func26, ntmps26
  go_wp2
  generalize hW : ((w.alloc (Obj.cells #[Value.slice A n ca, Value.slice none 0 0, m1, a1] 47)).alloc (Obj.cells #[Value.slice B n cb, Value.slice none 0 0, m2, a2] 47)) = W
  have hBel : Below w.heap.size w W := by rw [← hW]; exact ((Below.refl _ _).alloc (Nat.le_refl _) _).alloc (by simp) _
  have C0 : Hid (W.cell? ⟨w.heap.size, 0, none⟩ = some (.slice A n ca)) := by show _ = _; rw [← hW]; exact (box2 w _ _ _ _ 0).1
  have C1 : Hid (W.cell? ⟨w.heap.size, 1, none⟩ = some (.slice none 0 0)) := by show _ = _; rw [← hW]; exact (box2 w _ _ _ _ 1).1
  have C2 : Hid (W.cell? ⟨w.heap.size + 1, 0, none⟩ = some (.slice B n cb)) := by show _ = _; rw [← hW]; exact (box2 w _ _ _ _ 0).2
  have C3 : Hid (W.cell? ⟨w.heap.size + 1, 1, none⟩ = some (.slice none 0 0)) := by show _ = _; rw [← hW]; exact (box2 w _ _ _ _ 1).2
  have RA := Go.Lib.hid (HA.out.below hBel)
  have RB := Go.Lib.hid (HB.out.below hBel)
  have HBel := Go.Lib.hid hBel
  clear hW hBel
  go_loopw [5] (fun i wr => ∃ k : Nat, k ≤ n ∧ i = .int .i64 k ∧ Hid (∃ d, wr = W.drewN d)) (fun i _ => n - (intOf i).toNat)
  case atStart => exact ⟨0, Nat.zero_le _, rfl, ⟨0, rfl⟩⟩
  case round =>
    obtain ⟨k, hk, rfl, hr⟩ := hrel
    have c0 : wr.cell? ⟨w.heap.size, 0, none⟩ = some (.slice A n ca) := by obtain ⟨d, rfl⟩ := hr.out; exact C0.out
    have c1 : wr.cell? ⟨w.heap.size, 1, none⟩ = some (.slice none 0 0) := by obtain ⟨d, rfl⟩ := hr.out; exact C1.out
    have c2 : wr.cell? ⟨w.heap.size + 1, 0, none⟩ = some (.slice B n cb) := by obtain ⟨d, rfl⟩ := hr.out; exact C2.out
    have c3 : wr.cell? ⟨w.heap.size + 1, 1, none⟩ = some (.slice none 0 0) := by obtain ⟨d, rfl⟩ := hr.out; exact C3.out
    by_cases hlt : k < n
    · obtain ⟨u, hu⟩ : ∃ u, xs[k]? = some u := by
        rw [List.getElem?_eq_getElem (by rw [HN.out]; exact hlt)]; exact ⟨_, rfl⟩
      obtain ⟨z, rfl⟩ := HI.out u (List.mem_of_getElem? hu)
      obtain ⟨b1, o1, rfl, _, hc1⟩ := RA.out k _ hu
      obtain ⟨b2, o2, rfl, _, hc2⟩ := RB.out k _ hu
      have d1 : wr.cell? ⟨b1, o1 + k, none⟩ = some (.int .i64 z) := by obtain ⟨d, rfl⟩ := hr.out; exact hc1
      have d2 : wr.cell? ⟨b2, o2 + k, none⟩ = some (.int .i64 z) := by obtain ⟨d, rfl⟩ := hr.out; exact hc2
      have k0 : (0 : Int) ≤ (k : Int) := by omega
      have k1 : (k : Int) < (n : Int) := by omega
      clear hu hc1 hc2
      go_wp2_with fail
      go_quiet (fail)
      go_wp2
      go_roundw
      case rel => exact ⟨k + 1, by omega, by go_num, by obtain ⟨d, rfl⟩ := hr.out; exact ⟨_, by rw [World.drewN_drewN]⟩⟩
      case measure => simp [intOf]; omega
    · go_wp2
      go_loop [6] (fun i => i = .int .i64 0) (fun _ => 0)
      case atStart => rfl
      case round =>
        obtain rfl := hrel
        go_wp2
        go_ret
        exact ⟨rfl, by obtain ⟨d, rfl⟩ := hr.out; exact ⟨HBel.out.os, HBel.out.tape, HBel.out.output, HBel.out.size, HBel.out.block⟩⟩

/-! ### great -/
def SomeBool (w : World) (e : Ending) (w' : World) : Prop := (∃ b, e = .returned (.bool b)) ∧ Below w.heap.size w w'
set_option maxRecDepth 100000 in
set_option maxHeartbeats 1600000 in
theorem great24 (A : Option Addr) (n ca : Nat) (m1 a1 : Value) (w : World) :
    Calls prog 24 #[.agg #[.slice A n ca, .slice none 0 0, m1, a1]] w (SomeBool w) := by
  go_enter func24, ntmps24
  go_wp2
  go_loop [4] (fun i => i = .int .i64 0) (fun _ => 0)
  case atStart => rfl
  case round =>
    obtain rfl := hrel
    go_wp2
    go_ret
    exact ⟨⟨_, rfl⟩, ((Below.refl _ _).alloc (Nat.le_refl _) _)⟩

/-! ### copied -/
theorem info2 : (prog.info? 2).map (fun i => (i.zero, i.size, i.bytes)) = some (some (.int .i64 0), 1, 8) := by kernel_rfl

/-- a slice of its own -/
def Fresh (w : World) (n : Nat) (xs : List Value) (v : Value) (w' : World) : Prop := w'.ownsRow w.heap.size 2 1 v n xs ∧ (v = .slice none 0 0 ↔ n = 0) ∧ Below w.heap.size w w'
def FreshV (w : World) (n : Nat) (xs : List Value) (e : Ending) (w' : World) : Prop := ∃ v, e = .returned v ∧ Fresh w n xs v w'

theorem fresh_nil (w w' : World) (h : Below w.heap.size w w') : Fresh w 0 [] (.slice none 0 0) w' := ⟨⟨rfl, .inl ⟨rfl, rfl⟩⟩, ⟨fun _ => rfl, fun _ => rfl⟩, h⟩

set_option maxRecDepth 100000 in
set_option maxHeartbeats 1600000 in
theorem copied45nil (w : World) : Calls prog 45 #[.slice none 0 0] w (FreshV w 0 []) := by
  go_enter func45, ntmps45
  go_wp2
  go_ret
  exact ⟨_, rfl, fresh_nil w w (Below.refl _ _)⟩

set_option maxRecDepth 100000 in
set_option maxHeartbeats 1600000 in
theorem copied45 (b o n cap : Nat) (xs : List Value) (w : World) (hn : xs.length = n) (hm : n ≤ maxLen) (hb8 : n * 8 ≤ 140737488355328) (hc : ∀ j u, xs[j]? = some u → w.cell? ⟨b, o + j, none⟩ = some u) (hi : ∀ u ∈ xs, ∃ i, u = .int .i64 i) :
    Calls prog 45 #[.slice (some ⟨b, o, none⟩) n cap] w (FreshV w n xs) := by
  obtain ⟨i0, hi0, hz0, hz1, hz2⟩ := info_parts info2
  have h1 : ∀ u ∈ xs, u.oneCell' = true := by
    intro u hu; obtain ⟨i, rfl⟩ := hi u hu; rfl
  have hn2 : xs.length = n * 1 := by omega
  have hc2 : ∀ j u, xs[j]? = some u → w.cell? ((⟨b, o, none⟩ : Addr).add j) = some u := by
    intro j u hu
    have : (⟨b, o, none⟩ : Addr).add j = ⟨b, o + j, none⟩ := by unfold Addr.add; split <;> simp_all
    rw [this]; exact hc j u hu
  have hown : w.ownsRow w.heap.size 2 1 (.slice none 0 0) 0 [] := ⟨rfl, .inl ⟨rfl, rfl⟩⟩
  have hm2 : 0 + n ≤ maxLen := by omega
  have hb2 : (0 + n) * 8 ≤ 140737488355328 := by omega
  clear hc hi hm hb8 hn
  go_enter func45, ntmps45
  go_wp2_with (at_builtin; refine wpList_append_own_at _ rfl _ _ 23 rfl w.heap.size 2 i0 _ 1 8 underlying23 hi0 hz0 hz1 hz2 rfl (by omega) (.slice none 0 0) 0 [] rfl hown ⟨b, o, none⟩ n cap xs rfl hn2 hc2 h1 hm2 hb2 (Nat.le_refl _) ?_)
  intro v' w1 ho hgrow hnil hat
  have hF : Fresh w n xs v' w1 := by
    refine ⟨?_, hnil, ⟨hgrow.os, hgrow.tape, hgrow.output, hgrow.size, fun k hk => hgrow.block k hk (by simp [Value.ownBlock])⟩⟩
    exact ho
  have HF := Go.Lib.hid hF
  clear hF ho hgrow hat hnil
  go_wp2
  go_ret
  exact ⟨_, rfl, HF.out⟩
end Go.Proofs.Tryz

namespace Go.Proofs.Tryz
open Go.RowKit

/-! ## Light contracts: what is read, what is new -/
theorem add_lit' (b o j : Nat) : (⟨b, o, none⟩ : Addr).add j = ⟨b, o + j, none⟩ := by unfold Addr.add; split <;> simp_all

theorem lt_heap {w : World} {b : Nat} {o : Obj} (h : w.heap[b]? = some o) : b < w.heap.size := by
  rcases Nat.lt_or_ge b w.heap.size with x | x
  · exact x
  · simp [Array.getElem?_eq_none x] at h
/-- a slice of n integers that can be read -/
def RdI (w : World) (v : Value) (n : Nat) : Prop :=
  (v = .slice none 0 0 ∧ n = 0) ∨ ∃ b o cap, v = .slice (some ⟨b, o, none⟩) n cap ∧ n ≤ cap ∧ cap ≤ maxLen ∧ b < w.heap.size ∧ ∀ j, j < n → ∃ z, w.cell? ⟨b, o + j, none⟩ = some (.int .i64 z)
/-- a new row of n integers -/
def OwnI (w : World) (base : Nat) (v : Value) (n : Nat) : Prop := ∃ xs, w.ownsRow base 2 1 v n xs ∧ ∀ u ∈ xs, ∃ z, u = .int .i64 z

theorem RdI.below {w w' : World} {v : Value} {n : Nat} (h : RdI w v n) (hb : Below w.heap.size w w') : RdI w' v n := by
  rcases h with h | ⟨b, o, cap, h1, h2, h3, h4, h5⟩
  · exact .inl h
  · exact .inr ⟨b, o, cap, h1, h2, h3, Nat.lt_of_lt_of_le h4 hb.size, fun j hj => by
      obtain ⟨z, hz⟩ := h5 j hj
      exact ⟨z, (hb.cell (p := ⟨b, o + j, none⟩) h4).trans hz⟩⟩
theorem OwnI.nil (w : World) (base : Nat) : OwnI w base (.slice none 0 0) 0 := ⟨[], ⟨rfl, .inl ⟨rfl, rfl⟩⟩, by simp⟩
theorem OwnI.len {w : World} {base : Nat} {v : Value} {n : Nat} (h : OwnI w base v n) : n ≤ maxLen := by
  obtain ⟨xs, ⟨h0, h⟩, _⟩ := h
  rcases h with ⟨_, rfl⟩ | ⟨g, cap, cur, _, _, _, h4, h5, _⟩
  · exact Nat.zero_le _
  · omega
theorem OwnI.rd {w : World} {base : Nat} {v : Value} {n : Nat} (h : OwnI w base v n) : RdI w v n := by
  obtain ⟨xs, ⟨h0, h⟩, hi⟩ := h
  rcases h with ⟨h, hn⟩ | ⟨g, cap, cur, h1, h2, h3, h4, h5, h6, h7⟩
  · exact .inl ⟨h, hn⟩
  · refine .inr ⟨g, 0, cap, h1, h4, h5, lt_heap h3, fun j hj => ?_⟩
    have hj' : j < xs.length := by omega
    obtain ⟨z, hz⟩ := hi xs[j] (List.getElem_mem hj')
    refine ⟨z, ?_⟩
    rw [cell_of_row w g (0 + j) cur 2 (0, 0) h3, Nat.zero_add]
    have : (cur.toList.take (n * 1))[j]? = xs[j]? := by rw [h7]
    rw [List.getElem?_take, if_pos (by omega), List.getElem?_eq_getElem hj', hz] at this
    simpa using this
theorem OwnI.below {w w' : World} {base : Nat} {v : Value} {n : Nat} (h : OwnI w base v n) (hb : Below w.heap.size w w') : OwnI w' base v n := by
  obtain ⟨xs, ⟨h0, h⟩, hi⟩ := h
  refine ⟨xs, ⟨h0, ?_⟩, hi⟩
  rcases h with h | ⟨g, cap, cur, h1, h2, h3, h4⟩
  · exact .inl h
  · exact .inr ⟨g, cap, cur, h1, h2, (hb.block g (lt_heap h3)).trans h3, h4⟩
end Go.Proofs.Tryz
