import Derived.Test.YtfgkpganiabpkaaGreatDoorY3
import Derived.Test.YtfgkpganiabpkaaGreatDoorK2
import Derived.BigQuiet
import Derived.Deep.QuietTactic
/- Proved in this claim (its last text holds the theorem): the given statement TopSharedFoldsCardSaid, with no condition of ours. This text is one part of that proof: contracts of the functions that the statement's code calls. -/
set_option linter.all false
namespace Go.Proofs.Tryz
open Go.RowKit

/-- two integers are returned -/
def Int2 (w : World) (e : Ending) (w' : World) : Prop := (∃ z c, e = .returned (.tuple #[.int .i64 z, .int .i64 c])) ∧ Below w.heap.size w w'

set_option maxRecDepth 100000 in
set_option maxHeartbeats 1600000 in
theorem add103 (x y : Int) (w : World) : Calls prog 103 #[.int .i64 x, .int .i64 y] w (Int2 w) := by
  go_enter func103, ntmps103
  go_wp2
  all_goals (go_ret2; exact ⟨⟨_, _, rfl⟩, Below.refl _ _⟩)

theorem two64 (w : World) : Calls prog 64 #[.int .i64 15] w (fun e w' => e = .returned (.func (.func 103) #[] #[]) ∧ Below w.heap.size w w') := Sa1.two64 w

set_option maxRecDepth 100000 in
set_option maxHeartbeats 1600000 in
theorem Two47 (x y : Int) (w : World) : Calls prog 47 #[.int .i64 15, .int .i64 x, .int .i64 y] w (Int2 w) := by
  have hq : ∀ w, Sem.run prog (Go.binOp BinOp.eql 143 (.func (.func 103) #[] #[]) .nilFunc) w = .ok (.bool false) w := fun w => rfl
  go_enter func47, ntmps47
  go_wp2_with fail
  refine (two64 w).mono ?_
  rintro e w1 ⟨rfl, h1⟩
  go_wp2_with fail
  refine (add103 x y w1).mono ?_
  rintro e w2 ⟨⟨z, c, rfl⟩, h2⟩
  go_wp2
  go_ret2
  exact ⟨⟨_, _, rfl⟩, h1.trans (h2.mono h1.size)⟩

set_option maxRecDepth 100000 in
set_option maxHeartbeats 1600000 in
theorem Min36 (v : Value) (n : Nat) (w : World) (h : RdI w v n) (hn : 0 < n) : Calls prog 36 #[v] w (fun e w' => (∃ z, e = .returned (.int .i64 z)) ∧ Below w.heap.size w w') := by
  rcases h with ⟨rfl, rfl⟩ | ⟨b, o, cap, rfl, h2, h3, h4, h5⟩
  · omega
  unfold maxLen at h3
  have H5 := Go.Lib.hid h5
  obtain ⟨z0, hz0⟩ := h5 0 hn
  clear h5
  simp only [Nat.add_zero] at hz0
  have hn1 : decide ((n : Int) < 1) = false := decide_eq_false (by omega)
  go_enter func36, ntmps36
  go_wp2
  go_loopw [3, 4] (fun m i wr => ∃ (z : Int) (k : Nat), k ≤ n ∧ m = .int .i64 z ∧ i = .int .i64 k ∧ wr = w) (fun _ i _ => n - (intOf i).toNat)
  case atStart => exact ⟨z0, 1, hn, rfl, rfl, rfl⟩
  case round =>
    obtain ⟨z, k, hk, rfl, rfl, rfl⟩ := hrel
    by_cases hlt : k < n
    · obtain ⟨u, hu⟩ := H5.out k hlt
      go_wp2
      go_roundw
      case rel => exact ⟨_, k + 1, by omega, rfl, by go_num, trivial⟩
      case measure => simp [intOf]; omega
    · go_wp2
      go_ret
      exact ⟨⟨_, rfl⟩, Below.refl _ _⟩
set_option maxRecDepth 100000 in
set_option maxHeartbeats 1600000 in
theorem Max37 (v : Value) (n : Nat) (w : World) (h : RdI w v n) (hn : 0 < n) : Calls prog 37 #[v] w (fun e w' => (∃ z, e = .returned (.int .i64 z)) ∧ Below w.heap.size w w') := by
  rcases h with ⟨rfl, rfl⟩ | ⟨b, o, cap, rfl, h2, h3, h4, h5⟩
  · omega
  unfold maxLen at h3
  have H5 := Go.Lib.hid h5
  obtain ⟨z0, hz0⟩ := h5 0 hn
  clear h5
  simp only [Nat.add_zero] at hz0
  have hn1 : decide ((n : Int) < 1) = false := decide_eq_false (by omega)
  go_enter func37, ntmps37
  go_wp2
  go_loopw [3, 4] (fun m i wr => ∃ (z : Int) (k : Nat), k ≤ n ∧ m = .int .i64 z ∧ i = .int .i64 k ∧ wr = w) (fun _ i _ => n - (intOf i).toNat)
  case atStart => exact ⟨z0, 1, hn, rfl, rfl, rfl⟩
  case round =>
    obtain ⟨z, k, hk, rfl, rfl, rfl⟩ := hrel
    by_cases hlt : k < n
    · obtain ⟨u, hu⟩ := H5.out k hlt
      go_wp2
      go_roundw
      case rel => exact ⟨_, k + 1, by omega, rfl, by go_num, trivial⟩
      case measure => simp [intOf]; omega
    · go_wp2
      go_ret
      exact ⟨⟨_, rfl⟩, Below.refl _ _⟩
end Go.Proofs.Tryz

namespace Go.Proofs.Tryz
open Go.RowKit

theorem OwnI.stored {w : World} {base g n cap k : Nat} {z : Int} (h : OwnI w base (.slice (some ⟨g, 0, none⟩) n cap) n) (_ : k < n) : OwnI (w.setCell ⟨g, k, none⟩ (.int .i64 z)) base (.slice (some ⟨g, 0, none⟩) n cap) n := by
  obtain ⟨xs, ho, hi⟩ := h
  refine ⟨_, (ho.stored k _).1, ?_⟩
  intro u hu
  rcases List.mem_or_eq_of_mem_set hu with h | h
  · exact hi u h
  · exact ⟨z, h⟩
theorem OwnI.cell {w : World} {base g n cap k : Nat} (h : OwnI w base (.slice (some ⟨g, 0, none⟩) n cap) n) (hk : k < n) : (∃ z, w.cell? ⟨g, k, none⟩ = some (.int .i64 z)) ∧ w.frozen? ⟨g, k, none⟩ = false := by
  obtain ⟨xs, ho, hi⟩ := h
  refine ⟨?_, ho.frozenAt k⟩
  have hj : k < xs.length := by have := ho.1; omega
  obtain ⟨z, hz⟩ := hi xs[k] (List.getElem_mem hj)
  exact ⟨z, by rw [ho.cellAt k (by omega), List.getElem?_eq_getElem hj, hz]⟩
theorem ints_zero (n : Nat) : ∀ u ∈ (madeCells #[Value.int .i64 0] n).toList, ∃ z, u = .int .i64 z := by
  intro u hu
  refine ⟨0, ?_⟩
  obtain ⟨i, hi, rfl⟩ := List.mem_iff_getElem.1 hu
  simp [madeCells, Nat.mod_one]

set_option maxRecDepth 100000 in
set_option maxHeartbeats 3200000 in
theorem sums31 (v : Value) (n : Nat) (w : World) (h : RdI w v n) (hn : n ≤ 400) :
    Calls prog 31 #[v] w (fun e w' => ∃ v' c, e = .returned (.tuple #[v', .int .i64 c]) ∧ ((v' = .slice none 0 0 ∧ c ≠ 0) ∨ (c = 0 ∧ OwnI w' w.heap.size v' n)) ∧ Below w.heap.size w w') := by
  obtain ⟨i0, hi0, hz0, hz1, hz2⟩ := info_parts info2
  have H := Go.Lib.hid h
  obtain ⟨A, cap, rfl⟩ : ∃ A cap, v = .slice A n cap := by
    rcases h with ⟨rfl, rfl⟩ | ⟨b, o, cap, rfl, _⟩
    · exact ⟨_, _, rfl⟩
    · exact ⟨_, _, rfl⟩
  clear h
  go_enter func31, ntmps31
  go_wp2_with (at_make; refine wpList_make_full w rfl _ _ 23 rfl w.heap.size 2 i0 _ 1 underlying23 hi0 hz0 hz1 .i64 .i64 _ _ n rfl rfl rfl rfl (by rw [hz2]; omega) (by unfold maxLen; omega) (Nat.le_refl _) ?_)
  intro w1 ho hg
  have HO : Hid (OwnI w1 w.heap.size (.slice (some ⟨w.heap.size, 0, none⟩) n n) n ∧ Below w.heap.size w w1) :=
    ⟨⟨_, ho, ints_zero n⟩, hg.os, hg.tape, hg.output, hg.size, fun k hk => hg.block k hk (by simp)⟩
  clear ho hg
  go_wp2
  go_loopw [5, 15] (fun s i wr => ∃ (z : Int) (k : Nat), k ≤ n ∧ s = .int .i64 z ∧ i = .int .i64 k ∧ Hid (OwnI wr w.heap.size (.slice (some ⟨w.heap.size, 0, none⟩) n n) n ∧ Below w.heap.size w wr)) (fun _ i _ => n - (intOf i).toNat)
  case atStart => exact ⟨0, 0, Nat.zero_le _, rfl, rfl, HO⟩
  case round =>
    obtain ⟨z, k, hk, rfl, rfl, hr⟩ := hrel
    by_cases hlt : k < n
    · obtain ⟨b, o, rfl, hb, z1, hz1'⟩ : ∃ b o, A = some ⟨b, o, none⟩ ∧ b < w.heap.size ∧ ∃ z, w.cell? ⟨b, o + k, none⟩ = some (.int .i64 z) := by
        rcases H.out with ⟨h1, h2⟩ | ⟨b, o, c, h1, _, _, h4, h5⟩
        · omega
        · cases h1; exact ⟨b, o, rfl, h4, h5 k hlt⟩
      have hc : wr.cell? ⟨b, o + k, none⟩ = some (.int .i64 z1) := (hr.out.2.cell (p := ⟨b, o + k, none⟩) hb).trans hz1'
      go_wp2_with fail
      refine (Two47 z z1 _).mono ?_
      rintro e w2 ⟨⟨z2, c, rfl⟩, h2⟩
      have HR : Hid (OwnI w2 w.heap.size (.slice (some ⟨w.heap.size, 0, none⟩) n n) n ∧ Below w.heap.size w w2) := ⟨hr.out.1.below h2, hr.out.2.trans (h2.mono hr.out.2.size)⟩
      obtain ⟨⟨zc, hcell⟩, hfr⟩ := HR.out.1.cell hlt
      by_cases hc0 : c = 0
      · subst hc0
        clear h2
        go_wp2
        go_roundw
        case rel => exact ⟨z2, k + 1, by omega, rfl, by go_num, HR.out.1.stored hlt, HR.out.2.setCell (Nat.le_refl _) _⟩
        case measure => simp [intOf]; omega
      · have hd : decide (c = 0) = false := decide_eq_false hc0
        clear h2
        go_wp2
        go_ret2
        exact ⟨_, _, rfl, .inl ⟨rfl, hc0⟩, HR.out.2⟩
    · go_wp2
      go_ret2
      exact ⟨_, _, rfl, .inr ⟨rfl, hr.out.1⟩, hr.out.2⟩
end Go.Proofs.Tryz

namespace Go.Proofs.Tryz
open Go.RowKit

theorem OwnI.form {w : World} {base : Nat} {v : Value} {n : Nat} (h : OwnI w base v n) : (v = .slice none 0 0 ∧ n = 0) ∨ ∃ g cap, v = .slice (some ⟨g, 0, none⟩) n cap ∧ base ≤ g ∧ g < w.heap.size := by
  obtain ⟨xs, ⟨_, h | ⟨g, cap, cur, h1, h2, h3, _⟩⟩, _⟩ := h
  · exact .inl h
  · exact .inr ⟨g, cap, h1, h2, lt_heap h3⟩

set_option maxRecDepth 100000 in
set_option maxHeartbeats 3200000 in
theorem sum30 (v : Value) (n : Nat) (w : World) (h : RdI w v n) (hn : n ≤ 400) : Calls prog 30 #[v] w (Int2 w) := by
  have H := Go.Lib.hid h
  clear h
  go_enter func30, ntmps30
  go_wp2_with fail
  refine (sums31 v n w H.out hn).mono ?_
  rintro e w1 ⟨v', c, rfl, ⟨rfl, hc⟩ | ⟨rfl, ho⟩, hb⟩
  · have hd : decide (c = 0) = false := decide_eq_false hc
    go_wp2
    go_ret2
    exact ⟨⟨_, _, rfl⟩, hb⟩
  · rcases ho.form with ⟨rfl, rfl⟩ | ⟨g, cap, rfl, _, _⟩
    · go_wp2
      go_ret2
      exact ⟨⟨_, _, rfl⟩, hb⟩
    · by_cases h0 : n = 0
      · subst h0
        go_wp2
        go_ret2
        exact ⟨⟨_, _, rfl⟩, hb⟩
      · obtain ⟨⟨zc, hcell⟩, _⟩ := ho.cell (k := n - 1) (by omega)
        have hd : decide ((n : Int) = 0) = false := decide_eq_false (by omega)
        have hi1 : (n : Int) - 1 = ((n - 1 : Nat) : Int) := by omega
        have hb1 : n - 1 < n := by omega
        have hw : IntKind.i64.wrap ((n : Int) - 1) = ((n - 1 : Nat) : Int) := by rw [IntKind.wrap_i64]; omega
        clear ho
        go_wp2
        go_ret2
        exact ⟨⟨_, _, rfl⟩, hb⟩

set_option maxRecDepth 100000 in
set_option maxHeartbeats 3200000 in
theorem count38 (v : Value) (n : Nat) (w : World) (h : RdI w v n) : Calls prog 38 #[v] w (Int2 w) := by
  rcases h with ⟨rfl, rfl⟩ | ⟨b, o, cap, rfl, h2, h3, h4, h5⟩
  · go_enter func38, ntmps38
    go_wp2
    go_ret2
    exact ⟨⟨_, _, rfl⟩, Below.refl _ _⟩
  · clear h5
    go_enter func38, ntmps38
    go_wp2
    go_ret2
    exact ⟨⟨_, _, rfl⟩, Below.refl _ _⟩

def Mm (f : FuncId) : Prop := f = 36 ∨ f = 37
theorem minmax {f : FuncId} (hf : Mm f) (v : Value) (n : Nat) (w : World) (h : RdI w v n) (hn : 0 < n) : Calls prog f #[v] w (fun e w' => (∃ z, e = .returned (.int .i64 z)) ∧ Below w.heap.size w w') := by
  rcases hf with rfl | rfl
  · exact Min36 v n w h hn
  · exact Max37 v n w h hn

set_option maxRecDepth 100000 in
set_option maxHeartbeats 3200000 in
theorem end50 (f : FuncId) (hf : Mm f) (b : Nat) (v : Value) (n : Nat) (w : World) (hc : w.cell? ⟨b, 0, none⟩ = some (.func (.func f) #[] #[])) (h : RdI w v n) : Calls prog 50 #[v, .pointer (some ⟨b, 0, none⟩)] w (Int2 w) := by
  have H := Go.Lib.hid h
  by_cases h0 : n = 0
  · obtain ⟨A, cap, rfl⟩ : ∃ A cap, v = .slice A n cap := by
      rcases h with ⟨rfl, rfl⟩ | ⟨b, o, cap, rfl, _⟩
      · exact ⟨_, _, rfl⟩
      · exact ⟨_, _, rfl⟩
    subst h0
    clear h
    go_enter func50, ntmps50
    go_wp2
    go_ret2
    exact ⟨⟨_, _, rfl⟩, Below.refl _ _⟩
  · obtain ⟨A, cap, rfl⟩ : ∃ A cap, v = .slice A n cap := by
      rcases h with ⟨rfl, rfl⟩ | ⟨b, o, cap, rfl, _⟩
      · exact ⟨_, _, rfl⟩
      · exact ⟨_, _, rfl⟩
    have hd : decide ((n : Int) = 0) = false := decide_eq_false (by omega)
    clear h
    rcases hf with rfl | rfl
    · go_enter func50, ntmps50
      go_wp2_with fail
      refine (Min36 _ n w H.out (by omega)).mono ?_
      rintro e w1 ⟨⟨z, rfl⟩, hb⟩
      go_wp2
      go_ret2
      exact ⟨⟨_, _, rfl⟩, hb⟩
    · go_enter func50, ntmps50
      go_wp2_with fail
      refine (Max37 _ n w H.out (by omega)).mono ?_
      rintro e w1 ⟨⟨z, rfl⟩, hb⟩
      go_wp2
      go_ret2
      exact ⟨⟨_, _, rfl⟩, hb⟩
end Go.Proofs.Tryz

namespace Go.Proofs.Tryz
open Go.RowKit

/-- cells of integers: the list -/
def RdL (w : World) (v : Value) (A : List Int) : Prop :=
  (v = .slice none 0 0 ∧ A = []) ∨ ∃ b o cap, v = .slice (some ⟨b, o, none⟩) A.length cap ∧ A.length ≤ cap ∧ cap ≤ maxLen ∧ b < w.heap.size ∧ ∀ j, j < A.length → w.cell? ⟨b, o + j, none⟩ = some (.int .i64 (A.getD j 0))
theorem RdI.list {w : World} {v : Value} {n : Nat} (h : RdI w v n) : ∃ A, A.length = n ∧ RdL w v A := by
  rcases h with ⟨rfl, rfl⟩ | ⟨b, o, cap, h1, h2, h3, h4, h5⟩
  · exact ⟨[], rfl, .inl ⟨rfl, rfl⟩⟩
  · refine ⟨(List.range n).map fun j => if h : j < n then (h5 j h).choose else 0, by simp, .inr ⟨b, o, cap, by simp [h1], by simpa using h2, h3, h4, fun j hj => ?_⟩⟩
    have hj' : j < n := by simpa using hj
    rw [(h5 j hj').choose_spec]
    simp [List.getD, hj']

set_option maxRecDepth 100000 in
set_option maxHeartbeats 3200000 in
theorem idx123 (fd : FuncId) (cp : Array Value) (p : Int → Bool → Prop) (v : Value) (A : List Int) (w : World) (hcf : ∀ args w, Sem.run prog (callFunc fd args) w = .ok (.enter fd args) w)
    (hp : ∀ z, Calls prog fd (#[.int .i64 z] ++ cp) w (fun e w' => (∃ b, e = .returned (.bool b) ∧ p z b) ∧ w' = w)) (h : RdL w v A) :
    Calls prog 123 #[v, .func (.func fd) #[] cp] w (fun e w' => (∃ i, e = .returned (.int .i64 i) ∧ (i < 0 → ∀ z ∈ A, p z false)) ∧ w' = w) := by
  have H := Go.Lib.hid h
  have HP := Go.Lib.hid hp
  obtain ⟨a, n, cap, rfl, hn⟩ : ∃ a n cap, v = .slice a n cap ∧ n = A.length := by
    rcases h with ⟨rfl, rfl⟩ | ⟨b, o, cap, rfl, _⟩
    · exact ⟨_, _, _, rfl, rfl⟩
    · exact ⟨_, _, _, rfl, rfl⟩
  have hm : n ≤ 9223372036854775807 := by
    rcases h with ⟨_, rfl⟩ | ⟨b, o, cap, h1, h2, h3, _⟩
    · simp at hn; omega
    · unfold maxLen at h3; omega
  have HN := Go.Lib.hid hn
  clear h hp hn
  go_enter func123, ntmps123
  go_wp2
  go_loop [8] (fun i => ∃ k : Nat, k ≤ n ∧ i = .int .i64 k ∧ ∀ j, j < k → p (A.getD j 0) false) (fun i => n - (intOf i).toNat)
  case atStart => exact ⟨0, Nat.zero_le _, rfl, fun j hj => by omega⟩
  case round =>
    obtain ⟨k, hk, rfl, hr⟩ := hrel
    have HR := Go.Lib.hid hr
    clear hr
    by_cases hlt : k < n
    · obtain ⟨b, o, z, rfl, hz, hc⟩ : ∃ b o z, a = some ⟨b, o, none⟩ ∧ A.getD k 0 = z ∧ w.cell? ⟨b, o + k, none⟩ = some (.int .i64 z) := by
        rcases H.out with ⟨h1, h2⟩ | ⟨b, o, c, h1, _, _, h4, h5⟩
        · have := HN.out; subst h2; simp at this; omega
        · cases h1; exact ⟨b, o, _, rfl, rfl, h5 k (by have := HN.out; omega)⟩
      have HZ := Go.Lib.hid hz
      clear hz
      go_wp2_with fail
      refine (HP.out z).mono ?_
      rintro e w2 ⟨⟨bz, rfl, hpz⟩, rfl⟩
      have HPZ := Go.Lib.hid hpz
      clear hpz
      cases bz
      · go_wp2
        go_round
        case rel => exact ⟨k + 1, by omega, by go_num, fun j hj => by
          rcases Nat.lt_succ_iff_lt_or_eq.1 hj with h | rfl
          · exact HR.out j h
          · rw [HZ.out]; exact HPZ.out⟩
        case measure => simp [intOf]; omega
      · go_wp2
        go_ret
        exact ⟨⟨_, rfl, fun h => by omega⟩, rfl⟩
    · go_wp2
      go_ret
      refine ⟨⟨_, rfl, fun _ z hz => ?_⟩, rfl⟩
      obtain ⟨j, hj, rfl⟩ := List.mem_iff_getElem.1 hz
      have := HR.out j (by have := HN.out; omega)
      simpa [List.getD, hj] using this
set_option maxRecDepth 100000 in
set_option maxHeartbeats 3200000 in
theorem idx147 (fd : FuncId) (cp : Array Value) (p : Int → Bool → Prop) (v : Value) (A : List Int) (w : World) (hcf : ∀ args w, Sem.run prog (callFunc fd args) w = .ok (.enter fd args) w)
    (hp : ∀ z, Calls prog fd (#[.int .i64 z] ++ cp) w (fun e w' => (∃ b, e = .returned (.bool b) ∧ p z b) ∧ w' = w)) (h : RdL w v A) :
    Calls prog 147 #[v, .func (.func fd) #[] cp] w (fun e w' => (∃ i, e = .returned (.int .i64 i) ∧ (i < 0 → ∀ z ∈ A, p z false)) ∧ w' = w) := by
  have H := Go.Lib.hid h
  have HP := Go.Lib.hid hp
  obtain ⟨a, n, cap, rfl, hn⟩ : ∃ a n cap, v = .slice a n cap ∧ n = A.length := by
    rcases h with ⟨rfl, rfl⟩ | ⟨b, o, cap, rfl, _⟩
    · exact ⟨_, _, _, rfl, rfl⟩
    · exact ⟨_, _, _, rfl, rfl⟩
  have hm : n ≤ 9223372036854775807 := by
    rcases h with ⟨_, rfl⟩ | ⟨b, o, cap, h1, h2, h3, _⟩
    · simp at hn; omega
    · unfold maxLen at h3; omega
  have HN := Go.Lib.hid hn
  clear h hp hn
  go_enter func147, ntmps147
  go_wp2
  go_loop [8] (fun i => ∃ k : Nat, k ≤ n ∧ i = .int .i64 k ∧ ∀ j, j < k → p (A.getD j 0) false) (fun i => n - (intOf i).toNat)
  case atStart => exact ⟨0, Nat.zero_le _, rfl, fun j hj => by omega⟩
  case round =>
    obtain ⟨k, hk, rfl, hr⟩ := hrel
    have HR := Go.Lib.hid hr
    clear hr
    by_cases hlt : k < n
    · obtain ⟨b, o, z, rfl, hz, hc⟩ : ∃ b o z, a = some ⟨b, o, none⟩ ∧ A.getD k 0 = z ∧ w.cell? ⟨b, o + k, none⟩ = some (.int .i64 z) := by
        rcases H.out with ⟨h1, h2⟩ | ⟨b, o, c, h1, _, _, h4, h5⟩
        · have := HN.out; subst h2; simp at this; omega
        · cases h1; exact ⟨b, o, _, rfl, rfl, h5 k (by have := HN.out; omega)⟩
      have HZ := Go.Lib.hid hz
      clear hz
      go_wp2_with fail
      refine (HP.out z).mono ?_
      rintro e w2 ⟨⟨bz, rfl, hpz⟩, rfl⟩
      have HPZ := Go.Lib.hid hpz
      clear hpz
      cases bz
      · go_wp2
        go_round
        case rel => exact ⟨k + 1, by omega, by go_num, fun j hj => by
          rcases Nat.lt_succ_iff_lt_or_eq.1 hj with h | rfl
          · exact HR.out j h
          · rw [HZ.out]; exact HPZ.out⟩
        case measure => simp [intOf]; omega
      · go_wp2
        go_ret
        exact ⟨⟨_, rfl, fun h => by omega⟩, rfl⟩
    · go_wp2
      go_ret
      refine ⟨⟨_, rfl, fun _ z hz => ?_⟩, rfl⟩
      obtain ⟨j, hj, rfl⟩ := List.mem_iff_getElem.1 hz
      have := HR.out j (by have := HN.out; omega)
      simpa [List.getD, hj] using this

set_option maxRecDepth 100000 in
set_option maxHeartbeats 3200000 in
theorem has66 (fd : FuncId) (cp : Array Value) (p : Int → Bool → Prop) (v : Value) (A : List Int) (w : World) (hcf : ∀ args w, Sem.run prog (callFunc fd args) w = .ok (.enter fd args) w)
    (hp : ∀ z, Calls prog fd (#[.int .i64 z] ++ cp) w (fun e w' => (∃ b, e = .returned (.bool b) ∧ p z b) ∧ w' = w)) (h : RdL w v A) :
    Calls prog 66 #[v, .func (.func fd) #[] cp] w (fun e w' => (∃ b, e = .returned (.bool b) ∧ (b = false → ∀ z ∈ A, p z false)) ∧ w' = w) := by
  have H := Go.Lib.hid h
  have HP := Go.Lib.hid hp
  clear h hp
  go_enter func66, ntmps66
  go_wp2_with fail
  refine (idx123 fd cp p v A w hcf HP.out H.out).mono ?_
  rintro e w1 ⟨⟨i, rfl, hi⟩, rfl⟩
  have HI := Go.Lib.hid hi
  clear hi
  go_wp2
  go_ret
  exact ⟨⟨_, rfl, fun hb => HI.out (by simpa using hb)⟩, rfl⟩

set_option maxRecDepth 100000 in
set_option maxHeartbeats 3200000 in
theorem has178 (fd : FuncId) (cp : Array Value) (p : Int → Bool → Prop) (v : Value) (A : List Int) (w : World) (hcf : ∀ args w, Sem.run prog (callFunc fd args) w = .ok (.enter fd args) w)
    (hp : ∀ z, Calls prog fd (#[.int .i64 z] ++ cp) w (fun e w' => (∃ b, e = .returned (.bool b) ∧ p z b) ∧ w' = w)) (h : RdL w v A) :
    Calls prog 178 #[v, .func (.func fd) #[] cp] w (fun e w' => (∃ b, e = .returned (.bool b) ∧ (b = false → ∀ z ∈ A, p z false)) ∧ w' = w) := by
  have H := Go.Lib.hid h
  have HP := Go.Lib.hid hp
  clear h hp
  go_enter func178, ntmps178
  go_wp2_with fail
  refine (idx147 fd cp p v A w hcf HP.out H.out).mono ?_
  rintro e w1 ⟨⟨i, rfl, hi⟩, rfl⟩
  have HI := Go.Lib.hid hi
  clear hi
  go_wp2
  go_ret
  exact ⟨⟨_, rfl, fun hb => HI.out (by simpa using hb)⟩, rfl⟩
end Go.Proofs.Tryz

namespace Go.Proofs.Tryz
open Go.RowKit

def SomeB (w : World) (e : Ending) (w' : World) : Prop := (∃ b, e = .returned (.bool b)) ∧ w' = w
set_option maxRecDepth 100000 in
set_option maxHeartbeats 3200000 in
theorem vr124 (c : Int) (w : World) : Calls prog 124 #[.int .i32 c] w (SomeB w) := by
  go_enter func124, ntmps124
  go_wp2
  all_goals (go_ret; exact ⟨⟨_, rfl⟩, rfl⟩)

set_option maxRecDepth 100000 in
set_option maxHeartbeats 3200000 in
theorem right68 (k c : Int) (w : World) : Calls prog 68 #[.int .i64 k, .int .i64 c] w (SomeB w) := by
  by_cases h1 : k = 1
  · subst h1
    go_enter func68, ntmps68
    go_wp2
    all_goals (go_ret; exact ⟨⟨_, rfl⟩, rfl⟩)
  · have d1 : (k == 1) = false := by simpa using h1
    by_cases h2 : 0 ≤ c
    · have d2 : decide (0 ≤ c) = true := decide_eq_true h2
      by_cases h3 : c ≤ 1114111
      · have d3 : decide (c ≤ 1114111) = true := decide_eq_true h3
        go_enter func68, ntmps68
        go_wp2_with fail
        all_goals
          refine (vr124 _ w).mono ?_
          rintro e w1 ⟨⟨b, rfl⟩, rfl⟩
          go_wp2
          all_goals (go_ret; exact ⟨⟨_, rfl⟩, rfl⟩)
      · have d3 : decide (c ≤ 1114111) = false := decide_eq_false h3
        go_enter func68, ntmps68
        go_wp2
        all_goals (go_ret; exact ⟨⟨_, rfl⟩, rfl⟩)
    · have d2 : decide (0 ≤ c) = false := decide_eq_false h2
      go_enter func68, ntmps68
      go_wp2
      all_goals (go_ret; exact ⟨⟨_, rfl⟩, rfl⟩)

set_option maxRecDepth 100000 in
set_option maxHeartbeats 3200000 in
theorem chk67 (b : Nat) (k z : Int) (w : World) (hc : w.cell? ⟨b, 0, none⟩ = some (.int .i64 k)) : Calls prog 67 #[.int .i64 z, .pointer (some ⟨b, 0, none⟩)] w (SomeB w) := by
  go_enter func67, ntmps67
  go_wp2_with fail
  refine (right68 k z w).mono ?_
  rintro e w1 ⟨⟨b, rfl⟩, rfl⟩
  go_wp2
  all_goals (go_ret; exact ⟨⟨_, rfl⟩, rfl⟩)

set_option maxRecDepth 100000 in
set_option maxHeartbeats 3200000 in
theorem neg179 (z : Int) (w : World) : Calls prog 179 (#[.int .i64 z] ++ #[]) w (fun e w' => (∃ b, e = .returned (.bool b) ∧ b = decide (z < 0)) ∧ w' = w) := by
  go_enter func179, ntmps179
  go_wp2
  go_ret
  exact ⟨⟨_, rfl, rfl⟩, rfl⟩
set_option maxRecDepth 100000 in
set_option maxHeartbeats 3200000 in
theorem non180 (z : Int) (w : World) : Calls prog 180 (#[.int .i64 z] ++ #[]) w (fun e w' => (∃ b, e = .returned (.bool b) ∧ b = decide (z ≠ 0)) ∧ w' = w) := by
  go_enter func180, ntmps180
  go_wp2
  go_ret
  exact ⟨⟨_, rfl, by by_cases h : z = 0 <;> simp [h]⟩, rfl⟩
set_option maxRecDepth 100000 in
set_option maxHeartbeats 3200000 in
theorem big181 (z : Int) (w : World) : Calls prog 181 (#[.int .i64 z] ++ #[]) w (fun e w' => (∃ b, e = .returned (.bool b) ∧ b = decide (400 < z)) ∧ w' = w) := by
  go_enter func181, ntmps181
  go_wp2
  go_ret
  exact ⟨⟨_, rfl, rfl⟩, rfl⟩

def prodI (r l0 l1 : Int) : Int := if r = 2 then IntKind.i64.wrap (IntKind.i64.wrap (1 * l1) * l0) else if r = 1 then IntKind.i64.wrap (1 * l0) else 1
set_option maxRecDepth 100000 in
set_option maxHeartbeats 3200000 in
theorem prod122 (r l0 l1 : Int) (w : World) (hr : r = 0 ∨ r = 1 ∨ r = 2) (h0 : 0 ≤ l0 ∧ l0 ≤ 400) (h1 : 0 ≤ l1 ∧ l1 ≤ 400) : Calls prog 122 #[.int .i64 r, .agg #[.int .i64 l0, .int .i64 l1]] w
    (fun e w' => e = .returned (.int .i64 (if r = 2 then l1 * l0 else if r = 1 then l0 else 1)) ∧ Below w.heap.size w w') := by
  have hp : 0 ≤ l1 * l0 ∧ l1 * l0 ≤ 160000 := ⟨Int.mul_nonneg h1.1 h0.1, by
    have := Int.mul_le_mul h1.2 h0.2 h0.1 (by omega); omega⟩
  have hw : IntKind.i64.wrap (l1 * l0) = l1 * l0 := by rw [IntKind.wrap_i64]; omega
  have hw1 : IntKind.i64.wrap l1 = l1 := by rw [IntKind.wrap_i64]; omega
  have hw0 : IntKind.i64.wrap l0 = l0 := by rw [IntKind.wrap_i64]; omega
  rcases hr with rfl | rfl | rfl
  · go_enter func122, ntmps122
    go_wp2
    go_ret
    exact ⟨rfl, (Below.refl _ _).alloc (Nat.le_refl _) _⟩
  · go_enter func122, ntmps122
    go_wp2
    go_ret
    exact ⟨by simp, (Below.refl _ _).alloc (Nat.le_refl _) _⟩
  · go_enter func122, ntmps122
    go_wp2
    go_ret
    exact ⟨by simp, (Below.refl _ _).alloc (Nat.le_refl _) _⟩
end Go.Proofs.Tryz
