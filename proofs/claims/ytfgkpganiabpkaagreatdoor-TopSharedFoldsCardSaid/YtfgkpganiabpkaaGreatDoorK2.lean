import Derived.Test.YtfgkpganiabpkaaGreatDoorProg
import Derived.Test.YtfgkpganiabpkaaGreatDoorE7
import Derived.KernelRfl
import Derived.Test.YtfgkpganiabpkaaGreatDoorK1
import Derived.Below
/- Proved in this claim (its last text holds the theorem): the given statement TopSharedFoldsCardSaid, with no condition of ours. This text is one part of that proof: tables of the program's functions and types, checked. -/
set_option linter.all false
namespace Go.Proofs.Sa1
open Go Go.Sx
set_option maxRecDepth 100000
noncomputable def tyT : Tr TyC := (.node (.node (.node (.node (.node .leaf (some ⟨(.ptr 721), 1, 8, [.nilptr], true, []⟩) (.node (.node (.node .leaf (some ⟨.func, 1, 8, [.nilFunc], true, []⟩) .leaf) none .leaf) (some ⟨(.struct [(0, 44), (1, 45), (2, 4), (3, 3)]), 4, 64, [.nilslice, .nilslice, .bool false, .int .i64 0], false, [("invigilator/invigilatortop.great", 24, false), ("invigilator/invigilatortop.same", 26, false)]⟩) .leaf)) (some ⟨(.struct [(0, 2), (1, 3), (2, 4), (3, 6)]), 4, 24, [.int .i64 0, .int .i64 0, .bool false, .int .u8 0], false, []⟩) (.node (.node .leaf (some ⟨.func, 1, 8, [.nilFunc], true, []⟩) .leaf) (some ⟨(.slice 2), 1, 24, [.nilslice], true, []⟩) .leaf)) (some ⟨(.int .i64), 1, 8, [.int .i64 0], true, []⟩) (.node (.node .leaf (some ⟨(.struct [(0, 17)]), 1, 8, [.nilptr], false, []⟩) .leaf) (some ⟨.str, 1, 16, [.str []], true, []⟩) (.node .leaf (some ⟨(.struct [(0, 25)]), 5, 56, [.int .i64 0, .int .i64 0, .int .i64 0, .int .i64 0, .nilslice], false, []⟩) .leaf))) none (.node (.node (.node .leaf (some ⟨(.ptr 731), 1, 8, [.nilptr], true, []⟩) .leaf) (some ⟨.str, 1, 16, [.str []], true, []⟩) (.node (.node .leaf (some ⟨(.slice 40), 1, 24, [.nilslice], true, []⟩) .leaf) (some ⟨(.struct [(0, 3), (1, 3), (2, 22), (4, 23)]), 5, 56, [.int .i64 0, .int .i64 0, .int .i64 0, .int .i64 0, .nilslice], false, []⟩) .leaf)) (some ⟨(.int .u8), 1, 1, [.int .u8 0], true, []⟩) (.node (.node .leaf (some ⟨(.int .i32), 1, 4, [.int .i32 0], true, []⟩) .leaf) (some ⟨(.struct [(0, 9), (1, 12)]), 2, 24, [.str [], .int .u64 0], false, []⟩) (.node (.node .leaf (some ⟨(.slice 9), 1, 24, [.nilslice], true, []⟩) .leaf) none .leaf)))) none (.node (.node (.node (.node (.node (.node .leaf (some ⟨.func, 1, 8, [.nilFunc], true, []⟩) .leaf) (some ⟨(.slice 39), 1, 24, [.nilslice], true, []⟩) .leaf) (some ⟨(.ptr 724), 1, 8, [.nilptr], true, []⟩) (.node .leaf (some ⟨(.slice 47), 1, 24, [.nilslice], true, []⟩) .leaf)) (some ⟨(.struct [(0, 2), (1, 3), (2, 4), (3, 6)]), 4, 24, [.int .i64 0, .int .i64 0, .bool false, .int .u8 0], false, []⟩) (.node (.node .leaf (some ⟨.func, 1, 8, [.nilFunc], true, []⟩) .leaf) (some ⟨(.struct [(0, 3), (1, 3), (2, 22), (4, 23)]), 5, 56, [.int .i64 0, .int .i64 0, .int .i64 0, .int .i64 0, .nilslice], false, []⟩) .leaf)) (some ⟨.bool, 1, 1, [.bool false], true, []⟩) (.node (.node .leaf (some ⟨(.iface 0), 1, 16, [.nilIface], true, []⟩) .leaf) (some ⟨(.int .u64), 1, 8, [.int .u64 0], true, []⟩) (.node .leaf (some ⟨.func, 1, 8, [.nilFunc], true, []⟩) .leaf))) none (.node (.node (.node .leaf (some ⟨(.struct [(0, 17)]), 1, 8, [.nilptr], false, []⟩) .leaf) (some ⟨.str, 1, 16, [.str []], true, []⟩) (.node .leaf (some ⟨(.struct [(0, 25)]), 5, 56, [.int .i64 0, .int .i64 0, .int .i64 0, .int .i64 0, .nilslice], false, []⟩) .leaf)) (some ⟨(.int .u8), 1, 1, [.int .u8 0], true, []⟩) (.node (.node .leaf (some ⟨(.array 2 3), 2, 16, [.int .i64 0, .int .i64 0], false, []⟩) (.node (.node .leaf none (.node .leaf (some ⟨(.array 33 143), 33, 264, [.nilFunc, .nilFunc, .nilFunc, .nilFunc, .nilFunc, .nilFunc, .nilFunc, .nilFunc, .nilFunc, .nilFunc, .nilFunc, .nilFunc, .nilFunc, .nilFunc, .nilFunc, .nilFunc, .nilFunc, .nilFunc, .nilFunc, .nilFunc, .nilFunc, .nilFunc, .nilFunc, .nilFunc, .nilFunc, .nilFunc, .nilFunc, .nilFunc, .nilFunc, .nilFunc, .nilFunc, .nilFunc, .nilFunc], false, []⟩) .leaf)) none .leaf)) (some ⟨(.struct [(0, 9), (1, 12)]), 2, 24, [.str [], .int .u64 0], false, []⟩) .leaf))))
noncomputable def fnT : Tr Func := (.node (.node (.node (.node (.node .leaf (some Tryz.f15) (.node (.node (.node .leaf (some Tryz.f143) .leaf) none .leaf) (some Tryz.f47) .leaf)) (some Tryz.f7) (.node (.node .leaf (some Tryz.f39) .leaf) (some Tryz.f23) .leaf)) (some Tryz.f3) (.node (.node .leaf (some Tryz.f19) .leaf) (some Tryz.f11) (.node .leaf (some Tryz.f27) .leaf))) none (.node (.node (.node (.node (.node .leaf none (.node .leaf (some Tryz.f193) .leaf)) none .leaf) (some Tryz.f17) (.node .leaf none (.node (.node (.node .leaf (some Tryz.f305) .leaf) none .leaf) none .leaf))) (some Tryz.f9) (.node (.node .leaf (some Tryz.f41) .leaf) (some Tryz.f25) .leaf)) (some Tryz.f5) (.node (.node .leaf (some Tryz.f21) .leaf) (some Tryz.f13) (.node (.node .leaf (some Tryz.f45) .leaf) none .leaf)))) none (.node (.node (.node (.node (.node (.node .leaf (some Tryz.f64) .leaf) (some Tryz.f32) .leaf) (some Tryz.f16) (.node .leaf (some Tryz.f48) .leaf)) (some Tryz.f8) (.node (.node .leaf (some Tryz.f40) .leaf) (some Tryz.f24) .leaf)) (some Tryz.f4) (.node (.node .leaf (some Tryz.f20) .leaf) (some Tryz.f12) (.node .leaf (some Tryz.f28) .leaf))) none (.node (.node (.node .leaf (some Tryz.f18) .leaf) (some Tryz.f10) (.node .leaf (some Tryz.f26) .leaf)) (some Tryz.f6) (.node (.node .leaf (some Tryz.f22) (.node (.node .leaf none (.node .leaf (some Tryz.f214) .leaf)) none .leaf)) (some Tryz.f14) .leaf))))
def fnIdx : List Nat := [3, 4, 5, 6, 7, 8, 9, 10, 11, 12, 13, 14, 15, 16, 17, 18, 19, 20, 21, 22, 23, 24, 25, 26, 27, 28, 32, 39, 40, 41, 45, 47, 48, 64, 143, 193, 214, 305]
end Go.Proofs.Sa1

namespace Go.Proofs.Sa1
open Go Go.Sx Go.RowKit
set_option maxRecDepth 100000
noncomputable abbrev P : Program := Go.Proofs.Tryz.prog
noncomputable abbrev T : PT := ⟨tyT, fnT, Sx1.gn⟩
theorem ty_all : allT (fun t c => tyChk P t c) tyT 1 0 = true := by kernel_rfl
theorem hT : TOk T P := tokOf (idx := fnIdx) (I := 305) (C := 193) (fI := Tryz.f305) (fC := Tryz.f193) ty_all (by kernel_rfl) (by kernel_rfl) (by kernel_rfl) (by kernel_rfl) (by kernel_rfl) (by kernel_rfl) (by kernel_rfl) (by kernel_rfl) (by kernel_rfl) (by kernel_rfl) (by kernel_rfl) (by kernel_rfl)

/-! ## Calls with nothing known of the memory -/
noncomputable def noF : Facts := fun _ _ _ _ => none
theorem noF_ok : FactsOk T P noF := fun f args t nx outs h => by cases h
/-- globals alone -/
def E0 : Env := fun n => if n < 12 then some ⟨n, 0, 0, []⟩ else none
theorem gn_lt {g n : Nat} (h : Sx1.gn g = some n) : n = g ∧ g < 12 := by
  unfold Sx1.gn at h
  cases hb : Nat.ble (Nat.succ g) 12 with
  | false => rw [hb] at h; cases h
  | true => rw [hb] at h; cases h; exact ⟨rfl, ble_true hb⟩
noncomputable def finTwo : SV → Tr ABlk → Nat → List Nat → Bool := fun v _ _ W => match W with
  | [] => eqV 8 v (.func (.func 103) [] [])
  | a :: r => (match r with
    | [] => Nat.ble 12 a && eqV 8 v (.func (.func 103) [] [])
    | _ :: _ => false)
theorem two_run : runC T noF 5 64 [.int .i64 15] .leaf 12 finTwo = true := by kernel_rfl
theorem two64 (w : World) : Calls P 64 #[.int .i64 15] w (fun e w' => e = .returned (.func (.func 103) #[] #[]) ∧ Below w.heap.size w w') := by
  have hg : GRel T E0 := by
    intro g n h
    obtain ⟨rfl, hlt⟩ := gn_lt h
    exact ⟨⟨n, 0, 0, []⟩, by simp [E0, hlt], rfl, rfl⟩
  have hR : R P E0 (Tr.leaf : Tr ABlk).get w := ⟨fun n b h => (by rw [Tr.get_leaf] at h; cases h), fun n b m b' e e' h => (by rw [Tr.get_leaf] at h; cases h)⟩
  refine (runC_sound hT noF_ok two_run hR (fun m hm => by simp [E0]; omega) hg (vs := [.int .i64 15]) ?_).mono ?_
  · simp only [VRelL, VRel]; exact ⟨_, _, rfl, rfl, rfl⟩
  · rintro e w' ⟨v, t', nx', W, E', val, rfl, hv, hm, hfin⟩
    have hW : ∀ n ∈ W, E0 n = none := by
      intro n hn
      match W, hfin, hn with
      | [a], hfin, hn =>
        simp only [finTwo, Bool.and_eq_true] at hfin
        obtain rfl : n = a := by simpa using hn
        have := ble_true hfin.1
        simp [E0]; omega
    have hveq : eqV 8 v (.func (.func 103) [] []) = true := by
      match W, hfin with
      | [], hfin => exact hfin
      | [a], hfin =>
        simp only [finTwo, Bool.and_eq_true] at hfin
        exact hfin.2
    have := eqV_inv _ _ _ hveq
    subst this
    simp only [VRel, VRelL] at hv
    obtain ⟨va, vb, rfl, rfl, rfl⟩ := hv
    have fr := hm.since.fr
    exact ⟨rfl, fr.os, fr.tape, fr.output, fr.size, fun k hk => fr.keep k hk fun n hn e he => by rw [hW n hn] at he; cases he⟩
end Go.Proofs.Sa1
