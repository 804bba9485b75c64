import Derived.Test.YtfgkpganiabpkaaGreatDoorF4
import Derived.Test.YtfgkpganiabpkaaGreatDoorY8
import Derived.Test.YtfgkpganiabpkaaGreatDoorK2
/- Proved in this claim (its last text holds the theorem): the given statement TopSharedFoldsCardSaid, with no condition of ours. This text is one part of that proof: runs of the statement's own function. -/
set_option linter.all false
namespace Go.Proofs.Sa1
open Go Go.Sx Go.RowKit
set_option maxRecDepth 100000

noncomputable def tbK : Tr (List Fact) := .node (.node (.node (.node .leaf none (.node .leaf (some [Sx1.f245]) .leaf)) none .leaf) none .leaf) none .leaf
theorem tbK_ok : FactsOk Sx1.T P (factsOf 12 Sx1.g0 Sx1.g0 tbK) := factsOf_ok ⟨⟨⟨⟨trivial, trivial, ⟨trivial, (by simp only [List.forall_mem_cons, List.not_mem_nil, false_implies, implies_true, and_true]; exact Sx1.f245_ok), trivial⟩⟩, trivial, trivial⟩, trivial, trivial⟩, trivial, trivial⟩ Sx1.hg0 Sx1.hi0
noncomputable def isSee (f : Nat) : Bool := Nat.beq f 10 || Nat.beq f 9 || Nat.beq f 13 || Nat.beq f 16 || Nat.beq f 19 || Nat.beq f 22
noncomputable def isFold (f : Nat) : Bool := Nat.beq f 8 || Nat.beq f 12 || Nat.beq f 15 || Nat.beq f 18 || Nat.beq f 21
/-- the contracts: of what apart calls -/
noncomputable def factsA : Facts := fun f args t nx =>
  match isSee f with
  | true => seeF 3 args t nx
  | false => (match Nat.beq f 26 with
    | true => sameF args t nx
    | false => (match Nat.beq f 24 with
      | true => greatF args t nx
      | false => (match Nat.beq f 45 with
        | true => copiedF 2 args t nx
        | false => (match isFold f with
          | true => arrF 2 args t nx
          | false => (match Nat.beq f 23 with
            | true => factsOf 12 Sx1.g0 Sx1.g0 tbK f args t nx
            | false => none)))))
theorem isSee_inv {f : Nat} (h : isSee f = true) : Tryz.SeeLike f := by
  simp only [isSee, Bool.or_eq_true] at h
  rcases h with ((((h | h) | h) | h) | h) | h <;> obtain rfl := beq_true h
  · exact Tryz.like10
  · exact Tryz.like9
  · exact Tryz.like13
  · exact Tryz.like16
  · exact Tryz.like19
  · exact Tryz.like22
theorem isFold_inv {f : Nat} (h : isFold f = true) : FOne P f (arrF 2) := by
  simp only [isFold, Bool.or_eq_true] at h
  rcases h with (((h | h) | h) | h) | h <;> obtain rfl := beq_true h
  · exact Tryz.arr_one 8 Tryz.sum8
  · exact Tryz.arr_one 12 Tryz.least12
  · exact Tryz.arr_one 15 Tryz.most15
  · exact Tryz.arr_one 18 Tryz.count18
  · exact Tryz.arr_one 21 Tryz.scan21
theorem factsA_ok : FactsOk T P factsA := by
  intro f args t nx outs h E w vs H hsub hR hfree hg hvs
  unfold factsA at h
  cases h1 : isSee f <;> rw [h1] at h <;> dsimp only at h
  · cases h2 : Nat.beq f 26 <;> rw [h2] at h <;> dsimp only at h
    · cases h3 : Nat.beq f 24 <;> rw [h3] at h <;> dsimp only at h
      · cases h4 : Nat.beq f 45 <;> rw [h4] at h <;> dsimp only at h
        · cases h5 : isFold f <;> rw [h5] at h <;> dsimp only at h
          · cases h6 : Nat.beq f 23 <;> rw [h6] at h <;> dsimp only at h
            · cases h
            · exact tbK_ok f args t nx outs h E w vs H hsub hR hfree hg hvs
          · exact isFold_inv h5 args t nx outs h E w vs H hsub hR hfree hvs
        · obtain rfl := beq_true h4
          exact Tryz.copied_one args t nx outs h E w vs H hsub hR hfree hvs
      · obtain rfl := beq_true h3
        exact Tryz.great_one args t nx outs h E w vs H hsub hR hfree hvs
    · obtain rfl := beq_true h2
      exact Tryz.same_one args t nx outs h E w vs H hsub hR hfree hvs
  · exact Tryz.see_one f (isSee_inv h1) args t nx outs h E w vs H hsub hR hfree hvs

noncomputable def allGe : List Nat → Bool
  | [] => true
  | a :: r => match Nat.ble 20 a with | true => allGe r | false => false
theorem allGe_inv : ∀ {l : List Nat}, allGe l = true → ∀ n ∈ l, 20 ≤ n
  | a :: r, h, n, hn => by
    simp only [allGe] at h
    cases hb : Nat.ble 20 a <;> rw [hb] at h
    · cases h
    · rcases List.mem_cons.1 hn with rfl | hn
      · exact ble_true hb
      · exact allGe_inv h n hn
noncomputable def finA : SV → Tr ABlk → Nat → List Nat → Bool := fun v _ _ W => eqV 8 v (.bool true) && allGe W
noncomputable def tG : Tr ABlk := ((Tr.leaf.put 0 (some (.cells false [.int .i64 0, .int .i64 0] 225))).put 7 (some (.cells false [.slice 12 0 4 (.known 4)] 45))).put 8 (some (.cells false [.slice 13 0 3 (.known 3)] 45))
theorem run_nil : runC T factsA 15 3 [.agg [.sym 16, .sym 17, .sym 18, .sym 19, .nilslice]] tG 20 finA = true := by kernel_rfl
theorem run_empty (ty : Nat) : runC T factsA 15 3 [.agg [.sym 16, .sym 17, .sym 18, .sym 19, .osl 14 []]] (tG.put 14 (some (.row false [] ty))) 20 finA = true := by kernel_rfl
theorem run_full (ty : Nat) : runC T factsA 15 3 [.agg [.sym 16, .sym 17, .sym 18, .sym 19, .osl 14 [.full true 15]]] (tG.put 14 (some (.row false [.full true 15] ty))) 20 finA = true := by kernel_rfl
end Go.Proofs.Sa1
