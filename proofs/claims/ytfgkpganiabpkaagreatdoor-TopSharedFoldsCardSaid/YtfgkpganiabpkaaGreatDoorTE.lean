import Derived.Test.YtfgkpganiabpkaaGreatDoorT1
import Derived.Test.YtfgkpganiabpkaaGreatDoorT3
import Derived.Test.YtfgkpganiabpkaaGreatDoorT4
import Derived.Test.YtfgkpganiabpkaaGreatDoorT5
import Derived.Test.YtfgkpganiabpkaaGreatDoorTD
/- Proved in this claim (its last text holds the theorem): the given statement TopSharedFoldsCardSaid, with no condition of ours. This text is one part of that proof: the row's own facts and the joining. -/
set_option linter.all false
namespace Go.Proofs.YtfgkpganiabpkaaGreatDoor
open Go Go.ChangeShapes Go.WideShapes Go.ChangeAt Go.RowKit
set_option maxRecDepth 100000
theorem own : ownKnob Tryz.prog.godebug = none := by kernel_rfl
theorem noin : Tryz.prog.inits.idxOf? 3 = none := by kernel_rfl
theorem fnamed : Tryz.prog.funcNamed "invigilator/invigilatortop.TopSharedFolds" = some 3 := by kernel_rfl
theorem rd27 : Tryz.prog.readableRec 27 = true := by kernel_rfl
theorem lt27 : decide (27 < Tryz.prog.types.size) = true := by kernel_rfl
theorem res3 : Tryz.f3.resultTypes = #[4] := by kernel_rfl

theorem lifted (os : Os) (started : os.Started) (H : Type) (enc : TypeId × Value → H) :
    ReturnsInHanded {} Tryz.checked os 3 .any (fun w args => (Rows.topSharedFoldsSpec.pre enc Tryz.prog Tryz.f3 [] false w args ∧ laidMetH Tryz.prog Rows.topSharedFoldsRow.laid w) ∧ sizedMet enc Tryz.prog Tryz.f3 (OpenSpec.ofChange Rows.topSharedFoldsSpec) false w args)
      (Rows.topSharedFoldsSpec.post enc Tryz.prog Tryz.f3 false true false false) := by
  refine returnsInHanded_of_calls (C := Tryz.checked) own started noin
    (ChangeSpec.witness_shaped (enc := enc) (C := Tryz.checked) (os := os) (X := fun w _ => laidMetH Tryz.prog Rows.topSharedFoldsRow.laid w) false (W0 os) arg0 8 (W0_os os) (w_shaped os) (w_ok os) (w_pre os H enc) (w_sized os H enc) (w_laid os)) ?_
  intro w tape i _ hsh _ hok hpre _
  obtain ⟨_, _, _, fn', hfn', _, _, _, _, hval0⟩ := hok
  obtain rfl : fn' = Tryz.f3 := Option.some.inj (hfn'.symm.trans Tryz.func3)
  obtain ⟨⟨⟨ds, gs, before, hw, _⟩, hx⟩, hz⟩ := hpre
  have hW' := DataW.Whole.of_heap (w' := w.forCall tape i) (by rfl) hw
  have hz' := hz.weights hw
  have hL : laidMetH Tryz.prog Rows.topSharedFoldsRow.laid (w.forCall tape i) := hx.of_heap (by rfl)
  generalize w.forCall tape i = W at *
  obtain ⟨args, _⟩ : ∃ a, a = i.args := ⟨_, rfl⟩
  have hval : ∀ (j : Nat) t v, Tryz.f3.params[j]? = some t → i.args[j]? = some v → Value.okWide Tryz.prog W .any _ t v := hval0
  generalize i.args = args at *
  have hWW := hW'
  obtain ⟨p, q, hA0, hV, rfl, hfz, hnd⟩ := hW'
  have hA : DataW.TrodAll enc Tryz.prog W 0 (fun _ => true) true Tryz.f3.params.toList args.toList ds p := hA0
  rw [Tryz.params3] at hA hval
  obtain ⟨v0, d0, rfl, rfl, h0⟩ := trodAll_one hA
  obtain ⟨rfl, rfl⟩ := trodVars_none hV
  have hz1 : (d0.weights Tryz.prog 27).all (· ≤ reachBytes) = true := by
    have hz2 : (DataW.weightsEach Tryz.prog (Tryz.f3.params.toList ++ (OpenSpec.ofChange Rows.topSharedFoldsSpec).bare.plain.varTypes Tryz.prog) ([d0] ++ [])).all (· ≤ reachBytes) = true := hz'
    rw [Tryz.params3] at hz2
    simp only [List.append_nil, List.cons_append, List.nil_append, DataW.weightsEach, List.all_append, Bool.and_eq_true] at hz2
    exact hz2.1
  obtain ⟨k, r, a, b, v, rfl, harg⟩ := open_arg (hval 0 27 v0 rfl rfl) h0 hz1
  have hlt : ∀ x ∈ p, x.block < W.heap.size := fun x hx => by simpa using hWW.lt x (by simpa using hx)
  refine (Sa1.folds_call k r a b v W (glob_ok hsh hL) harg).mono fun e W' he => ?_
  obtain ⟨rfl, hb⟩ := he
  exact ChangeSpec.post_blind ⟨_, _, _, [], _, [], hWW, trodAll_mk1 (shut_bool Tryz.underlying4 _), trodAll_mk1 (Below.trod s_laidOut rd27 (of_decide_eq_true lt27) h0 hb hlt), rfl, hb.frame _, fun h => by cases h⟩

theorem topSharedFolds_holds : Rows.TopSharedFoldsSaid :=
  OpenClaim.holds_of_wide 3 Tryz.f3 rfl rfl rfl rfl rfl rfl rfl ⟨rfl, rfl, rfl, rfl, rfl⟩ rfl rfl rfl rfl rfl fnamed Tryz.func3 closed
    (of_decide_eq_true (by kernel_rfl)) (by unfold Func.isWrapper; first | (rw [if_pos (by decide +kernel)]; kernel_rfl) | (rw [if_neg (by decide +kernel)]; exact ⟨rfl, rfl⟩))
    (fun os started H enc _ => lifted os started H enc)
end Go.Proofs.YtfgkpganiabpkaaGreatDoor
