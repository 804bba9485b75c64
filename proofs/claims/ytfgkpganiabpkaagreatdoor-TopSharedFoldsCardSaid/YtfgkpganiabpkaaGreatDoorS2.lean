import Derived.Test.YtfgkpganiabpkaaGreatDoorS1
/- Proved in this claim (its last text holds the theorem): the given statement TopSharedFoldsCardSaid, with no condition of ours. This text is one part of that proof: runs of the statement's own function. -/
set_option linter.all false
namespace Go.Proofs.Sa1
open Go Go.Sx Go.RowKit
set_option maxRecDepth 100000

def E1 (L : List Ent) : Env := envL E0 12 L
theorem E1_free {L : List Ent} (h : L.length = 8) : ∀ m, 20 ≤ m → E1 L m = none := by
  intro m hm
  unfold E1 envL
  rw [if_pos (by omega), List.getElem?_eq_none (by omega)]
  simp [E0]; omega
theorem E1_low {L : List Ent} {n : Nat} (h : n < 12) : E1 L n = some ⟨n, 0, 0, []⟩ := by
  unfold E1 envL
  rw [if_neg (by omega)]
  simp [E0, h]
theorem E1_grel (L : List Ent) : GRel T (E1 L) := by
  intro g n h
  obtain ⟨rfl, hlt⟩ := gn_lt h
  exact ⟨_, E1_low hlt, rfl, rfl⟩

structure GlobOk (W : World) : Prop where
  g0 : ∃ arr fz, W.heap[0]? = some (.cells arr 225 fz) ∧ arr[0]? = some (.int .i64 0) ∧ arr[1]? = some (.int .i64 0)
  g7 : ∃ arr fz b o, W.heap[7]? = some (.cells arr 45 fz) ∧ arr[0]? = some (.slice (some ⟨b, o, none⟩) 4 4)
  g8 : ∃ arr fz b o, W.heap[8]? = some (.cells arr 45 fz) ∧ arr[0]? = some (.slice (some ⟨b, o, none⟩) 3 3)

theorem tG_get (n : Nat) (b : ABlk) (h : tG.get n = some b) : (n = 0 ∧ b = .cells false [.int .i64 0, .int .i64 0] 225) ∨ (n = 7 ∧ b = .cells false [.slice 12 0 4 (.known 4)] 45) ∨ (n = 8 ∧ b = .cells false [.slice 13 0 3 (.known 3)] 45) := by
  unfold tG at h
  rw [Tr.get_put] at h
  split at h
  · cases h; exact .inr (.inr ⟨by assumption, rfl⟩)
  rw [Tr.get_put] at h
  split at h
  · cases h; exact .inr (.inl ⟨by assumption, rfl⟩)
  rw [Tr.get_put] at h
  split at h
  · cases h; exact .inl ⟨by assumption, rfl⟩
  · rw [Tr.get_leaf] at h; cases h

theorem globs_brel {W : World} (hG : GlobOk W) : ∃ b7 o7 b8 o8, ∀ L : List Ent, L[0]? = some ⟨b7, o7, 4, []⟩ → L[1]? = some ⟨b8, o8, 3, []⟩ → ∀ n b, tG.get n = some b → rwB b = false ∧ ∃ e, E1 L n = some e ∧ BRel P (E1 L) e b W := by
  obtain ⟨a0, z0, h0, x0, x1⟩ := hG.g0
  obtain ⟨a7, z7, b7, o7, h7, y7⟩ := hG.g7
  obtain ⟨a8, z8, b8, o8, h8, y8⟩ := hG.g8
  refine ⟨b7, o7, b8, o8, fun L l0 l1 n b hn => ?_⟩
  have e12 : E1 L 12 = some ⟨b7, o7, 4, []⟩ := envL_at 0 l0
  have e13 : E1 L 13 = some ⟨b8, o8, 3, []⟩ := envL_at 1 l1
  rcases tG_get n b hn with ⟨rfl, rfl⟩ | ⟨rfl, rfl⟩ | ⟨rfl, rfl⟩
  · refine ⟨rfl, _, E1_low (by omega), a0, z0, h0, fun i x hi => ?_, fun h => by cases h⟩
    match i, hi with
    | 0, hi => cases hi; exact ⟨_, x0, rfl⟩
    | 1, hi => cases hi; exact ⟨_, x1, rfl⟩
  · refine ⟨rfl, _, E1_low (by omega), a7, z7, h7, fun i x hi => ?_, fun h => by cases h⟩
    match i, hi with
    | 0, hi => cases hi; exact ⟨_, y7, ⟨_, e12, 4, ⟨Nat.le_refl _, rfl⟩, rfl⟩⟩
  · refine ⟨rfl, _, E1_low (by omega), a8, z8, h8, fun i x hi => ?_, fun h => by cases h⟩
    match i, hi with
    | 0, hi => cases hi; exact ⟨_, y8, ⟨_, e13, 3, ⟨Nat.le_refl _, rfl⟩, rfl⟩⟩

def ArgOk (W : World) (v : Value) : Prop := v = .slice none 0 0 ∨ ∃ (b o cap : Nat) (vs : List Value) (arr : Array Value) (ty : TypeId) (fz : Nat × Nat), v = .slice (some ⟨b, o, none⟩) vs.length cap ∧ vs.length ≤ cap ∧ cap ≤ 17592186044416 ∧ W.heap[b]? = some (.cells arr ty fz) ∧
  (∀ (i : Nat) (u : Value), vs[i]? = some u → arr[o + i]? = some u) ∧ ∀ u ∈ vs, ∃ i, u = Value.int .i64 i

theorem fin_below {W : World} {L : List Ent} (hL : L.length = 8) {e : Ending} {w' : World} {nx : Nat}
    (h : ∃ v t' nx' W' E' val, e = .returned val ∧ VRel E' v val ∧ Mem T P nx (E1 L) W E' t' nx' W' w' ∧ finA v t' nx' W' = true) : e = .returned (.bool true) ∧ Below W.heap.size W w' := by
  obtain ⟨v, t', nx', W', E', val, rfl, hv, hm, hfin⟩ := h
  simp only [finA, Bool.and_eq_true] at hfin
  have := eqV_inv _ _ _ hfin.1
  subst this
  simp only [VRel] at hv
  subst hv
  have hge := allGe_inv hfin.2
  have fr := hm.since.fr
  exact ⟨rfl, fr.os, fr.tape, fr.output, fr.size, fun k hk => fr.keep k hk fun n hn e he => by rw [E1_free hL n (hge n hn)] at he; cases he⟩

theorem folds_call (k r a b : Int) (v : Value) (W : World) (hG : GlobOk W) (hv : ArgOk W v) : Calls P 3 #[Tryz.arrV k r a b v] W (fun e W' => e = .returned (.bool true) ∧ Below W.heap.size W W') := by
  obtain ⟨b7, o7, b8, o8, hgl⟩ := globs_brel hG
  rcases hv with rfl | ⟨b0, o0, cap, vs, arr, ty, fz, rfl, h1, h2, h3, h4, h5⟩
  · let L : List Ent := [⟨b7, o7, 4, []⟩, ⟨b8, o8, 3, []⟩, ⟨0, 0, 0, []⟩, ⟨0, 0, 0, []⟩, Tryz.entI 0 k, Tryz.entI 0 r, Tryz.entI 0 a, Tryz.entI 0 b]
    have hb := hgl L rfl rfl
    refine Calls.mono (runC_sound hT factsA_ok run_nil ⟨fun n x hn => (hb n x hn).2, fun n x m y e e' hn hw => by rw [(hb n x hn).1] at hw; cases hw⟩ (E1_free (L := L) rfl) (E1_grel L) (vs := [Tryz.arrV k r a b (.slice none 0 0)]) ?_) fun e w' h => fin_below rfl h
    refine VRelL.cons ?_ VRelL.nil
    simp only [VRel, VRelL]
    exact ⟨_, ⟨_, _, ⟨_, envL_at 4 rfl, k, rfl, rfl⟩, ⟨_, _, ⟨_, envL_at 5 rfl, r, rfl, rfl⟩, ⟨_, _, ⟨_, envL_at 6 rfl, a, rfl, rfl⟩, ⟨_, _, ⟨_, envL_at 7 rfl, b, rfl, rfl⟩, ⟨_, _, rfl, rfl, rfl⟩, rfl⟩, rfl⟩, rfl⟩, rfl⟩, rfl⟩
  · let L : List Ent := [⟨b7, o7, 4, []⟩, ⟨b8, o8, 3, []⟩, ⟨b0, o0, cap, []⟩, ⟨0, 0, 0, vs⟩, Tryz.entI 0 k, Tryz.entI 0 r, Tryz.entI 0 a, Tryz.entI 0 b]
    have hb := hgl L rfl rfl
    have e14 : E1 L 14 = some ⟨b0, o0, cap, []⟩ := envL_at 2 rfl
    have e15 : E1 L 15 = some ⟨0, 0, 0, vs⟩ := envL_at 3 rfl
    by_cases hvs : vs = []
    · subst hvs
      have hR : R P (E1 L) (tG.put 14 (some (.row false [] ty))).get W := by
        refine ⟨fun n x hn => ?_, fun n x m y e e' hn hw => ?_⟩
        · rw [Tr.get_put] at hn
          split at hn
          · subst n; cases hn
            exact ⟨_, e14, arr, fz, fun a ha => (by cases ha), h3, fun i u hu => by simp [evalR] at hu, fun h => by cases h⟩
          · exact (hb n x hn).2
        · rw [Tr.get_put] at hn
          split at hn
          · cases hn; cases hw
          · rw [(hb n x hn).1] at hw; cases hw
      refine Calls.mono (runC_sound hT factsA_ok (run_empty ty) hR (E1_free (L := L) rfl) (E1_grel L) (vs := [Tryz.arrV k r a b (.slice (some ⟨b0, o0, none⟩) 0 cap)]) ?_) fun e w' h => fin_below rfl h
      refine VRelL.cons ?_ VRelL.nil
      simp only [VRel, VRelL]
      exact ⟨_, ⟨_, _, ⟨_, envL_at 4 rfl, k, rfl, rfl⟩, ⟨_, _, ⟨_, envL_at 5 rfl, r, rfl, rfl⟩, ⟨_, _, ⟨_, envL_at 6 rfl, a, rfl, rfl⟩, ⟨_, _, ⟨_, envL_at 7 rfl, b, rfl, rfl⟩,
        ⟨_, _, ⟨_, e14, fun a ha => (by cases ha), Nat.zero_le _, by show cap ≤ 9223372036854775807; omega, rfl⟩, rfl, rfl⟩, rfl⟩, rfl⟩, rfl⟩, rfl⟩, rfl⟩
    · have hev : evalR (E1 L) [.full true 15] = vs := by simp [evalR, evalA, datN, e15]
      have hdef : defR (E1 L) [.full true 15] := by
        intro a ha
        obtain rfl : a = .full true 15 := by simpa using ha
        refine ⟨fun q hq => ?_, fun q hq => ?_⟩
        · cases hq; exact ⟨by rw [e15]; simp, fun u hu => h5 u (by simpa [datN, e15] using hu)⟩
        · cases hq
          have : datN (E1 L) 15 = vs := by simp [datN, e15]
          rw [this]; exact ⟨hvs, by omega⟩
      have hR : R P (E1 L) (tG.put 14 (some (.row false [.full true 15] ty))).get W := by
        refine ⟨fun n x hn => ?_, fun n x m y e e' hn hw => ?_⟩
        · rw [Tr.get_put] at hn
          split at hn
          · subst n; cases hn
            exact ⟨_, e14, arr, fz, hdef, h3, fun i u hu => by rw [hev] at hu; exact h4 i u hu, fun h => by cases h⟩
          · exact (hb n x hn).2
        · rw [Tr.get_put] at hn
          split at hn
          · cases hn; cases hw
          · rw [(hb n x hn).1] at hw; cases hw
      refine Calls.mono (runC_sound hT factsA_ok (run_full ty) hR (E1_free (L := L) rfl) (E1_grel L) (vs := [Tryz.arrV k r a b (.slice (some ⟨b0, o0, none⟩) vs.length cap)]) ?_) fun e w' h => fin_below rfl h
      refine VRelL.cons ?_ VRelL.nil
      simp only [VRel, VRelL]
      exact ⟨_, ⟨_, _, ⟨_, envL_at 4 rfl, k, rfl, rfl⟩, ⟨_, _, ⟨_, envL_at 5 rfl, r, rfl, rfl⟩, ⟨_, _, ⟨_, envL_at 6 rfl, a, rfl, rfl⟩, ⟨_, _, ⟨_, envL_at 7 rfl, b, rfl, rfl⟩,
        ⟨_, _, ⟨_, e14, hdef, by rw [hev]; exact h1, by show cap ≤ 9223372036854775807; omega, by rw [hev]⟩, rfl, rfl⟩, rfl⟩, rfl⟩, rfl⟩, rfl⟩, rfl⟩
end Go.Proofs.Sa1
