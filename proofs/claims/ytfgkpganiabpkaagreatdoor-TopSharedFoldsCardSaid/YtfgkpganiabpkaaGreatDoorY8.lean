import Derived.Test.YtfgkpganiabpkaaGreatDoorY7
/- Proved in this claim (its last text holds the theorem): the given statement TopSharedFoldsCardSaid, with no condition of ours. This text is one part of that proof: contracts of the functions that the statement's code calls. -/
set_option linter.all false
namespace Go.Proofs.Tryz
open Go Go.Sx Go.RowKit
set_option linter.unusedVariables false

theorem five_in {cx rest : List SV} {off : Nat} {k r l0 l1 cs a b c d e : SV} (h : cx.drop off = k :: r :: l0 :: l1 :: cs :: rest) (i : Nat) :
    (put5L cx off a b c d e)[i]? = if i < off then cx[i]? else if i = off then some a else if i = off + 1 then some b else if i = off + 2 then some c else if i = off + 3 then some d else if i = off + 4 then some e else cx[i]? := by
  have hlen : off ≤ cx.length := by
    rcases Nat.lt_or_ge cx.length off with h1 | h1
    · rw [List.drop_eq_nil_of_le (by omega)] at h; cases h
    · exact h1
  have htl : (cx.take off).length = off := by simp; omega
  unfold put5L
  by_cases h1 : i < off
  · rw [if_pos h1, List.getElem?_append_left (by omega), List.getElem?_take, if_pos h1]
  · rw [if_neg h1, List.getElem?_append_right (by omega), htl]
    obtain ⟨j, rfl⟩ : ∃ j, i = off + j := ⟨i - off, by omega⟩
    rw [Nat.add_sub_cancel_left]
    match j with
    | 0 => simp
    | 1 => simp
    | 2 => simp
    | 3 => simp
    | 4 => simp
    | j + 5 =>
      rw [if_neg (by omega), if_neg (by omega), if_neg (by omega), if_neg (by omega), if_neg (by omega)]
      simp only [List.getElem?_cons_succ, List.getElem?_drop]
      congr 1
      omega

theorem intAt_cells {w : World} {b i : Nat} {arr : Array Value} {ty : TypeId} {fz : Nat × Nat} (h : w.heap[b]? = some (.cells arr ty fz)) (hi : IntAt w b i) : ∃ z, arr[i]? = some (.int .i64 z) := by
  obtain ⟨⟨z, hz⟩, _⟩ := hi
  exact ⟨z, by rw [cell_of_row w b i arr ty fz h] at hz; exact hz⟩

/-- a whole sight of what see10m leaves -/
theorem seeM_ok (f : FuncId) (hf : SeeLike f) {args : List SV} {t : Tr ABlk} {nx : Nat} {p : SeeP} {outs : List Out} (hp : seeParts args t nx = some p) (hm : p.mark = .bool true) (h : seeM 3 p t nx = some outs)
    {E : Env} {w : World} {vs : List Value} {H : HF} (hsub : ∀ n b, t.get n = some b → H n = some b) (hR : R prog E H w) (hfree : ∀ out ∈ outs, ∀ v d nn, Out.fin nx out = some (v, d, nn) → ∀ n, nx ≤ n → n < nn → E n = none) (hvs : VRelL E args vs) :
    Calls prog f vs.toArray w fun e w' => ∃ out ∈ outs, ∃ v d nn, Out.fin nx out = some (v, d, nn) ∧ ∃ E' val, e = .returned val ∧ VRel E' v val ∧ Eff prog E nx H w d nn E' w' := by
  obtain ⟨ee, xe, arrE, fzE, arrX, fzX, rest, rfl, hee, hxe, hne, hle, hlx, hte, htx, hcx, e1, e2, e3, x1, x2, x3, hblk⟩ := seeParts_inv hp hsub hR hvs
  obtain ⟨g0, g1, g2, g3, g4⟩ := getElem_drop hcx
  unfold seeM at h
  cases hn : (isNil p.n && p.xw) <;> rw [hn] at h <;> dsimp only at h <;> first | (cases h; done) | skip
  simp only [Bool.and_eq_true] at hn
  obtain ⟨hn, hxw⟩ := hn
  have x3 := x3 hxw
  cases a1 : atomOf p.k <;> rw [a1] at h <;> (try dsimp only at h) <;> first | (cases h; done) | skip
  cases a2 : atomOf p.r <;> rw [a2] at h <;> (try dsimp only at h) <;> first | (cases h; done) | skip
  cases a3 : atomOf p.l0 <;> rw [a3] at h <;> (try dsimp only at h) <;> first | (cases h; done) | skip
  cases a4 : atomOf p.l1 <;> rw [a4] at h <;> (try dsimp only at h) <;> first | (cases h; done) | skip
  cases a7 : atomOf p.at_ <;> rw [a7] at h <;> (try dsimp only at h) <;> first | (cases h; done) | skip
  cases a5 : rowOf t p.cs <;> rw [a5] at h <;> (try dsimp only at h) <;> first | (cases h; done) | skip
  rename_i k r l0 l1 at_ q
  obtain ⟨re, ob⟩ := q
  obtain ⟨xk, k1, k2⟩ := x2 _ _ g0
  obtain ⟨xr, r1, r2⟩ := x2 _ _ g1
  obtain ⟨xa, c1, c2⟩ := x2 _ _ g2
  obtain ⟨xb, d1, d2⟩ := x2 _ _ g3
  obtain ⟨xc, f1, f2⟩ := x2 _ _ g4
  obtain ⟨ki, rfl, hk⟩ := atomOf_inv a1 k2
  obtain ⟨ri, rfl, hr⟩ := atomOf_inv a2 r2
  obtain ⟨ai, rfl, ha⟩ := atomOf_inv a3 c2
  obtain ⟨bi, rfl, hb⟩ := atomOf_inv a4 d2
  obtain ⟨n0, n1, n2⟩ := e2 0 _ rfl
  obtain ⟨_, rfl⟩ := isNil_inv hn n2
  obtain ⟨m0, m1, m2⟩ := e2 2 _ rfl
  rw [hm] at m2
  simp only [VRel] at m2
  subst m2
  obtain ⟨t0, t1, t2⟩ := e2 3 _ rfl
  obtain ⟨ti, rfl, _⟩ := atomOf_inv a7 t2
  obtain ⟨hd, hrow⟩ := rowOf_inv a5 hsub hR f2
  have cE : ∀ i, w.cell? ⟨ee.blk, i, none⟩ = arrE[i]? := fun i => cell_of_row w ee.blk i arrE p.ety fzE e1
  have cX : ∀ i, w.cell? ⟨xe.blk, i, none⟩ = arrX[i]? := fun i => cell_of_row w xe.blk i arrX p.xty fzX x1
  have frE : ∀ i, i < arrE.size → w.frozen? ⟨ee.blk, i, none⟩ = false := fun i hi => by
    simp only [World.frozen?, e1]
    have := e3.1 i hi
    by_cases hx : fzE.1 ≤ i
    · have : ¬ i < fzE.2 := fun y => this ⟨hx, y⟩
      simp [this]
    · simp [hx]
  have frX : ∀ i, i < arrX.size → w.frozen? ⟨xe.blk, i, none⟩ = false := fun i hi => by
    simp only [World.frozen?, x1]
    have := x3.1 i hi
    by_cases hx : fzX.1 ≤ i
    · have : ¬ i < fzX.2 := fun y => this ⟨hx, y⟩
      simp [this]
    · simp [hx]
  have ltA : ∀ {arr : Array Value} {i : Nat} {v : Value}, arr[i]? = some v → i < arr.size := fun h => (Array.getElem?_eq_some_iff.1 h).1
  have hst : MarkSt w w.heap.size ee.blk ee.base 0 := ⟨lt_heap e1, Nat.le_refl _, ⟨_, [], by rw [cE]; exact n1, ⟨rfl, .inl ⟨rfl, rfl⟩⟩, by simp⟩, by rw [cE]; exact m1, ⟨⟨ti, by rw [cE]; exact t1⟩, frE _ (ltA t1)⟩, frE _ (ltA n1)⟩
  have hints : IntsM w w.heap.size ee.blk xe.blk xc := by
    rcases hrow with ⟨_, rfl, _, rfl⟩ | ⟨b, rw_, ty, hcs, hob, htb, ⟨e, arr, fz, he, rfl, h1, h2, h3, h4, h5⟩⟩
    · exact .inl rfl
    · have hb1 : e.blk ≠ ee.blk := hR.own p.e _ b _ ee e (hsub _ _ hte) rfl (hsub _ _ htb) (fun hx => by rw [hx, hte] at htb; cases htb) hee he
      have hb2 : e.blk ≠ xe.blk := hR.own p.xb _ b _ xe e (hsub _ _ htx) (by rw [hxw]; rfl) (hsub _ _ htb) (fun hx => by rw [hx, htx] at htb; cases htb) hxe he
      refine .inr ⟨e.blk, e.base, _, e.cap, rfl, lt_heap h3, hb1, hb2, by unfold maxLen; omega, fun j hj => ?_⟩
      obtain ⟨z, hz⟩ := evalR_ints hd _ (List.getElem_mem hj)
      refine ⟨⟨z, by rw [cell_of_row w e.blk (e.base + j) arr ty fz h3]; exact h4 j _ (by rw [List.getElem?_eq_getElem hj, hz])⟩, ?_⟩
      have hw : rw_ = true := by
        rcases re with _ | ⟨a, _ | ⟨_, _⟩⟩
        · simp [evalR] at hj
        · cases a <;> simp only [reduceCtorEq] at h
          subst hob
          dsimp only at h
          cases hc : (rw_ && Nat.ble (Nat.succ b) nx && !(Nat.beq b p.e) && !(Nat.beq b p.xb)) <;> rw [hc] at h <;> first | (cases h; done) | skip
          simp only [Bool.and_eq_true] at hc
          exact hc.1.1.1
        · simp at h
      obtain ⟨hb0, hfz, _⟩ := h5 hw
      simp only [World.frozen?, h3, hfz]
      simp
  have hi4 : ∀ j, j < 4 → IntAt w xe.blk (xe.base + p.off + j) := by
    intro j hj
    rcases (by omega : j = 0 ∨ j = 1 ∨ j = 2 ∨ j = 3) with rfl | rfl | rfl | rfl
    · exact ⟨⟨ki, by rw [cX]; exact k1⟩, frX _ (ltA k1)⟩
    · exact ⟨⟨ri, by rw [cX, Nat.add_assoc]; exact r1⟩, by rw [Nat.add_assoc]; exact frX _ (ltA r1)⟩
    · exact ⟨⟨ai, by rw [cX, Nat.add_assoc]; exact c1⟩, by rw [Nat.add_assoc]; exact frX _ (ltA c1)⟩
    · exact ⟨⟨bi, by rw [cX, Nat.add_assoc]; exact d1⟩, by rw [Nat.add_assoc]; exact frX _ (ltA d1)⟩
  refine hf _ _ w _ ?_ ((see10m w.heap.size ee.blk ee.base xe.blk (xe.base + p.off) xc w hst (lt_heap x1) hblk hi4 (by rw [cX, Nat.add_assoc]; exact f1) hints).mono ?_)
  · rintro e w' ⟨out, hout, v, d, nn, hfin, E', val, rfl, hv, _⟩
    have : v = .tuple [] := by
      rcases re with _ | ⟨a, _ | ⟨_, _⟩⟩
      · cases h; obtain rfl := List.mem_singleton.1 hout; cases hfin; rfl
      · cases a <;> simp only [reduceCtorEq] at h
        rcases ob with _ | ⟨b, rw_, ty⟩ <;> dsimp only at h
        · cases h
        · cases hc : (rw_ && Nat.ble (Nat.succ b) nx && !(Nat.beq b p.e) && !(Nat.beq b p.xb)) <;> rw [hc] at h <;> cases h
          obtain rfl := List.mem_singleton.1 hout; cases hfin; rfl
      · simp at h
    subst this
    simp only [VRel, VRelL] at hv
    obtain ⟨_, rfl, rfl⟩ := hv
    rfl
  rintro e w' ⟨rfl, hbut, ⟨m, hst'⟩, hi4', hints'⟩
  -- the blocks, behind it
  have hzc : ∀ k i, ZC xc k i → k ≠ ee.blk ∧ k ≠ xe.blk := by
    rintro k i ⟨oc, len, cap, hx, _⟩
    rcases hints with rfl | ⟨bc, oc', len', cap', rfl, _, q1, q2, _⟩
    · cases hx
    · injection hx with hx; injection hx with hx; injection hx with hx _
      exact ⟨hx ▸ q1, hx ▸ q2⟩
  obtain ⟨arrE', hE1, hE2, hE3⟩ := hbut.turned ee.blk (lt_heap e1) arrE p.ety fzE e1
  have hE4 : ∀ i, i ≠ ee.base → i ≠ ee.base + 3 → arrE'[i]? = arrE[i]? := fun i h1 h2 => hE3 i (by
    rintro (⟨_, h | h⟩ | ⟨h, _⟩ | h)
    · exact h1 h
    · exact h2 h
    · exact hblk h.symm
    · exact (hzc _ _ h).1 rfl)
  obtain ⟨arrX', hX1, hX2, hX3⟩ := hbut.turned xe.blk (lt_heap x1) arrX p.xty fzX x1
  have hX4 : ∀ i, ¬ (xe.base + p.off ≤ i ∧ i < xe.base + p.off + 4) → arrX'[i]? = arrX[i]? := fun i h1 => hX3 i (by
    rintro (⟨h, _⟩ | ⟨_, h2, h3⟩ | h)
    · exact hblk h
    · exact h1 ⟨h2, h3⟩
    · exact (hzc _ _ h).2 rfl)
  obtain ⟨v, xs, hv1, ho, hxs⟩ := hst'.row
  have hvne : v ≠ .slice none 0 0 := by
    rintro rfl
    rcases ho.2 with ⟨_, h0⟩ | ⟨_, _, _, h0, _⟩
    · omega
    · cases h0
  obtain ⟨g, cap, cur, rfl, q1, q2, q3, q4, q5, q6, q7⟩ := fresh_ent (w := w) ho hvne
  rw [cell_of_row w' ee.blk ee.base arrE' p.ety fzE hE1] at hv1
  obtain ⟨k', hk'⟩ := intAt_cells hX1 (hi4' 0 (by omega))
  obtain ⟨r', hr'⟩ := intAt_cells hX1 (hi4' 1 (by omega))
  obtain ⟨a', ha'⟩ := intAt_cells hX1 (hi4' 2 (by omega))
  obtain ⟨b', hb'⟩ := intAt_cells hX1 (hi4' 3 (by omega))
  obtain ⟨t', ht'⟩ := intAt_cells hE1 hst'.at_
  have hltb : ∀ {b : Nat} {x : Ent}, E b = some x → ∀ nn, (∀ n, nx ≤ n → n < nn → E n = none) → b < nx ∨ nn ≤ b := by
    intro b x hb nn hf
    by_cases h1 : nx ≤ b
    · by_cases h2 : b < nn
      · rw [hf b h1 h2] at hb; cases hb
      · exact .inr (by omega)
    · exact .inl (by omega)
  have hcase : re = [] ∨ ∃ ne rn, re = [.full ne rn] := by
    rcases re with _ | ⟨a, _ | ⟨_, _⟩⟩
    · exact .inl rfl
    · cases a <;> simp only [reduceCtorEq] at h
      exact .inr ⟨_, _, rfl⟩
    · simp at h
  rcases hcase with rfl | ⟨ne, rn, rfl⟩
  · cases h
    let L : List Ent := [entI w.heap.size k', entI w.heap.size r', entI w.heap.size a', entI w.heap.size b', entI w.heap.size 0, ⟨g, 0, cap, []⟩, ⟨w.heap.size, 0, 0, xs⟩, entI w.heap.size t']
    have hfr := hfree _ (List.mem_singleton.2 rfl) _ _ _ rfl
    have hx : Ext E (envL E nx L) := envL_ext fun n hn1 hn2 => hfr n hn1 (by simpa [L] using hn2)
    have h5 : envL E nx L (nx + 5) = some ⟨g, 0, cap, []⟩ := envL_at 5 rfl
    have h6 : envL E nx L (nx + 6) = some ⟨w.heap.size, 0, 0, xs⟩ := envL_at 6 rfl
    have hev : evalR (envL E nx L) [.full false (nx + 6)] = xs := by simp [evalR, evalA, datN, h6]
    have hdef : defR (envL E nx L) [.full false (nx + 6)] := by
      intro a ha
      obtain rfl : a = .full false (nx + 6) := by simpa using ha
      refine ⟨fun q hq => ?_, fun q hq => (by cases hq)⟩
      cases hq
      exact ⟨by rw [h6]; simp, fun u hu => hxs u (by simpa [datN, h6] using hu)⟩
    have hvc : VRel (envL E nx L) p.cs xc := VRel.ext hx _ _ f2
    refine ⟨_, List.mem_singleton.2 rfl, _, _, _, rfl, envL E nx L, _, rfl, ?_, Eff.of hR ?_ hx (fun n hn => by simpa [L] using envL_dom n hn) (by omega) (fun n hn hl => ?_) (fun n hn hge => ?_) ⟨hbut.size, hbut.os, hbut.tape, hbut.output, fun b hb1 hb2 => ?_⟩ (fun n b hb1 => ?_) (fun n e hn he => .inl ?_) (fun n b m c h1 h2 hne' => ?_)⟩
    · simp only [VRel, VRelL]; exact ⟨_, rfl, rfl⟩
    · simp [namesD]; omega
    · simp only [namesD, List.map_cons, List.map_nil, List.mem_cons, List.not_mem_nil, or_false] at hn
      rcases hn with rfl | rfl | rfl
      · exact ⟨_, hsub _ _ htx, by rw [hxw]; rfl⟩
      · omega
      · exact ⟨_, hsub _ _ hte, rfl⟩
    · simp only [namesD, List.map_cons, List.map_nil, List.mem_cons, List.not_mem_nil, or_false] at hn
      rcases hn with rfl | rfl | rfl
      · omega
      · exact hfr _ (by omega) (by omega)
      · omega
    · refine hbut.block b hb1 fun i hz => ?_
      rcases hz with ⟨h, _⟩ | ⟨h, _⟩ | hz
      · exact hb2 p.e (mem_dWn (by simp [namesD]) hle) ee hee h.symm
      · exact hb2 p.xb (mem_dWn (by simp [namesD]) hlx) xe hxe h.symm
      · rcases hrow with ⟨_, _, _, rfl⟩ | ⟨b1, rw_, ty, hcs, _, htb, ⟨e, arr, fz, he, rfl, h1, h2, h3, h4, _⟩⟩
        · obtain ⟨_, _, _, h, _⟩ := hz; cases h
        · obtain ⟨_, _, _, h, h7, h8⟩ := hz
          injection h with _ h9 _
          simp [evalR] at h9
          omega
    · simp only [List.mem_cons, Prod.mk.injEq, Option.some.injEq, List.not_mem_nil, or_false] at hb1
      rcases hb1 with ⟨rfl, rfl⟩ | ⟨rfl, rfl⟩ | ⟨rfl, rfl⟩
      · refine ⟨xe, hx _ _ hxe, arrX', fzX, hX1, fun i x hi => ?_, fun _ => by rw [hX2]; exact x3⟩
        rw [five_in hcx] at hi
        split at hi
        · obtain ⟨y, y1, y2⟩ := x2 i x hi
          exact ⟨y, by rw [hX4 (xe.base + i) (by omega)]; exact y1, VRel.ext hx _ _ y2⟩
        split at hi
        · subst i; cases hi; exact ⟨_, hk', ⟨_, envL_at 0 rfl, _, rfl, rfl⟩⟩
        split at hi
        · subst i; cases hi; exact ⟨_, by rw [← Nat.add_assoc]; exact hr', ⟨_, envL_at 1 rfl, _, rfl, rfl⟩⟩
        split at hi
        · subst i; cases hi; exact ⟨_, by rw [← Nat.add_assoc]; exact ha', ⟨_, envL_at 2 rfl, _, rfl, rfl⟩⟩
        split at hi
        · subst i; cases hi; exact ⟨_, by rw [← Nat.add_assoc]; exact hb', ⟨_, envL_at 3 rfl, _, rfl, rfl⟩⟩
        split at hi
        · subst i; cases hi; exact ⟨xc, by rw [hX4 _ (by omega)]; exact f1, hvc⟩
        · obtain ⟨y, y1, y2⟩ := x2 i x hi
          exact ⟨y, by rw [hX4 (xe.base + i) (by omega)]; exact y1, VRel.ext hx _ _ y2⟩
      · exact ⟨_, h5, cur, (0, 0), hdef, q2, fun i u hu => by rw [hev] at hu; simpa using q7 i u hu, fun _ => ⟨rfl, rfl, q5⟩⟩
      · refine ⟨ee, hx _ _ hee, arrE', fzE, hE1, fun i x hi => ?_, fun _ => by rw [hE2]; exact e3⟩
        match i, hi with
        | 0, hi =>
          cases hi
          exact ⟨_, hv1, ⟨_, h5, hdef, by rw [hev, q6]; exact q3, by unfold maxLen at q4; exact q4, by rw [hev, q6]⟩⟩
        | 1, hi =>
          obtain ⟨y, y1, y2⟩ := e2 1 x hi
          exact ⟨y, by rw [hE4 _ (by omega) (by omega)]; exact y1, VRel.ext hx _ _ y2⟩
        | 2, hi =>
          obtain ⟨y, y1, y2⟩ := e2 2 x hi
          exact ⟨y, by rw [hE4 _ (by omega) (by omega)]; exact y1, VRel.ext hx _ _ y2⟩
        | 3, hi =>
          cases hi
          exact ⟨_, ht', ⟨_, envL_at 7 rfl, _, rfl, rfl⟩⟩
    · have := envL_new hn he
      simp [L] at this
      rcases this with rfl | rfl | rfl | rfl | rfl | rfl | rfl | rfl <;> first | exact Nat.le_refl _ | exact q1
    · simp only [List.mem_cons, Prod.mk.injEq, Option.some.injEq, List.not_mem_nil, or_false] at h1 h2
      intro e e' he he'
      have hge : ee.blk < g := Nat.lt_of_lt_of_le (lt_heap e1) q1
      have hgx : xe.blk < g := Nat.lt_of_lt_of_le (lt_heap x1) q1
      have hat1 := hx _ _ hee
      have hat2 := hx _ _ hxe
      rcases h1 with ⟨rfl, _⟩ | ⟨rfl, _⟩ | ⟨rfl, _⟩ <;> rcases h2 with ⟨rfl, _⟩ | ⟨rfl, _⟩ | ⟨rfl, _⟩ <;>
        first
        | exact absurd rfl hne'
        | (simp only [hat1, hat2, h5, Option.some.injEq] at he he'; subst he; subst he'; first | omega | exact hblk | exact hblk.symm | exact Nat.ne_of_lt hge | exact Nat.ne_of_lt hgx | exact (Nat.ne_of_lt hge).symm | exact (Nat.ne_of_lt hgx).symm)
  · obtain ⟨_, hx0, _⟩ | ⟨b, rw_, ty, hcs, rfl, htb, ⟨e0, arr, fz, he0, rfl, z1, z2, z3, z4, z5⟩⟩ := hrow
    · cases hx0
    dsimp only at h
    cases hc : (rw_ && Nat.ble (Nat.succ b) nx && !(Nat.beq b p.e) && !(Nat.beq b p.xb)) <;> rw [hc] at h <;> cases h
    simp only [Bool.and_eq_true, Bool.not_eq_true'] at hc
    obtain ⟨⟨⟨hw, hbx⟩, hbe⟩, hbxb⟩ := hc
    subst hw
    have hbx := ble_true hbx
    have hbe : b ≠ p.e := fun h => by rw [h, Nat.beq_refl] at hbe; cases hbe
    have hbxb : b ≠ p.xb := fun h => by rw [h, Nat.beq_refl] at hbxb; cases hbxb
    obtain ⟨hb0, rfl, hbs⟩ := z5 rfl
    have hbk1 : e0.blk ≠ ee.blk := hR.own p.e _ b _ ee e0 (hsub _ _ hte) rfl (hsub _ _ htb) hbe hee he0
    have hbk2 : e0.blk ≠ xe.blk := hR.own p.xb _ b _ xe e0 (hsub _ _ htx) (by rw [hxw]; rfl) (hsub _ _ htb) hbxb hxe he0
    obtain ⟨arrB', hB1, hB2, hB3⟩ := hbut.turned e0.blk (lt_heap z3) arr ty (0, 0) z3
    have hdat : evalR E [.full ne rn] = datN E rn := by simp [evalR, evalA]
    rw [hdat] at z1 z4
    obtain ⟨dd1, dd2⟩ := hd (.full ne rn) List.mem_cons_self
    have hcell : ∀ j, j < (datN E rn).length → ∃ z, arrB'[j]? = some (.int .i64 z) := by
      intro j hj
      rcases hints' with h | ⟨bc, oc, len, cap', h, _, _, _, _, h6⟩
      · cases h
      · injection h with h h7 _
        injection h with h
        injection h with h8 h9 _
        subst h8 h9 h7
        have := intAt_cells hB1 (h6 j (by rw [hdat]; exact hj))
        rw [hb0, Nat.zero_add] at this
        exact this
    have hys : (arrB'.toList.take (datN E rn).length).length = (datN E rn).length := by simp; omega
    let L : List Ent := [entI w.heap.size k', entI w.heap.size r', entI w.heap.size a', entI w.heap.size b', entI w.heap.size 0, ⟨g, 0, cap, []⟩, ⟨w.heap.size, 0, 0, xs⟩, entI w.heap.size t', ⟨w.heap.size, 0, 0, arrB'.toList.take (datN E rn).length⟩]
    have hfr := hfree _ (List.mem_singleton.2 rfl) _ _ _ rfl
    have hx : Ext E (envL E nx L) := envL_ext fun n hn1 hn2 => hfr n hn1 (by simpa [L] using hn2)
    have h5 : envL E nx L (nx + 5) = some ⟨g, 0, cap, []⟩ := envL_at 5 rfl
    have h6 : envL E nx L (nx + 6) = some ⟨w.heap.size, 0, 0, xs⟩ := envL_at 6 rfl
    have hev : evalR (envL E nx L) [.full false (nx + 6)] = xs := by simp [evalR, evalA, datN, h6]
    have hdef : defR (envL E nx L) [.full false (nx + 6)] := by
      intro a ha
      obtain rfl : a = .full false (nx + 6) := by simpa using ha
      refine ⟨fun q hq => ?_, fun q hq => (by cases hq)⟩
      cases hq
      exact ⟨by rw [h6]; simp, fun u hu => hxs u (by simpa [datN, h6] using hu)⟩
    have h8 : envL E nx L (nx + 8) = some ⟨w.heap.size, 0, 0, arrB'.toList.take (datN E rn).length⟩ := envL_at 8 rfl
    have hevB : evalR (envL E nx L) [.full ne (nx + 8)] = arrB'.toList.take (datN E rn).length := by simp [evalR, evalA, datN, h8]
    have hdefB : defR (envL E nx L) [.full ne (nx + 8)] := by
      intro a ha
      obtain rfl : a = .full ne (nx + 8) := by simpa using ha
      refine ⟨fun q hq => ?_, fun q hq => ?_⟩
      · cases hq
        refine ⟨by rw [h8]; simp, fun u hu => ?_⟩
        have hu : u ∈ arrB'.toList.take (datN E rn).length := by simpa [datN, h8] using hu
        obtain ⟨j, hj, rfl⟩ := List.mem_iff_getElem.1 hu
        obtain ⟨z, hz⟩ := hcell j (by omega)
        refine ⟨z, ?_⟩
        have : (arrB'.toList.take (datN E rn).length)[j]? = some (.int .i64 z) := by
          rw [List.getElem?_take, if_pos (by omega)]; simpa using hz
        rw [List.getElem?_eq_getElem hj] at this
        exact Option.some.inj this
      · cases hq
        obtain ⟨d3, d4⟩ := dd2 rn rfl
        have : datN (envL E nx L) (nx + 8) = arrB'.toList.take (datN E rn).length := by simp [datN, h8]
        rw [this]
        exact ⟨fun h => d3 (List.length_eq_zero_iff.1 (by rw [← hys, h]; rfl)), by rw [hys]; exact d4⟩
    have hvc : VRel (envL E nx L) (.osl b [.full ne (nx + 8)]) (.slice (some ⟨e0.blk, e0.base, none⟩) (evalR E [.full ne rn]).length e0.cap) :=
      ⟨e0, hx _ _ he0, hdefB, by rw [hevB, hys]; exact z1, z2, by rw [hevB, hys, hdat]⟩
    refine ⟨_, List.mem_singleton.2 rfl, _, _, _, rfl, envL E nx L, _, rfl, ?_, Eff.of hR ?_ hx (fun n hn => by simpa [L] using envL_dom n hn) (by omega) (fun n hn hl => ?_) (fun n hn hge => ?_) ⟨hbut.size, hbut.os, hbut.tape, hbut.output, fun bb hb1 hb2 => ?_⟩ (fun n bl hb1 => ?_) (fun n e hn he => .inl ?_) (fun n bl m c h1 h2 hne' => ?_)⟩
    · simp only [VRel, VRelL]; exact ⟨_, rfl, rfl⟩
    · simp [namesD]; omega
    · simp only [namesD, List.map_cons, List.map_nil, List.mem_cons, List.not_mem_nil, or_false] at hn
      rcases hn with rfl | rfl | rfl | rfl
      · exact ⟨_, hsub _ _ htb, rfl⟩
      · exact ⟨_, hsub _ _ htx, by rw [hxw]; rfl⟩
      · omega
      · exact ⟨_, hsub _ _ hte, rfl⟩
    · simp only [namesD, List.map_cons, List.map_nil, List.mem_cons, List.not_mem_nil, or_false] at hn
      rcases hn with rfl | rfl | rfl | rfl
      · omega
      · omega
      · exact hfr _ (by omega) (by omega)
      · omega
    · refine hbut.block bb hb1 fun i hz => ?_
      rcases hz with ⟨h, _⟩ | ⟨h, _⟩ | hz
      · exact hb2 p.e (mem_dWn (by simp [namesD]) hle) ee hee h.symm
      · exact hb2 p.xb (mem_dWn (by simp [namesD]) hlx) xe hxe h.symm
      · obtain ⟨_, _, _, h, _⟩ := hz
        injection h with h
        injection h with h
        injection h with h
        exact hb2 b (mem_dWn (by simp [namesD]) hbx) e0 he0 h
    · simp only [List.mem_cons, Prod.mk.injEq, Option.some.injEq, List.not_mem_nil, or_false] at hb1
      rcases hb1 with ⟨rfl, rfl⟩ | ⟨rfl, rfl⟩ | ⟨rfl, rfl⟩ | ⟨rfl, rfl⟩
      · refine ⟨e0, hx _ _ he0, arrB', (0, 0), hdefB, hB1, fun i u hu => ?_, fun _ => ⟨hb0, rfl, by rw [hB2]; exact hbs⟩⟩
        rw [hevB, List.getElem?_take] at hu
        rw [hb0, Nat.zero_add]
        split at hu
        · simpa using hu
        · cases hu
      · refine ⟨xe, hx _ _ hxe, arrX', fzX, hX1, fun i x hi => ?_, fun _ => by rw [hX2]; exact x3⟩
        rw [five_in hcx] at hi
        split at hi
        · obtain ⟨y, y1, y2⟩ := x2 i x hi
          exact ⟨y, by rw [hX4 (xe.base + i) (by omega)]; exact y1, VRel.ext hx _ _ y2⟩
        split at hi
        · subst i; cases hi; exact ⟨_, hk', ⟨_, envL_at 0 rfl, _, rfl, rfl⟩⟩
        split at hi
        · subst i; cases hi; exact ⟨_, by rw [← Nat.add_assoc]; exact hr', ⟨_, envL_at 1 rfl, _, rfl, rfl⟩⟩
        split at hi
        · subst i; cases hi; exact ⟨_, by rw [← Nat.add_assoc]; exact ha', ⟨_, envL_at 2 rfl, _, rfl, rfl⟩⟩
        split at hi
        · subst i; cases hi; exact ⟨_, by rw [← Nat.add_assoc]; exact hb', ⟨_, envL_at 3 rfl, _, rfl, rfl⟩⟩
        split at hi
        · subst i; cases hi; exact ⟨_, by rw [hX4 _ (by omega)]; exact f1, hvc⟩
        · obtain ⟨y, y1, y2⟩ := x2 i x hi
          exact ⟨y, by rw [hX4 (xe.base + i) (by omega)]; exact y1, VRel.ext hx _ _ y2⟩
      · exact ⟨_, h5, cur, (0, 0), hdef, q2, fun i u hu => by rw [hev] at hu; simpa using q7 i u hu, fun _ => ⟨rfl, rfl, q5⟩⟩
      · refine ⟨ee, hx _ _ hee, arrE', fzE, hE1, fun i x hi => ?_, fun _ => by rw [hE2]; exact e3⟩
        match i, hi with
        | 0, hi =>
          cases hi
          exact ⟨_, hv1, ⟨_, h5, hdef, by rw [hev, q6]; exact q3, by unfold maxLen at q4; exact q4, by rw [hev, q6]⟩⟩
        | 1, hi =>
          obtain ⟨y, y1, y2⟩ := e2 1 x hi
          exact ⟨y, by rw [hE4 _ (by omega) (by omega)]; exact y1, VRel.ext hx _ _ y2⟩
        | 2, hi =>
          obtain ⟨y, y1, y2⟩ := e2 2 x hi
          exact ⟨y, by rw [hE4 _ (by omega) (by omega)]; exact y1, VRel.ext hx _ _ y2⟩
        | 3, hi =>
          cases hi
          exact ⟨_, ht', ⟨_, envL_at 7 rfl, _, rfl, rfl⟩⟩
    · have := envL_new hn he
      simp [L] at this
      rcases this with rfl | rfl | rfl | rfl | rfl | rfl | rfl | rfl | rfl <;> first | exact Nat.le_refl _ | exact q1
    · simp only [List.mem_cons, Prod.mk.injEq, Option.some.injEq, List.not_mem_nil, or_false] at h1 h2
      intro e e' he he'
      have hge : ee.blk < g := Nat.lt_of_lt_of_le (lt_heap e1) q1
      have hgx : xe.blk < g := Nat.lt_of_lt_of_le (lt_heap x1) q1
      have hat1 := hx _ _ hee
      have hat2 := hx _ _ hxe
      have hgb : e0.blk < g := Nat.lt_of_lt_of_le (lt_heap z3) q1
      have hat3 := hx _ _ he0
      rcases h1 with ⟨rfl, _⟩ | ⟨rfl, _⟩ | ⟨rfl, _⟩ | ⟨rfl, _⟩ <;> rcases h2 with ⟨rfl, _⟩ | ⟨rfl, _⟩ | ⟨rfl, _⟩ | ⟨rfl, _⟩ <;>
        first
        | exact absurd rfl hne'
        | (simp only [hat1, hat2, hat3, h5, Option.some.injEq] at he he'; subst he; subst he'; first | omega | exact hbk1 | exact hbk2 | exact hbk1.symm | exact hbk2.symm | exact Nat.ne_of_lt hgb | exact (Nat.ne_of_lt hgb).symm | exact hblk | exact hblk.symm | exact Nat.ne_of_lt hge | exact Nat.ne_of_lt hgx | exact (Nat.ne_of_lt hge).symm | exact (Nat.ne_of_lt hgx).symm)

theorem see_one (f : FuncId) (hf : SeeLike f) : FOne prog f (seeF 3) := by
  intro args t nx outs h E w vs H hsub hR hfree hvs
  unfold seeF at h
  cases hp : seeParts args t nx with
  | none => rw [hp] at h; cases h
  | some p =>
    rw [hp] at h
    dsimp only at h
    cases hm : p.mark <;> rw [hm] at h <;> simp only [reduceCtorEq] at h
    rename_i b
    cases b <;> dsimp only at h
    · exact seeU_ok f hf hp hm h hsub hR hfree hvs
    · exact seeM_ok f hf hp hm h hsub hR hfree hvs

theorem like10 : SeeLike 10 := fun _ _ _ _ _ h => h
set_option maxRecDepth 100000 in
set_option maxHeartbeats 1600000 in
theorem like9 : SeeLike 9 := by
  intro p q w R hR h
  have HR := Go.Lib.hid hR
  have H := Go.Lib.hid h
  clear hR h
  go_enter func9, ntmps9
  go_wp2_with fail
  refine H.out.mono ?_
  intro e w' he
  obtain rfl := HR.out _ _ he
  have HE := Go.Lib.hid he
  clear he
  go_wp2
  go_end0
  exact HE.out

set_option maxRecDepth 100000 in
set_option maxHeartbeats 1600000 in
theorem like13 : SeeLike 13 := by
  intro p q w R hR h
  have HR := Go.Lib.hid hR
  have H := Go.Lib.hid h
  clear hR h
  go_enter func13, ntmps13
  go_wp2_with fail
  refine H.out.mono ?_
  intro e w' he
  obtain rfl := HR.out _ _ he
  have HE := Go.Lib.hid he
  clear he
  go_wp2
  go_end0
  exact HE.out

set_option maxRecDepth 100000 in
set_option maxHeartbeats 1600000 in
theorem like16 : SeeLike 16 := by
  intro p q w R hR h
  have HR := Go.Lib.hid hR
  have H := Go.Lib.hid h
  clear hR h
  go_enter func16, ntmps16
  go_wp2_with fail
  refine H.out.mono ?_
  intro e w' he
  obtain rfl := HR.out _ _ he
  have HE := Go.Lib.hid he
  clear he
  go_wp2
  go_end0
  exact HE.out

set_option maxRecDepth 100000 in
set_option maxHeartbeats 1600000 in
theorem like19 : SeeLike 19 := by
  intro p q w R hR h
  have HR := Go.Lib.hid hR
  have H := Go.Lib.hid h
  clear hR h
  go_enter func19, ntmps19
  go_wp2_with fail
  refine H.out.mono ?_
  intro e w' he
  obtain rfl := HR.out _ _ he
  have HE := Go.Lib.hid he
  clear he
  go_wp2
  go_end0
  exact HE.out

set_option maxRecDepth 100000 in
set_option maxHeartbeats 1600000 in
theorem like22 : SeeLike 22 := by
  intro p q w R hR h
  have HR := Go.Lib.hid hR
  have H := Go.Lib.hid h
  clear hR h
  go_enter func22, ntmps22
  go_wp2_with fail
  refine H.out.mono ?_
  intro e w' he
  obtain rfl := HR.out _ _ he
  have HE := Go.Lib.hid he
  clear he
  go_wp2
  go_end0
  exact HE.out
end Go.Proofs.Tryz
