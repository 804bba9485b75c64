import Derived.Test.YtfgkpganiabpkaaGreatDoorS2
import Derived.Test.YtfgkpganiabpkaaGreatDoorRows
import Derived.ProofKit
import Derived.OpenShut
import Derived.Deep.Slices
import Derived.LaidMore
import Derived.Carry
/- Proved in this claim (its last text holds the theorem): the given statement TopSharedFoldsCardSaid, with no condition of ours. This text is one part of that proof: the row's own facts and the joining. -/
set_option linter.all false
namespace Go.Proofs.YtfgkpganiabpkaaGreatDoor
open Go Go.ChangeShapes Go.WideShapes Go.ChangeAt Go.RowKit
set_option maxRecDepth 100000
theorem c2 : Tryz.prog.cellsOf 2 = 1 := by kernel_rfl
theorem c3 : Tryz.prog.cellsOf 3 = 1 := by kernel_rfl
theorem c9 : Tryz.prog.cellsOf 9 = 1 := by kernel_rfl
theorem c22 : Tryz.prog.cellsOf 22 = 2 := by kernel_rfl
theorem c23 : Tryz.prog.cellsOf 23 = 1 := by kernel_rfl
theorem c25 : Tryz.prog.cellsOf 25 = 5 := by kernel_rfl
theorem c27 : Tryz.prog.cellsOf 27 = 5 := by kernel_rfl
theorem c33 : Tryz.prog.cellsOf 33 = 1 := by kernel_rfl
theorem by2 : Tryz.prog.bytesOf 2 = 8 := by kernel_rfl
theorem ct27 : Tryz.prog.cellTypes Tryz.prog.depth 27 = some [3, 3, 3, 3, 23] := by kernel_rfl

/-- the argument, opened -/
theorem open_arg {H : Type} {enc : TypeId × Value → H} {W : World} {base : Nat} {v0 : Value} {d0 : DataW H} {p0 : List MemPlace} (hval : Value.okWide Tryz.prog W .any base 27 v0)
    (h0 : DataW.Trod enc Tryz.prog W 0 (fun _ => true) true 27 v0 d0 p0) (hz : (d0.weights Tryz.prog 27).all (· ≤ reachBytes) = true) : ∃ k r a b v, v0 = Tryz.arrV k r a b v ∧ Sa1.ArgOk W v := by
  simp only [Value.okWide, Tryz.underlying27] at hval
  obtain ⟨cs, rfl, hcs, ts, hts, _, hrow⟩ := hval
  rw [ct27] at hts
  cases hts
  rw [c27] at hcs
  obtain ⟨n, hn⟩ := h0
  obtain ⟨y0, n1, hx, _, h1⟩ := trod_struct1 Tryz.underlying27 hn
  simp only [Prod.mk.injEq] at hx
  obtain ⟨rfl, _⟩ := hx
  obtain ⟨l⟩ := cs
  match l, hcs with
  | [z0, z1, z2, z3, z4], _ =>
    dsimp only at h1
    rw [c25] at h1
    obtain ⟨xs, n2, _, hy, _, hlen, hf⟩ := DataW.trod_struct Tryz.underlying25 h1
    match xs, hlen with
    | [x0, x1, x2, x3], _ =>
      have f0 : DataW.trod enc Tryz.prog W 0 (fun _ => true) true n2 3 (([z0, z1, z2, z3, z4].drop 0).take (Tryz.prog.cellsOf 3)) = some x0 := hf 0 _ rfl
      have f1 : DataW.trod enc Tryz.prog W 0 (fun _ => true) true n2 3 (([z0, z1, z2, z3, z4].drop 1).take (Tryz.prog.cellsOf 3)) = some x1 := hf 1 _ rfl
      have f2 : DataW.trod enc Tryz.prog W 0 (fun _ => true) true n2 22 (([z0, z1, z2, z3, z4].drop 2).take (Tryz.prog.cellsOf 22)) = some x2 := hf 2 _ rfl
      have f3 : DataW.trod enc Tryz.prog W 0 (fun _ => true) true n2 23 (([z0, z1, z2, z3, z4].drop 4).take (Tryz.prog.cellsOf 23)) = some x3 := hf 3 _ rfl
      rw [c3] at f0 f1
      rw [c22] at f2
      rw [c23] at f3
      obtain ⟨k, e0, _, _⟩ := DataW.trod_int Tryz.underlying3 f0
      obtain ⟨r, e1, _, _⟩ := DataW.trod_int Tryz.underlying3 f1
      obtain ⟨ys, n3, _, _, _, hylen, hyf⟩ := DataW.trod_array Tryz.underlying22 f2
      match ys, hylen with
      | [w0, w1], _ =>
        have g0 : DataW.trod enc Tryz.prog W 0 (fun _ => true) true n3 3 ((([z2, z3].drop (0 * Tryz.prog.cellsOf 3)).take (Tryz.prog.cellsOf 3))) = some w0 := hyf 0 (by omega)
        have g1 : DataW.trod enc Tryz.prog W 0 (fun _ => true) true n3 3 ((([z2, z3].drop (1 * Tryz.prog.cellsOf 3)).take (Tryz.prog.cellsOf 3))) = some w1 := hyf 1 (by omega)
        rw [c3] at g0 g1
        obtain ⟨a, e2, _, _⟩ := DataW.trod_int Tryz.underlying3 g0
        obtain ⟨b, e3, _, _⟩ := DataW.trod_int Tryz.underlying3 g1
        simp at e0 e1 e2 e3
        subst e0 e1 e2 e3
        refine ⟨k, r, a, b, z4, rfl, ?_⟩
        rcases open_ints Tryz.underlying23 Tryz.underlying2 c2 f3 with ⟨h4, _⟩ | ⟨ad, len, cap, zs, h4, _, hl, hm, hzl, hx3, hcell, _⟩
        · simp at h4
          exact .inl h4
        · simp at h4
          subst h4
          obtain ⟨u, hu, hok⟩ := hrow 4 _ rfl
          simp at hu
          subst hu
          simp only [Cell.okWide, Tryz.underlying23, Cell.ok, World.has] at hok
          obtain ⟨_, _, _, hsp, row, cells, hsh, _⟩ := hok
          obtain ⟨bl, off, spot⟩ := ad
          simp only at hsp hsh
          subst hsp
          simp only [if_true] at hzl
          unfold World.shape? at hsh
          cases hh : W.heap[bl]? with
          | none => rw [hh] at hsh; cases hsh
          | some o =>
            rw [hh] at hsh
            cases o <;> simp only [reduceCtorEq] at hsh
            rename_i arr ty fz
            have hcap : cap * 8 ≤ 140737488351232 := by
              have hw : DataW.weights Tryz.prog 27 (DataW.agg [y0.1]) = DataW.weights Tryz.prog 25 y0.1 := by
                simp [DataW.weights, DataW.weightsEach, Tryz.underlying27]
              rw [hw, hy] at hz
              simp only [DataW.weights, Tryz.underlying25, List.map_cons, List.map_nil, DataW.weightsEach, List.all_append, Bool.and_eq_true] at hz
              have h5 := hz.2.2.2.1
              rw [hx3] at h5
              simp only [DataW.weights, Tryz.underlying23, by2, List.all_cons, Bool.and_eq_true, decide_eq_true_eq] at h5
              have h6 := h5.1
              simp only [lits, List.length_map, List.length_take, List.length_drop] at h6
              have : min len zs.length + (zs.length - len) = cap := by omega
              rw [this] at h6
              unfold reachBytes at h6
              omega
            refine .inr ⟨bl, off, cap, (zs.take len).map (Value.int .i64), arr, ty, fz, ?_, ?_, by omega, hh, fun i u hu => ?_, fun u hu => ?_⟩
            · have : ((zs.take len).map (Value.int .i64)).length = len := by simp; omega
              rw [this]
            · simp; omega
            · have hi : i < len := by
                have := (List.getElem?_eq_some_iff.1 hu).1
                simp at this; omega
              have h7 := hcell i (by omega)
              rw [Tryz.add_lit', cell_of_row W bl (off + i) arr ty fz hh] at h7
              rw [List.getElem?_map, List.getElem?_take, if_pos hi] at hu
              rw [h7]
              rw [← hu]
              rw [List.getElem?_eq_getElem (by omega)]
              simp [List.getD, show i < zs.length by omega]
            · obtain ⟨z, _, rfl⟩ := List.mem_map.1 hu
              exact ⟨z, rfl⟩

/-! ## The listed variables -/
theorem laid_mem {P : Program} {w : World} : ∀ {l : List (String × DataW Unit)} {ps : List MemPlace}, DataW.LaidVars P w l ps → ∀ n d, (n, d) ∈ l →
    ∃ g t cs fuel p, P.globalNamed n = some g ∧ (P.globals[g]?).map (·.type) = some t ∧ w.var? P n = some cs ∧ DataW.trod (fun _ => ()) P w 0 (fun _ => true) false fuel t cs.toList = some (d, p)
  | (m, e) :: r, ps, h, n, d, hm => by
    obtain ⟨g, t, cs, fuel, p, q, h1, h2, h3, h4, h5, _⟩ := h
    rcases List.mem_cons.1 hm with h | h
    · cases h; exact ⟨g, t, cs, fuel, p, h1, h2, h3, h4⟩
    · exact laid_mem h5 n d h
theorem gn0 : Tryz.prog.globalNamed "invigilator/lexer.none" = some 0 := by kernel_rfl
theorem gn7 : Tryz.prog.globalNamed "invigilator/prims.numbers" = some 7 := by kernel_rfl
theorem gn8 : Tryz.prog.globalNamed "invigilator/prims.alike" = some 8 := by kernel_rfl
theorem gt0 : (Tryz.prog.globals[0]?).map (·.type) = some 225 := by kernel_rfl
theorem gt7 : (Tryz.prog.globals[7]?).map (·.type) = some 45 := by kernel_rfl
theorem gt8 : (Tryz.prog.globals[8]?).map (·.type) = some 45 := by kernel_rfl
theorem gs : Tryz.prog.globals.size = 12 := by kernel_rfl
theorem rows0 : (((begin Tryz.prog (fun _ _ => 0) default).world.heap[0]?).bind Obj.row?).map (·.2) = some 225 := by kernel_rfl
theorem rows7 : (((begin Tryz.prog (fun _ _ => 0) default).world.heap[7]?).bind Obj.row?).map (·.2) = some 45 := by kernel_rfl
theorem rows8 : (((begin Tryz.prog (fun _ _ => 0) default).world.heap[8]?).bind Obj.row?).map (·.2) = some 45 := by kernel_rfl
theorem shaped_at {W : World} (h : W.ShapedOpen Tryz.prog) {g t : Nat} (hg : g < 12) (hr : (((begin Tryz.prog (fun _ _ => 0) default).world.heap[g]?).bind Obj.row?).map (·.2) = some t) : ∃ cs, W.heap[g]? = some (.cells cs t (0, 0)) := by
  obtain ⟨x, hx, rfl⟩ := Option.map_eq_some_iff.1 hr
  obtain ⟨cs, h1, _⟩ := h.1 g x.1 x.2 (by rw [gs]; exact hg) hx
  exact ⟨cs, h1⟩
theorem var_heap {W : World} {g : Nat} {n : String} {cs : Array Value} (hg : Tryz.prog.globalNamed n = some g) (hv : W.var? Tryz.prog n = some cs) {cs' : Array Value} {t : TypeId} {fz : Nat × Nat} (hh : W.heap[g]? = some (.cells cs' t fz)) : cs' = cs := by
  unfold World.var? at hv
  rw [hg, Option.bind_some, hh] at hv
  exact Option.some.inj hv
theorem laid_filter : (Rows.topSharedFoldsRow.laid.filter fun x => x.2.handleName?.isSome) = [("errors.errorType", Rows.laid_errors_errorType)] := by kernel_rfl
theorem laid_rest : (Rows.topSharedFoldsRow.laid.filter fun x => x.2.handleName?.isNone) = [("math/bits.deBruijn32tab", Rows.laid_math_bits_deBruijn32tab), ("math/bits.deBruijn64tab", Rows.laid_math_bits_deBruijn64tab), ("internal/strconv.uint64pow10", Rows.laid_internal_strconv_uint64pow10), ("unicode/utf8.acceptRanges", Rows.laid_unicode_utf8_acceptRanges), ("strconv.ErrRange", Rows.laid_strconv_ErrRange), ("strconv.ErrSyntax", Rows.laid_strconv_ErrSyntax), ("invigilator/lexer.none", Rows.laid_invigilator_lexer_none), ("invigilator/prims.numbers", Rows.laid_invigilator_prims_numbers), ("invigilator/prims.alike", Rows.laid_invigilator_prims_alike), ("unicode/utf8.first", Rows.laid_unicode_utf8_first)] := by kernel_rfl

theorem slice_hdr {W : World} {cs : Array Value} {fuel : Nat} {p : List MemPlace} {L : List (DataW Unit)} (hL : 0 < L.length) (h : DataW.trod (fun _ => ()) Tryz.prog W 0 (fun _ => true) false fuel 45 cs.toList = some (.slice L [], p)) :
    ∃ b o, cs[0]? = some (.slice (some ⟨b, o, none⟩) L.length L.length) := by
  rcases Deep.open_slice1 Tryz.underlying45 c9 h with ⟨_, hx⟩ | ⟨ad, len, cap, m, n, V, D, Pl, hcs, _, hl, _, hm, hx, hcell⟩
  · simp at hx
  · simp only [Prod.mk.injEq, DataW.slice.injEq] at hx
    obtain ⟨⟨h1, h2⟩, _⟩ := hx
    simp only [if_true] at hm
    have e1 : L.length = len := by rw [h1]; simp
    have e2 : m - len = 0 := by
      have := congrArg List.length h2
      simpa using this.symm
    have e3 : cap = len := by omega
    obtain ⟨bl, off, spot⟩ := ad
    have hsp : spot = none := by simpa [Addr.add] using World.cell?_spot (hcell 0 (by omega)).1
    subst hsp
    refine ⟨bl, off, ?_⟩
    rw [e1]
    rw [← Array.getElem?_toList, hcs, e3]
    rfl

theorem glob_ok {W : World} (hs : W.ShapedOpen Tryz.prog) (hl : laidMetH Tryz.prog Rows.topSharedFoldsRow.laid W) : Sa1.GlobOk W := by
  unfold laidMetH at hl
  rw [laid_filter] at hl
  obtain ⟨⟨ps, hv, _⟩, _⟩ := hl
  rw [laid_rest] at hv
  obtain ⟨cs0, h0⟩ := shaped_at hs (g := 0) (by omega) rows0
  obtain ⟨cs7, h7⟩ := shaped_at hs (g := 7) (by omega) rows7
  obtain ⟨cs8, h8⟩ := shaped_at hs (g := 8) (by omega) rows8
  obtain ⟨g, t, cs, fuel, p, a1, a2, a3, a4⟩ := laid_mem hv "invigilator/lexer.none" Rows.laid_invigilator_lexer_none (by simp)
  obtain rfl := Option.some.inj (gn0.symm.trans a1)
  obtain rfl := Option.some.inj (gt0.symm.trans a2)
  obtain rfl := var_heap gn0 a3 h0
  obtain ⟨g, t, cs, fuel7, p7, b1, b2, b3, b4⟩ := laid_mem hv "invigilator/prims.numbers" Rows.laid_invigilator_prims_numbers (by simp)
  obtain rfl := Option.some.inj (gn7.symm.trans b1)
  obtain rfl := Option.some.inj (gt7.symm.trans b2)
  obtain rfl := var_heap gn7 b3 h7
  obtain ⟨g, t, cs, fuel8, p8, d1, d2, d3, d4⟩ := laid_mem hv "invigilator/prims.alike" Rows.laid_invigilator_prims_alike (by simp)
  obtain rfl := Option.some.inj (gn8.symm.trans d1)
  obtain rfl := Option.some.inj (gt8.symm.trans d2)
  obtain rfl := var_heap gn8 d3 h8
  obtain ⟨q7, o7, e7⟩ := slice_hdr (by decide) b4
  obtain ⟨q8, o8, e8⟩ := slice_hdr (by decide) d4
  refine ⟨⟨_, _, h0, ?_⟩, ⟨_, _, q7, o7, h7, e7⟩, ⟨_, _, q8, o8, h8, e8⟩⟩
  obtain ⟨y0, y1, n, hx, hlen, f0, f1⟩ := trod_struct2 Tryz.underlying225 a4
  dsimp only at f0 f1
  rw [c3] at f0
  rw [c33] at f1
  obtain ⟨i, e0, hy0, _⟩ := DataW.trod_int Tryz.underlying3 f0
  obtain ⟨j, e1, hy1, _⟩ := DataW.trod_int Tryz.underlying33 f1
  rw [hy0, hy1] at hx
  simp [Rows.laid_invigilator_lexer_none] at hx
  obtain ⟨⟨rfl, rfl⟩, _⟩ := hx
  obtain ⟨l⟩ := cs0
  match l, e0, e1 with
  | x0 :: x1 :: r, e0, e1 =>
    simp at e0 e1
    subst e0 e1
    exact ⟨rfl, rfl⟩
end Go.Proofs.YtfgkpganiabpkaaGreatDoor
