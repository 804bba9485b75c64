import Derived.Test.YtfgkpganiabpkaaGreatDoorT8
import Derived.Test.YtfgkpganiabpkaaGreatDoorT9
import Derived.JoinedOf
import Derived.SevenTiedAt
/- Proved in this claim (its last text holds the theorem): the given statement TopSharedFoldsCardSaid, with no condition of ours. This text is one part of that proof: the row's own facts and the joining. -/
namespace Go.Proofs.YtfgkpganiabpkaaGreatDoor
open Go
set_option maxRecDepth 100000
/-! ## The functions that can be come to, by a table -/
def viaT (L : List (List Nat)) : Nat → List Nat → List Nat → List Nat
  | 0, _, seen => seen.reverse
  | _, [], seen => seen.reverse
  | n + 1, f :: todo, seen => if seen.contains f then viaT L n todo seen else viaT L n (L.getD f [] ++ todo) (f :: seen)
theorem via_eq {P : Program} {L : List (List Nat)} (h : P.funcs.toList.map P.leadsTo = L) : ∀ n todo seen, P.closureVia n todo seen = viaT L n todo seen
  | 0, _, _ => rfl
  | _ + 1, [], _ => rfl
  | n + 1, f :: todo, seen => by
    have e : (P.funcs[f]?).elim [] P.leadsTo = L.getD f [] := by
      rw [← h, List.getD_eq_getElem?_getD, List.getElem?_map, ← Array.getElem?_toList]
      cases P.funcs.toList[f]? <;> rfl
    unfold Program.closureVia viaT
    rw [via_eq h n, via_eq h n, e]
theorem closure_eq {P : Program} {L : List (List Nat)} (h : P.funcs.toList.map P.leadsTo = L) (f : FuncId) : P.closure f = viaT L (1 + (L.map fun l => l.length + 1).sum) [f] [] := by
  unfold Program.closure
  rw [via_eq h]
  congr 2
  rw [← h, List.map_map]
  rfl
noncomputable def CL : List Nat := [3, 7, 8, 29, 39, 51, 65, 121, 178, 147, 179, 180, 181, 122, 67, 68, 124, 66, 123, 46, 52, 30, 31, 47, 64, 103, 104, 105, 174, 173, 106, 175, 107, 108, 176, 109, 110, 111, 177, 112, 113, 114, 115, 116, 117, 118, 119, 120, 9, 10, 32, 33, 34, 48, 49, 11, 12, 35, 50, 36, 13, 14, 15, 37, 16, 17, 18, 38, 19, 20, 21, 40, 41, 53, 22, 4, 24, 25, 26, 27, 5, 28, 45, 6, 23, 42, 54, 69, 125, 182, 55, 71, 131, 191, 192, 240, 132, 193, 133, 194, 241, 305, 242, 243, 244, 306, 70, 126, 184, 229, 287, 355, 356, 430, 429, 431, 357, 358, 432, 433, 490, 491, 230, 288, 238, 303, 190, 239, 304, 289, 188, 183, 228, 127, 185, 231, 232, 233, 128, 186, 129, 187, 234, 290, 359, 360, 235, 291, 361, 292, 293, 363, 434, 362, 294, 130, 189, 236, 295, 237, 297, 296, 298, 300, 364, 299, 302, 366, 436, 365, 435, 492, 301, 56, 72, 73, 135, 134, 137, 74, 136, 195, 245, 307, 367, 368, 437, 438, 369, 439, 152, 440, 370, 441, 493, 451, 450, 442, 371, 443, 372, 373, 445, 446, 495, 444, 494, 527, 528, 552, 562, 374, 375, 447, 448, 496, 376, 377, 449, 378, 379, 380, 381, 382, 197, 248, 309, 196, 247, 246, 308, 138, 75, 76, 140, 139, 198, 199, 249, 251, 310, 340, 411, 412, 250, 311, 252, 200, 215, 273, 277, 274, 341, 275, 276, 77, 78, 79, 80, 141, 57, 81, 142, 143, 201, 144, 202, 203, 204, 253, 145, 205, 146, 206, 207, 254, 148, 43, 58, 82, 149, 208, 255, 312, 167, 222, 286, 223, 224, 225, 226, 313, 383, 384, 314, 385, 211, 227, 262, 323, 452, 497, 498, 499, 315, 150, 83, 153, 209, 256, 158, 316, 210, 261, 216, 257, 317, 259, 258, 318, 260, 319, 320, 321, 322, 386, 387, 453, 454, 455, 84, 155, 156, 157, 154, 212, 263, 324, 213, 264, 325, 388, 389, 456, 390, 391, 457, 500, 392, 458, 501, 529, 502, 530, 554, 556, 329, 553, 555, 557, 531, 532, 533, 534, 535, 536, 537, 538, 539, 540, 558, 541, 542, 543, 544, 459, 393, 460, 425, 396, 462, 461, 283, 351, 420, 160, 218, 350, 419, 394, 395, 326, 398, 471, 397, 463, 464, 503, 465, 504, 505, 466, 506, 507, 545, 467, 468, 469, 470, 327, 399, 472, 265, 266, 328, 267, 268, 330, 400, 401, 474, 508, 473, 402, 475, 509, 331, 332, 404, 403, 405, 333, 334, 406, 335, 336, 342, 343, 407, 476, 408, 410, 409, 477, 214, 269, 270, 271, 272, 337, 338, 339, 151, 85, 86, 87, 88, 89, 90, 91, 159, 217, 92, 161, 162, 219, 220, 278, 344, 345, 413, 478, 479, 279, 347, 346, 414, 480, 510, 511, 512, 513, 415, 416, 481, 280, 348, 418, 417, 281, 282, 349, 221, 284, 285, 352, 421, 482, 483, 422, 484, 485, 423, 486, 514, 546, 559, 560, 515, 516, 517, 518, 487, 519, 520, 547, 521, 522, 548, 549, 523, 424, 353, 426, 427, 354, 428, 488, 489, 526, 525, 550, 561, 551, 524, 93, 163, 59, 94, 95, 164, 96, 165, 166, 44, 60, 97, 168, 98, 102, 172, 62, 100, 170, 171, 101, 99, 169, 61, 63]
theorem cl_ok : viaT LT (1 + (LT.map fun l => l.length + 1).sum) [3] [] = CL := by kernel_rfl
theorem cl_eq : Tryz.prog.closure 3 = CL := (closure_eq leads_ok 3).trans cl_ok
theorem goes_none {P : Program} (h : P.funcs.toList.any Func.goes = false) (f : FuncId) : P.goes f = false := by
  have h1 : P.funcs.any Func.goes = false := by rw [← Array.any_toList]; exact h
  unfold Program.goes
  rw [h1, Bool.and_false, Bool.or_false]
  rw [List.any_eq_false]
  intro g _
  cases hg : P.funcs[g]? with
  | none => simp
  | some fn =>
    have := List.any_eq_false.1 h fn (by rw [← Array.getElem?_toList] at hg; exact List.mem_of_getElem? hg)
    simpa using this
theorem goesBy_gen {P : Program} {c : OpenClaim} (hs : c.start = .entering) (h : P.funcs.toList.any Func.goes = false) : c.goesBy P = false := by
  unfold OpenClaim.goesBy Program.goesAt Program.goesFrom
  have : (P.funcNamed c.func).any P.goes = false := by
    cases P.funcNamed c.func with
    | none => rfl
    | some f => exact goes_none h f
  rw [this, hs]
  rfl
theorem goesBy_none : false = Rows.topSharedFoldsRow.goesBy Tryz.prog := (goesBy_gen (P := Tryz.prog) (c := Rows.topSharedFoldsRow) rfl nogo).symm
end Go.Proofs.YtfgkpganiabpkaaGreatDoor
