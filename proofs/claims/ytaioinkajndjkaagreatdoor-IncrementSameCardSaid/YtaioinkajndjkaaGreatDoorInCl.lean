/- The functions that the law reaches; what the row says of them. -/
import Derived.Test.YtaioinkajndjkaaGreatDoorRows
set_option linter.unusedVariables false
set_option linter.unusedSimpArgs false
namespace Go.Proofs.YtaioinkajndjkaaGreatDoor.incrementSame
open Go
/-- the functions reached, those seen held in a mask -/
def cvB (P : Program) : Nat → List FuncId → Nat → List FuncId → Option (List FuncId)
  | 0, _, _, _ => none
  | _ + 1, [], _, seen => some seen.reverse
  | n + 1, f :: todo, m, seen => bif Nat.testBit m f then cvB P n todo m seen else cvB P n ((P.funcs[f]?).elim [] P.leadsTo ++ todo) (m ||| 2 ^ f) (f :: seen)
theorem cvB_ok {P : Program} : ∀ (n k : Nat) (todo : List FuncId) (m : Nat) (seen r : List FuncId), (∀ g : Nat, Nat.testBit m g = seen.contains g) → cvB P n todo m seen = some r → P.closureVia (n + k) todo seen = r
  | 0, k, todo, m, seen, r, _, e => by cases e
  | n + 1, k, [], m, seen, r, _, e => by
    rw [Nat.succ_add]
    have e' : some seen.reverse = some r := e
    cases e'
    rfl
  | n + 1, k, f :: todo, m, seen, r, hm, e => by
    rw [Nat.succ_add]
    have e' : (bif Nat.testBit m f then cvB P n todo m seen else cvB P n ((P.funcs[f]?).elim [] P.leadsTo ++ todo) (m ||| 2 ^ f) (f :: seen)) = some r := e
    show (if seen.contains f then P.closureVia (n + k) todo seen else P.closureVia (n + k) ((P.funcs[f]?).elim [] P.leadsTo ++ todo) (f :: seen)) = r
    rw [← hm f]
    cases hb : Nat.testBit m f with
    | true =>
      rw [hb] at e'
      exact cvB_ok n k todo m seen r hm e'
    | false =>
      rw [hb] at e'
      exact cvB_ok n k _ _ (f :: seen) r (fun g => by
        rw [Nat.testBit_or, Nat.testBit_two_pow, hm g, List.contains_cons, Bool.or_comm]
        congr 1
        by_cases q : f = g
        · subst q; simp
        · simp [q, Ne.symm q]) e'
def CL : List FuncId := [3, 4, 5, 6, 9, 24, 25, 38, 39, 40, 28, 26, 27, 41, 42, 76, 10, 11, 12, 13, 29, 14, 15, 30, 7, 16, 31, 43, 77, 44, 78, 17, 32, 33, 18, 8, 19, 34, 45, 79, 140, 141, 242, 243, 392, 245, 244, 246, 46, 47, 80, 82, 81, 83, 142, 84, 143, 144, 247, 393, 521, 600, 523, 601, 602, 522, 394, 524, 48, 49, 85, 145, 148, 149, 252, 35, 50, 51, 86, 146, 248, 147, 249, 395, 250, 396, 397, 525, 251, 398, 399, 526, 87, 88, 150, 151, 253, 400, 402, 401, 405, 403, 408, 528, 529, 527, 603, 406, 404, 530, 410, 531, 532, 407, 152, 52, 89, 153, 90, 91, 154, 254, 255, 409, 256, 259, 93, 155, 92, 257, 258, 53, 54, 21, 20, 36, 55, 94, 156, 260, 273, 411, 268, 425, 426, 427, 540, 428, 275, 430, 519, 533, 604, 605, 645, 644, 534, 431, 541, 538, 606, 157, 261, 262, 412, 535, 413, 162, 277, 276, 158, 263, 264, 414, 536, 607, 646, 265, 415, 416, 266, 267, 418, 420, 417, 419, 422, 488, 332, 481, 270, 429, 421, 537, 161, 274, 109, 423, 424, 539, 95, 159, 269, 160, 271, 272, 74, 138, 75, 139, 73, 96, 69, 123, 124, 125, 206, 353, 352, 205, 207, 354, 208, 355, 209, 126, 210, 120, 194, 195, 356, 489, 364, 490, 582, 491, 344, 345, 492, 583, 584, 638, 493, 494, 495, 496, 211, 357, 497, 498, 585, 499, 500, 586, 587, 639, 501, 502, 503, 504, 212, 127, 213, 358, 98, 172, 295, 301, 296, 442, 297, 298, 443, 444, 551, 299, 300, 302, 303, 99, 214, 359, 229, 387, 215, 216, 360, 361, 362, 363, 505, 588, 367, 217, 365, 218, 366, 506, 219, 368, 369, 370, 507, 589, 590, 640, 591, 592, 641, 642, 665, 593, 594, 595, 596, 372, 371, 112, 128, 220, 373, 508, 509, 221, 374, 510, 568, 386, 511, 597, 385, 598, 226, 375, 512, 376, 222, 513, 377, 378, 514, 379, 223, 129, 97, 163, 166, 164, 278, 181, 331, 480, 576, 577, 634, 635, 578, 579, 636, 637, 663, 664, 279, 432, 289, 435, 542, 608, 169, 171, 280, 281, 282, 165, 283, 284, 433, 132, 230, 168, 167, 286, 288, 287, 121, 196, 348, 285, 434, 543, 544, 609, 647, 170, 290, 291, 292, 436, 293, 437, 135, 231, 438, 545, 439, 610, 611, 648, 482, 580, 612, 649, 613, 650, 666, 667, 693, 668, 669, 694, 695, 703, 670, 671, 672, 673, 614, 615, 546, 616, 651, 652, 674, 653, 654, 675, 676, 696, 655, 656, 657, 658, 547, 548, 294, 441, 550, 440, 549, 617, 56, 61, 57, 58, 100, 68, 173, 304, 445, 446, 305, 306, 448, 447, 449, 552, 553, 618, 450, 555, 619, 556, 554, 620, 621, 622, 659, 677, 678, 697, 679, 680, 698, 699, 704, 681, 682, 683, 684, 623, 624, 307, 451, 308, 452, 557, 558, 625, 559, 560, 626, 627, 660, 561, 562, 563, 564, 309, 310, 131, 228, 174, 311, 453, 388, 454, 184, 334, 315, 314, 456, 457, 566, 630, 565, 628, 661, 685, 686, 700, 687, 688, 701, 702, 705, 689, 690, 691, 692, 468, 629, 312, 232, 233, 455, 313, 316, 458, 317, 459, 460, 318, 461, 462, 463, 333, 101, 175, 319, 464, 465, 466, 567, 467, 320, 321, 176, 322, 177, 323, 383, 469, 324, 470, 471, 472, 473, 569, 570, 631, 662, 178, 325, 326, 474, 571, 633, 632, 475, 572, 476, 179, 328, 478, 327, 477, 573, 102, 180, 329, 330, 479, 575, 574, 103, 182, 183, 104, 105, 59, 106, 107, 108, 110, 111, 60, 113, 114, 115, 62, 63, 116, 185, 335, 336, 483, 337, 338, 484, 485, 581, 339, 340, 341, 342, 117, 118, 64, 119, 186, 187, 343, 188, 189, 346, 347, 486, 190, 191, 192, 193, 65, 66, 67, 122, 197, 198, 349, 199, 200, 350, 351, 487, 201, 202, 203, 204, 22, 23, 37, 70, 130, 224, 380, 381, 384, 515, 382, 516, 599, 643, 517, 518, 225, 227, 133, 134, 136, 71, 137, 234, 235, 389, 236, 237, 390, 391, 520, 238, 239, 240, 241, 72]
theorem cl_run : cvB Tryz.prog 1576 [3] 0 [] = some CL := by kernel_rfl
def fuelB (P : Program) (n : Nat) : Bool := Nat.ble n (1 + (P.funcs.toList.map fun g => (P.leadsTo g).length + 1).sum)
theorem cl_fuel : fuelB Tryz.prog 1576 = true := by kernel_rfl
theorem cl_of {P : Program} {n : Nat} {f : FuncId} {l : List FuncId} (h1 : cvB P n [f] 0 [] = some l) (h2 : fuelB P n = true) : P.closure f = l := by
  unfold Program.closure
  obtain ⟨k, hk⟩ := Nat.le.dest (Nat.le_of_ble_eq_true (show Nat.ble n (1 + (P.funcs.toList.map fun g => (P.leadsTo g).length + 1).sum) = true from h2))
  rw [← hk]
  exact cvB_ok n k [f] 0 [] l (fun g => by simp) h1
theorem cl_eq : Tryz.prog.closure 3 = CL := cl_of (P := Tryz.prog) (n := 1576) (f := 3) (l := CL) cl_run cl_fuel
theorem j_in : (Rows.incrementSameRow.inPlace == Tryz.prog.inPlace 3) = true := by
  unfold Program.inPlace
  rw [cl_eq]
  kernel_rfl
theorem un : Tryz.prog.unfollowed 3 = true := by
  unfold Program.unfollowed
  rw [cl_eq]
  kernel_rfl
theorem j_un : (Rows.incrementSameRow.unfollowed == Tryz.prog.unfollowed 3) = true := by
  rw [un]
  rfl
theorem j_re : (Rows.incrementSameRow.recurses == Tryz.prog.recurses 3) = true := by
  unfold Program.recurses
  rw [un]
  rfl
theorem j_na : (Rows.incrementSameRow.named == Tryz.prog.varsNamed 3) = true := by
  unfold Program.varsNamed
  rw [cl_eq]
  kernel_rfl
end Go.Proofs.YtaioinkajndjkaaGreatDoor.incrementSame