/- Contracts, by sameo.py. -/
import Derived.Test.YtlgdhdelhpklbaaGreatSq
set_option maxHeartbeats 4000000
set_option maxRecDepth 20000
set_option linter.unusedSimpArgs false
set_option linter.unusedVariables false
namespace Go.Proofs.YtlgdhdelhpklbaaGreat.EV
open Go.RowKit
open Classical
theorem dr64_0 : drawnA Tryz.prog (drawnIn Tryz.f64 0) = true := drawn_of (tab := [⟨some 5, [0], false, []⟩, ⟨some 6, [5], false, [0]⟩, ⟨some 7, [6], false, [1]⟩, ⟨some 8, [7], false, [2]⟩, ⟨some 9, [1], false, []⟩, ⟨some 10, [9], false, [4]⟩, ⟨some 11, [10], false, [5]⟩, ⟨some 12, [11], false, [6]⟩, ⟨some 13, [8, 12], false, [3, 7]⟩, ⟨some 14, [13], false, [8]⟩, ⟨some 15, [0, 14], false, [9]⟩, ⟨some 16, [15, 14], false, [10, 9]⟩, ⟨some 17, [16, 14], false, [11, 9]⟩, ⟨some 18, [17, 14], false, [12, 9]⟩, ⟨some 19, [1, 14], false, [9]⟩, ⟨some 20, [19, 14], false, [14, 9]⟩, ⟨some 21, [20, 14], false, [15, 9]⟩, ⟨some 22, [21, 14], false, [16, 9]⟩, ⟨some 23, [18, 22, 14], false, [13, 17, 9]⟩, ⟨some 24, [14, 23], false, [9, 18]⟩, ⟨some 25, [24], false, [19, 9]⟩, ⟨some 26, [0, 25], false, [20]⟩, ⟨some 27, [26, 25], false, [21, 20]⟩, ⟨some 28, [27, 25], false, [22, 20]⟩, ⟨some 29, [28, 25], false, [23, 20]⟩, ⟨some 30, [1, 25], false, [20]⟩, ⟨some 31, [30, 25], false, [25, 20]⟩, ⟨some 32, [31, 25], false, [26, 20]⟩, ⟨some 33, [32, 25], false, [27, 20]⟩, ⟨some 34, [29, 33, 25], false, [24, 28, 20, 20]⟩, ⟨some 35, [25, 34], false, [20, 29]⟩, ⟨some 36, [35], false, [30, 29]⟩, ⟨some 37, [0, 36], false, [31]⟩, ⟨some 38, [37, 36], false, [32, 31]⟩, ⟨some 39, [38, 36], false, [33, 31]⟩, ⟨some 40, [39, 36], false, [34, 31]⟩, ⟨some 41, [40, 36], false, [35, 31]⟩, ⟨some 42, [1, 36], false, [31]⟩, ⟨some 43, [42, 36], false, [37, 31]⟩, ⟨some 44, [43, 36], false, [38, 31]⟩, ⟨some 45, [44, 36], false, [39, 31]⟩, ⟨some 46, [45, 36], false, [40, 31]⟩, ⟨some 47, [41, 46, 36], false, [36, 41, 31]⟩, ⟨some 48, [36, 47], false, [31, 42]⟩, ⟨some 49, [48], false, [43, 31]⟩, ⟨some 50, [0, 49], false, [44]⟩, ⟨some 51, [50, 49], false, [45, 44]⟩, ⟨some 52, [51, 49], false, [46, 44]⟩, ⟨some 53, [52, 49], false, [47, 44]⟩, ⟨some 54, [1, 49], false, [44]⟩, ⟨some 55, [54, 49], false, [49, 44]⟩, ⟨some 56, [55, 49], false, [50, 44]⟩, ⟨some 57, [56, 49], false, [51, 44]⟩, ⟨some 58, [53, 57, 49], false, [48, 52, 44]⟩, ⟨some 59, [49, 58], false, [44, 53]⟩, ⟨some 60, [59], false, [54, 44]⟩, ⟨some 61, [0, 60], false, [55]⟩, ⟨some 62, [61, 60], false, [56, 55]⟩, ⟨some 63, [62, 60], false, [57, 55]⟩, ⟨some 64, [63, 60], false, [58, 55]⟩, ⟨some 65, [1, 60], false, [55]⟩, ⟨some 66, [65, 60], false, [60, 55]⟩, ⟨some 67, [66, 60], false, [61, 55]⟩, ⟨some 68, [67, 60], false, [62, 55]⟩, ⟨some 69, [64, 68, 60], false, [59, 63, 55, 55]⟩, ⟨some 70, [60, 69], false, [55, 64]⟩, ⟨some 71, [70], false, [65, 64]⟩, ⟨some 72, [0, 71], false, [66]⟩, ⟨some 73, [72, 71], false, [67, 66]⟩, ⟨some 74, [73, 71], false, [68, 66]⟩, ⟨some 75, [74, 71], false, [69, 66]⟩, ⟨some 76, [1, 71], false, [66]⟩, ⟨some 77, [76, 71], false, [71, 66]⟩, ⟨some 78, [77, 71], false, [72, 66]⟩, ⟨some 79, [78, 71], false, [73, 66]⟩, ⟨some 80, [75, 79, 71], false, [70, 74, 66]⟩, ⟨some 81, [71, 80], false, [66, 75]⟩, ⟨some 4, [81], false, [76, 66, 0, 1, 2, 3, 4, 5, 6, 7, 8, 9, 10, 11, 12, 13, 14, 15, 16, 17, 18, 19, 20, 21, 22, 23, 24, 25, 26, 27, 28, 29, 30, 31, 32, 33, 34, 35, 36, 37, 38, 39, 40, 41, 42, 43, 44, 45, 46, 47, 48, 49, 50, 51, 52, 53, 54, 55, 56, 57, 58, 59, 60, 61, 62, 63, 64, 65, 66, 67, 68, 69, 70, 71, 72, 73, 74, 75, 76]⟩]) follows_mixed (by kernel_rfl) (by kernel_rfl)
theorem same64 (call : FuncId → List AV → Option AV) (m : Nat)
    (hc65 : ∀ x y, OkR lay146 x → OkR lay146 y → call 65 [.sl .sh x, .sl .sh y] = some (.lit (.bool (decide (x = y)))))
    (hc35 : ∀ x y, OkR lay9 x → OkR lay9 y → call 35 [.sl .sh x, .sl .sh y] = some (.lit (.bool (decide (x = y)))))
    {x y : List AV} {rx ry : List AV} (hx : OkL lay119 x) (hy : OkL lay119 y) : evBody Tryz.prog call m Tryz.f64 [.eptr (x ++ rx), .eptr (y ++ ry)] = some (.lit (.bool (decide (x = y)))) := by
  obtain ⟨c, r, rfl, hc, tx0⟩ := hx.cons_inv
  obtain ⟨x0, rfl, wx0⟩ := hc.str_inv
  obtain ⟨c, r, rfl, hc, tx1⟩ := tx0.cons_inv
  obtain ⟨x1, rfl, wx1⟩ := hc.int_inv
  obtain ⟨c, r, rfl, hc, tx2⟩ := tx1.cons_inv
  obtain ⟨x2, rfl, wx2⟩ := hc.sl_inv
  obtain ⟨c, r, rfl, hc, tx3⟩ := tx2.cons_inv
  obtain ⟨x3, rfl, wx3⟩ := hc.sl_inv
  obtain ⟨c, r, rfl, hc, tx4⟩ := tx3.cons_inv
  obtain ⟨x4, rfl, wx4⟩ := hc.int_inv
  obtain ⟨c, r, rfl, hc, tx5⟩ := tx4.cons_inv
  obtain ⟨x5, rfl, wx5⟩ := hc.int_inv
  obtain ⟨c, r, rfl, hc, tx6⟩ := tx5.cons_inv
  obtain ⟨x6, rfl, wx6⟩ := hc.int_inv
  obtain ⟨c, r, rfl, hc, tx7⟩ := tx6.cons_inv
  obtain ⟨x7, rfl, wx7⟩ := hc.int_inv
  obtain ⟨c, r, rfl, hc, tx8⟩ := tx7.cons_inv
  obtain ⟨x8, rfl, wx8⟩ := hc.int_inv
  obtain ⟨c, r, rfl, hc, tx9⟩ := tx8.cons_inv
  obtain ⟨x9, rfl⟩ := hc.bool_inv
  obtain ⟨c, r, rfl, hc, tx10⟩ := tx9.cons_inv
  obtain ⟨x10, rfl⟩ := hc.bool_inv
  obtain ⟨c, r, rfl, hc, tx11⟩ := tx10.cons_inv
  obtain ⟨x11, rfl, wx11⟩ := hc.sl_inv
  obtain ⟨c, r, rfl, hc, tx12⟩ := tx11.cons_inv
  obtain ⟨x12, rfl, wx12⟩ := hc.int_inv
  have := tx12.nil_inv; subst this
  obtain ⟨c, r, rfl, hc, ty0⟩ := hy.cons_inv
  obtain ⟨y0, rfl, wy0⟩ := hc.str_inv
  obtain ⟨c, r, rfl, hc, ty1⟩ := ty0.cons_inv
  obtain ⟨y1, rfl, wy1⟩ := hc.int_inv
  obtain ⟨c, r, rfl, hc, ty2⟩ := ty1.cons_inv
  obtain ⟨y2, rfl, wy2⟩ := hc.sl_inv
  obtain ⟨c, r, rfl, hc, ty3⟩ := ty2.cons_inv
  obtain ⟨y3, rfl, wy3⟩ := hc.sl_inv
  obtain ⟨c, r, rfl, hc, ty4⟩ := ty3.cons_inv
  obtain ⟨y4, rfl, wy4⟩ := hc.int_inv
  obtain ⟨c, r, rfl, hc, ty5⟩ := ty4.cons_inv
  obtain ⟨y5, rfl, wy5⟩ := hc.int_inv
  obtain ⟨c, r, rfl, hc, ty6⟩ := ty5.cons_inv
  obtain ⟨y6, rfl, wy6⟩ := hc.int_inv
  obtain ⟨c, r, rfl, hc, ty7⟩ := ty6.cons_inv
  obtain ⟨y7, rfl, wy7⟩ := hc.int_inv
  obtain ⟨c, r, rfl, hc, ty8⟩ := ty7.cons_inv
  obtain ⟨y8, rfl, wy8⟩ := hc.int_inv
  obtain ⟨c, r, rfl, hc, ty9⟩ := ty8.cons_inv
  obtain ⟨y9, rfl⟩ := hc.bool_inv
  obtain ⟨c, r, rfl, hc, ty10⟩ := ty9.cons_inv
  obtain ⟨y10, rfl⟩ := hc.bool_inv
  obtain ⟨c, r, rfl, hc, ty11⟩ := ty10.cons_inv
  obtain ⟨y11, rfl, wy11⟩ := hc.sl_inv
  obtain ⟨c, r, rfl, hc, ty12⟩ := ty11.cons_inv
  obtain ⟨y12, rfl, wy12⟩ := hc.int_inv
  have := ty12.nil_inv; subst this
  have bx3 := (bytesOfA_ok wx3).1
  have by3_ := (bytesOfA_ok wy3).1
  have bi3 := bytesL_inj wx3 wy3
  simp only [List.cons_append, List.nil_append]
  have dr0 := dr64_0
  simp only [drawnIn, drawnsOf, Tryz.f64, List.getD_cons_succ, List.getD_cons_zero, List.nil_append, List.append_nil, List.cons_append] at dr0
  apply ends_eq
  rw [ev_body (c := _) rfl]
  rw [show entry Tryz.f64 [.eptr (.lit (.string x0) :: .lit (.int .i64 x1) :: .sl .sh x2 :: .sl .sh x3 :: .lit (.int .i64 x4) :: .lit (.int .i64 x5) :: .lit (.int .i64 x6) :: .lit (.int .i64 x7) :: .lit (.int .i64 x8) :: .lit (.bool x9) :: .lit (.bool x10) :: .sl .sh x11 :: .lit (.int .i64 x12) :: rx), .eptr (.lit (.string y0) :: .lit (.int .i64 y1) :: .sl .sh y2 :: .sl .sh y3 :: .lit (.int .i64 y4) :: .lit (.int .i64 y5) :: .lit (.int .i64 y6) :: .lit (.int .i64 y7) :: .lit (.int .i64 y8) :: .lit (.bool y9) :: .lit (.bool y10) :: .sl .sh y11 :: .lit (.int .i64 y12) :: ry)] = { s := [.eptr (.lit (.string x0) :: .lit (.int .i64 x1) :: .sl .sh x2 :: .sl .sh x3 :: .lit (.int .i64 x4) :: .lit (.int .i64 x5) :: .lit (.int .i64 x6) :: .lit (.int .i64 x7) :: .lit (.int .i64 x8) :: .lit (.bool x9) :: .lit (.bool x10) :: .sl .sh x11 :: .lit (.int .i64 x12) :: rx), .eptr (.lit (.string y0) :: .lit (.int .i64 y1) :: .sl .sh y2 :: .sl .sh y3 :: .lit (.int .i64 y4) :: .lit (.int .i64 y5) :: .lit (.int .i64 y6) :: .lit (.int .i64 y7) :: .lit (.int .i64 y8) :: .lit (.bool y9) :: .lit (.bool y10) :: .sl .sh y11 :: .lit (.int .i64 y12) :: ry), .undef, .undef, .undef, .undef, .undef, .undef, .undef, .undef, .undef, .undef, .undef, .undef, .undef, .undef, .undef, .undef, .undef, .undef, .undef, .undef, .undef, .undef, .undef, .undef, .undef, .undef, .undef, .undef, .undef, .undef, .undef, .undef, .undef, .undef, .undef, .undef, .undef, .undef, .undef, .undef, .undef, .undef, .undef, .undef, .undef, .undef, .undef, .undef, .undef, .undef, .undef, .undef, .undef, .undef, .undef, .undef, .undef, .undef, .undef, .undef, .undef, .undef, .undef, .undef, .undef, .undef, .undef, .undef, .undef, .undef, .undef, .undef, .undef, .undef, .undef, .undef, .undef, .undef, .undef, .undef], live := fun _ _ => none } from rfl]
  simp (config := {contextual := true, maxSteps := 3000000, dsimp := false}) only [Tryz.f64, ↓ev_seq, ↓ev_region, ↓ev_nil, ↓get8, ↓set8, ↓st_op, ↓st_load, ↓ev_cond, ↓ev_skip, ↓ev_ret, ↓ev_end, ↓ends_env, ↓ends_bool, ↓ends_av, ↓ends_avs, ↓br_true, ↓br_false, ↓br_not, ↓br_or, ↓br_and, ↓br_beq_true, ↓br_beq_false, Option.map_some, ↓ends_bind, condA, wantA, Env.tr, trOf, evStep, evPure, evRead, callStep, snaps, snap, snap1, snapL, plainL, plain1, Env.made, home, homeA, home1, owned, ownedA, owned1, lookN, Env.get, Env.put, Env.clean, view, AV.cells, AV.one, ptrAdd, Env.cellAt, cellOf, c1_lit, c1_sh, c1_ex, c1_ow, c1_loc, c1_mrow, c1_eptr, c1_junk, cl_lit, cl_sh, cl_ex, cl_ow, cl_loc, cl_mrow, cl_eptr, cl_junk, cl_agg, cl_fn, cl_cell, cl_row, cl_tup, ca_lit, ca_sh, ca_ex, ca_ow, ca_agg, ofConst, Value.oneCell', resL, resV, fin, finA, fin1, unA, binA_eql, binA_neq, binA_seql, binA_sneq, binA_bneq un4, binA_beql un4, okl_cons, okl_nil, okc_str, okc_bool, okc_int, okc_sl, List.getD_cons_succ, List.getD_cons_zero, List.set_cons_succ, List.set_cons_zero, List.map_cons, List.map_nil, List.all_cons, List.all_nil, lenA, indexAddrA, natA_int, List.take_of_length_le, binA_lss, binA_add, ↓ev_nilD, ↓ev_block, ↓ev_loop, ↓ev_exit, loudA, rdOp, freeA, nc_lit, nc_sl, nc_agg, nc_eptr, nc_loc, nc_fn, weak, weakA, weak1, goD, setCells, setCellOf, convA, ↓ends_bool, Option.getD_some, Option.getD_none, Option.bind_some, Option.bind_none, Option.map_none, Option.some.injEq, and_true, true_and, and_self, and_false, false_and, or_true, true_or, or_false, false_or, or_self, not_true_eq_false, not_false_eq_true, implies_true, forall_eq, forall_const, ite_self, ↓reduceIte, reduceCtorEq, decide_true, decide_false, decide_eq_true_eq, decide_eq_false_iff_not, Bool.not_true, Bool.not_false, Bool.and_self, Bool.and_true, Bool.true_and, Bool.and_false, Bool.false_and, Bool.false_eq_true, Bool.true_eq_false, Bool.not_eq_true, beq_true, beq_false, BEq.rfl, beq_self_eq_true, List.length_cons, List.length_nil, List.take_zero, List.take_succ_cons, List.take_nil, List.drop_zero, List.drop_succ_cons, List.drop_nil, List.append_nil, List.nil_append, List.cons_append, List.append_eq, List.mem_cons, List.not_mem_nil, List.contains_nil, List.contains_eq_mem, List.elem_nil, List.find?_nil, List.flatMap_nil, List.flatMap_cons, List.getElem?_toArray, List.getElem?_cons_zero, List.getElem?_cons_succ, List.getElem?_nil, Std.le_refl, Nat.le_refl, Nat.zero_le, Nat.lt_add_one, Nat.zero_add, Nat.add_zero, Nat.reduceAdd, Nat.reduceLT, Nat.reduceLeDiff, Nat.reduceEqDiff, Nat.reduceMul, Nat.mul_one, Nat.zero_mul, Int.natCast_add, Int.cast_ofNat_Int, Int.lt_irrefl, Nat.le_add_left, List.getD_nil, if_false, not_not, ite_not, List.map_nil, Option.isSome_some, List.reverse_nil, ends_env, loopIn, loopsOf, List.cons.injEq, AV.lit.injEq, AV.sl.injEq, Value.int.injEq, Value.bool.injEq, Value.string.injEq, eq_self, iff_self, decide_eq_decide, if_true, ↓ev_op, ↓ev_opDn, ↓ev_opg, ↓ev_opDg, ↓br_dec, ag115, ag117, ag2, ag22, ag9, ag97, en35, en65, fi119_0, fi119_1, fi119_2, fi119_3, fi119_4, fi119_5, fi119_6, seq117, sne117, sz115, sz117, sz2, sz22, sz9, sz97, un115, un5, un9, ↓ev_drawn dr0, okl_cons, okl_nil, okc_str, okc_bool, okc_int, okc_sl, hc65, hc35, wx0, wy0, wx1, wy1, wx2, wy2, wx3, wy3, wx4, wy4, wx5, wy5, wx6, wy6, wx7, wy7, wx8, wy8, wx11, wy11, wx12, wy12, bx3, by3_, bi3]
  all_goals (try simp (config := {contextual := true}))
  all_goals grind
theorem lp15 (call : FuncId → List AV → Option AV) (m : Nat)
    (hc37 : ∀ x y, OkL lay99 x → OkL lay99 y → call 37 [.agg x, .agg y] = some (.lit (.bool (decide (x = y)))))
    (hc38 : ∀ x y, OkR lay137 x → OkR lay137 y → call 38 [.sl .sh x, .sl .sh y] = some (.lit (.bool (decide (x = y))))) 
    {c : Code} (hcd : c = loopIn Tryz.f15 0) {es fs : List (List AV)} (he : OkR lay102 es) (hf : OkR lay102 fs) (hl : es.length = fs.length) {F : Ex × Env → Prop} (h1 : ∀ (lv : Nat → Nat → Option Nat) (ui u2 u3 u6 u7 u8 u9 u10 u11 u12 u13 u14 u15 u16 u17 u18 u19 u20 u21 u22 u23 u24 u25 u26 u27 u28 u29 u30 u31 u32 u33 u34 u35 u36 u37 u38 u39 u40 u41 u42 u43 u44 u45 u46 u47 u48 u49 u50 u51 u52 u53 u54 u55 u56 u57 u58 u59 u60 u61 u62 u63 u64 u65 u66 u67 u68 u69 u70 u71 u72 u73 u74 u75 u76 u77 u78 u79 u80 u81 u82 : AV), es = fs → F (.exit 0, { s := [.sl .sh es, .sl .sh fs, u2, u3, .lit (.bool false), ui, u6, u7, u8, u9, u10, u11, u12, u13, u14, u15, u16, u17, u18, u19, u20, u21, u22, u23, u24, u25, u26, u27, u28, u29, u30, u31, u32, u33, u34, u35, u36, u37, u38, u39, u40, u41, u42, u43, u44, u45, u46, u47, u48, u49, u50, u51, u52, u53, u54, u55, u56, u57, u58, u59, u60, u61, u62, u63, u64, u65, u66, u67, u68, u69, u70, u71, u72, u73, u74, u75, u76, u77, u78, u79, u80, u81, u82], live := lv })) (h2 : ∀ E', es ≠ fs → E'.s[4]? = some (.lit (.bool false)) → F (.ret, E')) :
    ∀ (k N i : Nat) (lv : Nat → Nat → Option Nat) (u2 u3 u6 u7 u8 u9 u10 u11 u12 u13 u14 u15 u16 u17 u18 u19 u20 u21 u22 u23 u24 u25 u26 u27 u28 u29 u30 u31 u32 u33 u34 u35 u36 u37 u38 u39 u40 u41 u42 u43 u44 u45 u46 u47 u48 u49 u50 u51 u52 u53 u54 u55 u56 u57 u58 u59 u60 u61 u62 u63 u64 u65 u66 u67 u68 u69 u70 u71 u72 u73 u74 u75 u76 u77 u78 u79 u80 u81 u82 : AV), k < N → k + i = es.length → es.take i = fs.take i →
      Ends (evLoop (evCode Tryz.prog call m c) N { s := [.sl .sh es, .sl .sh fs, u2, u3, .lit (.bool false), .lit (.int .i64 (i : Int)), u6, u7, u8, u9, u10, u11, u12, u13, u14, u15, u16, u17, u18, u19, u20, u21, u22, u23, u24, u25, u26, u27, u28, u29, u30, u31, u32, u33, u34, u35, u36, u37, u38, u39, u40, u41, u42, u43, u44, u45, u46, u47, u48, u49, u50, u51, u52, u53, u54, u55, u56, u57, u58, u59, u60, u61, u62, u63, u64, u65, u66, u67, u68, u69, u70, u71, u72, u73, u74, u75, u76, u77, u78, u79, u80, u81, u82], live := lv }) F := by
  intro k
  induction k with
  | zero =>
    intro N i lv u2 u3 u6 u7 u8 u9 u10 u11 u12 u13 u14 u15 u16 u17 u18 u19 u20 u21 u22 u23 u24 u25 u26 u27 u28 u29 u30 u31 u32 u33 u34 u35 u36 u37 u38 u39 u40 u41 u42 u43 u44 u45 u46 u47 u48 u49 u50 u51 u52 u53 u54 u55 u56 u57 u58 u59 u60 u61 u62 u63 u64 u65 u66 u67 u68 u69 u70 u71 u72 u73 u74 u75 u76 u77 u78 u79 u80 u81 u82 hN hk hp
    obtain ⟨N, rfl⟩ : ∃ N', N = N' + 1 := ⟨N - 1, by omega⟩
    have hi : i = es.length := by omega
    subst hi
    rw [List.take_of_length_le (Nat.le_refl _), List.take_of_length_le (by omega)] at hp
    rw [ev_turn hcd]
    simp [loopIn, loopsOf, Tryz.f15, ↓ev_seq, ↓ev_region, ↓ev_nil, ↓get8, ↓set8, ↓st_op, ↓st_load, ↓ev_cond, ↓ev_skip, ↓ev_ret, ↓ev_end, ↓ends_env, ↓ends_bool, ↓ends_av, ↓ends_avs, ↓br_true, ↓br_false, ↓br_not, ↓br_or, ↓br_and, ↓br_beq_true, ↓br_beq_false, Option.map_some, ↓ends_bind, condA, wantA, Env.tr, trOf, evStep, evPure, evRead, callStep, snaps, snap, snap1, snapL, plainL, plain1, Env.made, home, homeA, home1, owned, ownedA, owned1, lookN, Env.get, Env.put, Env.clean, view, AV.cells, AV.one, ptrAdd, Env.cellAt, cellOf, c1_lit, c1_sh, c1_ex, c1_ow, c1_loc, c1_mrow, c1_eptr, c1_junk, cl_lit, cl_sh, cl_ex, cl_ow, cl_loc, cl_mrow, cl_eptr, cl_junk, cl_agg, cl_fn, cl_cell, cl_row, cl_tup, ca_lit, ca_sh, ca_ex, ca_ow, ca_agg, ofConst, Value.oneCell', resL, resV, fin, finA, fin1, unA, binA_eql, binA_neq, binA_seql, binA_sneq, binA_bneq un4, binA_beql un4, okl_cons, okl_nil, okc_str, okc_bool, okc_int, okc_sl, List.getD_cons_succ, List.getD_cons_zero, List.set_cons_succ, List.set_cons_zero, List.map_cons, List.map_nil, List.all_cons, List.all_nil, lenA, indexAddrA, natA_int, List.take_of_length_le, binA_lss, binA_add, ↓ev_nilD, ↓ev_block, ↓ev_loop, ↓ev_exit, loudA, rdOp, freeA, nc_lit, nc_sl, nc_agg, nc_eptr, nc_loc, nc_fn, weak, weakA, weak1, goD, setCells, setCellOf, convA, ↓ends_bool, Option.getD_some, Option.getD_none, Option.bind_some, Option.bind_none, Option.map_none, Option.some.injEq, and_true, true_and, and_self, and_false, false_and, or_true, true_or, or_false, false_or, or_self, not_true_eq_false, not_false_eq_true, implies_true, forall_eq, forall_const, ite_self, ↓reduceIte, reduceCtorEq, decide_true, decide_false, decide_eq_true_eq, decide_eq_false_iff_not, Bool.not_true, Bool.not_false, Bool.and_self, Bool.and_true, Bool.true_and, Bool.and_false, Bool.false_and, Bool.false_eq_true, Bool.true_eq_false, Bool.not_eq_true, beq_true, beq_false, BEq.rfl, beq_self_eq_true, List.length_cons, List.length_nil, List.take_zero, List.take_succ_cons, List.take_nil, List.drop_zero, List.drop_succ_cons, List.drop_nil, List.append_nil, List.nil_append, List.cons_append, List.append_eq, List.mem_cons, List.not_mem_nil, List.contains_nil, List.contains_eq_mem, List.elem_nil, List.find?_nil, List.flatMap_nil, List.flatMap_cons, List.getElem?_toArray, List.getElem?_cons_zero, List.getElem?_cons_succ, List.getElem?_nil, Std.le_refl, Nat.le_refl, Nat.zero_le, Nat.lt_add_one, Nat.zero_add, Nat.add_zero, Nat.reduceAdd, Nat.reduceLT, Nat.reduceLeDiff, Nat.reduceEqDiff, Nat.reduceMul, Nat.mul_one, Nat.zero_mul, Int.natCast_add, Int.cast_ofNat_Int, Int.lt_irrefl, Nat.le_add_left, List.getD_nil, if_false, not_not, ite_not, List.map_nil, Option.isSome_some, List.reverse_nil, ends_env, loopIn, loopsOf, List.cons.injEq, AV.lit.injEq, AV.sl.injEq, Value.int.injEq, Value.bool.injEq, Value.string.injEq, eq_self, iff_self, decide_eq_decide, if_true, ↓ev_op, ↓ev_opDn, ↓ev_opg, ↓ev_opDg, ↓br_dec, ag100, ag102, ag2, ag4, ag9, ag99, binA_beql un4, binA_bneq un4, en37, en38, fi102_0, fi102_1, fi102_2, fi102_3, fi102_4, fi102_5, fi102_6, fi102_7, sz100, sz102, sz2, sz4, sz9, sz99, un46, z102]
    exact h1 _ _ _ _ _ _ _ _ _ _ _ _ _ _ _ _ _ _ _ _ _ _ _ _ _ _ _ _ _ _ _ _ _ _ _ _ _ _ _ _ _ _ _ _ _ _ _ _ _ _ _ _ _ _ _ _ _ _ _ _ _ _ _ _ _ _ _ _ _ _ _ _ _ _ _ _ _ _ _ _ _ hp
  | succ k ih =>
    intro N i lv u2 u3 u6 u7 u8 u9 u10 u11 u12 u13 u14 u15 u16 u17 u18 u19 u20 u21 u22 u23 u24 u25 u26 u27 u28 u29 u30 u31 u32 u33 u34 u35 u36 u37 u38 u39 u40 u41 u42 u43 u44 u45 u46 u47 u48 u49 u50 u51 u52 u53 u54 u55 u56 u57 u58 u59 u60 u61 u62 u63 u64 u65 u66 u67 u68 u69 u70 u71 u72 u73 u74 u75 u76 u77 u78 u79 u80 u81 u82 hN hk hp
    obtain ⟨N, rfl⟩ : ∃ N', N = N' + 1 := ⟨N - 1, by omega⟩
    obtain ⟨x, hx, hxo, hxt⟩ := he.get (i := i) (by omega)
    obtain ⟨y, hy, hyo, hyt⟩ := hf.get (i := i) (by omega)
    have hlt : ((i : Int) < (es.length : Int)) := by omega
    have hbd : i < 9223372036854775807 := by have := he.1; omega
    obtain ⟨c, r, rfl, hc, tp0⟩ := hxo.cons_inv
    obtain ⟨p0, rfl, wp0⟩ := hc.int_inv
    obtain ⟨c, r, rfl, hc, tp1⟩ := tp0.cons_inv
    obtain ⟨p1, rfl, wp1⟩ := hc.str_inv
    obtain ⟨c, r, rfl, hc, tp2⟩ := tp1.cons_inv
    obtain ⟨p2, rfl⟩ := hc.bool_inv
    obtain ⟨c, r, rfl, hc, tp3⟩ := tp2.cons_inv
    obtain ⟨p3, rfl⟩ := hc.bool_inv
    obtain ⟨c, r, rfl, hc, tp4⟩ := tp3.cons_inv
    obtain ⟨p4, rfl, wp4⟩ := hc.int_inv
    obtain ⟨c, r, rfl, hc, tp5⟩ := tp4.cons_inv
    obtain ⟨p5, rfl⟩ := hc.bool_inv
    obtain ⟨c, r, rfl, hc, tp6⟩ := tp5.cons_inv
    obtain ⟨p6, rfl, wp6⟩ := hc.str_inv
    obtain ⟨c, r, rfl, hc, tp7⟩ := tp6.cons_inv
    obtain ⟨p7, rfl, wp7⟩ := hc.str_inv
    obtain ⟨c, r, rfl, hc, tp8⟩ := tp7.cons_inv
    obtain ⟨p8, rfl, wp8⟩ := hc.str_inv
    obtain ⟨c, r, rfl, hc, tp9⟩ := tp8.cons_inv
    obtain ⟨p9, rfl, wp9⟩ := hc.sl_inv
    obtain ⟨c, r, rfl, hc, tp10⟩ := tp9.cons_inv
    obtain ⟨p10, rfl, wp10⟩ := hc.sl_inv
    have := tp10.nil_inv; subst this
    obtain ⟨c, r, rfl, hc, tq0⟩ := hyo.cons_inv
    obtain ⟨q0, rfl, wq0⟩ := hc.int_inv
    obtain ⟨c, r, rfl, hc, tq1⟩ := tq0.cons_inv
    obtain ⟨q1, rfl, wq1⟩ := hc.str_inv
    obtain ⟨c, r, rfl, hc, tq2⟩ := tq1.cons_inv
    obtain ⟨q2, rfl⟩ := hc.bool_inv
    obtain ⟨c, r, rfl, hc, tq3⟩ := tq2.cons_inv
    obtain ⟨q3, rfl⟩ := hc.bool_inv
    obtain ⟨c, r, rfl, hc, tq4⟩ := tq3.cons_inv
    obtain ⟨q4, rfl, wq4⟩ := hc.int_inv
    obtain ⟨c, r, rfl, hc, tq5⟩ := tq4.cons_inv
    obtain ⟨q5, rfl⟩ := hc.bool_inv
    obtain ⟨c, r, rfl, hc, tq6⟩ := tq5.cons_inv
    obtain ⟨q6, rfl, wq6⟩ := hc.str_inv
    obtain ⟨c, r, rfl, hc, tq7⟩ := tq6.cons_inv
    obtain ⟨q7, rfl, wq7⟩ := hc.str_inv
    obtain ⟨c, r, rfl, hc, tq8⟩ := tq7.cons_inv
    obtain ⟨q8, rfl, wq8⟩ := hc.str_inv
    obtain ⟨c, r, rfl, hc, tq9⟩ := tq8.cons_inv
    obtain ⟨q9, rfl, wq9⟩ := hc.sl_inv
    obtain ⟨c, r, rfl, hc, tq10⟩ := tq9.cons_inv
    obtain ⟨q10, rfl, wq10⟩ := hc.sl_inv
    have := tq10.nil_inv; subst this
    rw [ev_turn hcd]
    have ihh : ([.lit (.int .i64 p0), .lit (.string p1), .lit (.bool p2), .lit (.bool p3), .lit (.int .i64 p4), .lit (.bool p5), .lit (.string p6), .lit (.string p7), .lit (.string p8), .sl .sh p9, .sl .sh p10] : List AV) = ([.lit (.int .i64 q0), .lit (.string q1), .lit (.bool q2), .lit (.bool q3), .lit (.int .i64 q4), .lit (.bool q5), .lit (.string q6), .lit (.string q7), .lit (.string q8), .sl .sh q9, .sl .sh q10] : List AV) → ∀ (lv : Nat → Nat → Option Nat) (u2 u3 u6 u7 u8 u9 u10 u11 u12 u13 u14 u15 u16 u17 u18 u19 u20 u21 u22 u23 u24 u25 u26 u27 u28 u29 u30 u31 u32 u33 u34 u35 u36 u37 u38 u39 u40 u41 u42 u43 u44 u45 u46 u47 u48 u49 u50 u51 u52 u53 u54 u55 u56 u57 u58 u59 u60 u61 u62 u63 u64 u65 u66 u67 u68 u69 u70 u71 u72 u73 u74 u75 u76 u77 u78 u79 u80 u81 u82 : AV), Ends (evLoop (evCode Tryz.prog call m c) N { s := [.sl .sh es, .sl .sh fs, u2, u3, .lit (.bool false), .lit (.int .i64 ((i + 1 : Nat) : Int)), u6, u7, u8, u9, u10, u11, u12, u13, u14, u15, u16, u17, u18, u19, u20, u21, u22, u23, u24, u25, u26, u27, u28, u29, u30, u31, u32, u33, u34, u35, u36, u37, u38, u39, u40, u41, u42, u43, u44, u45, u46, u47, u48, u49, u50, u51, u52, u53, u54, u55, u56, u57, u58, u59, u60, u61, u62, u63, u64, u65, u66, u67, u68, u69, u70, u71, u72, u73, u74, u75, u76, u77, u78, u79, u80, u81, u82], live := lv }) F := fun hxy lv u2 u3 u6 u7 u8 u9 u10 u11 u12 u13 u14 u15 u16 u17 u18 u19 u20 u21 u22 u23 u24 u25 u26 u27 u28 u29 u30 u31 u32 u33 u34 u35 u36 u37 u38 u39 u40 u41 u42 u43 u44 u45 u46 u47 u48 u49 u50 u51 u52 u53 u54 u55 u56 u57 u58 u59 u60 u61 u62 u63 u64 u65 u66 u67 u68 u69 u70 u71 u72 u73 u74 u75 u76 u77 u78 u79 u80 u81 u82 => ih N (i + 1) lv u2 u3 u6 u7 u8 u9 u10 u11 u12 u13 u14 u15 u16 u17 u18 u19 u20 u21 u22 u23 u24 u25 u26 u27 u28 u29 u30 u31 u32 u33 u34 u35 u36 u37 u38 u39 u40 u41 u42 u43 u44 u45 u46 u47 u48 u49 u50 u51 u52 u53 u54 u55 u56 u57 u58 u59 u60 u61 u62 u63 u64 u65 u66 u67 u68 u69 u70 u71 u72 u73 u74 u75 u76 u77 u78 u79 u80 u81 u82 (by omega) (by omega) (by rw [hxt, hyt, hp, hxy])
    have h2h : ¬ (([.lit (.int .i64 p0), .lit (.string p1), .lit (.bool p2), .lit (.bool p3), .lit (.int .i64 p4), .lit (.bool p5), .lit (.string p6), .lit (.string p7), .lit (.string p8), .sl .sh p9, .sl .sh p10] : List AV) = ([.lit (.int .i64 q0), .lit (.string q1), .lit (.bool q2), .lit (.bool q3), .lit (.int .i64 q4), .lit (.bool q5), .lit (.string q6), .lit (.string q7), .lit (.string q8), .sl .sh q9, .sl .sh q10] : List AV)) → ∀ E', E'.s[4]? = some (.lit (.bool false)) → F (.ret, E') := fun hxy E' => h2 E' (fun h => hxy (by have hy' := hy; rw [← h, hx] at hy'; exact Option.some.inj hy'))
    clear ih h2
    by_cases hxy : ([.lit (.int .i64 p0), .lit (.string p1), .lit (.bool p2), .lit (.bool p3), .lit (.int .i64 p4), .lit (.bool p5), .lit (.string p6), .lit (.string p7), .lit (.string p8), .sl .sh p9, .sl .sh p10] : List AV) = ([.lit (.int .i64 q0), .lit (.string q1), .lit (.bool q2), .lit (.bool q3), .lit (.int .i64 q4), .lit (.bool q5), .lit (.string q6), .lit (.string q7), .lit (.string q8), .sl .sh q9, .sl .sh q10] : List AV)
    · have ihh := ihh hxy
      simp -dsimp [loopIn, loopsOf, Tryz.f15, ↓ev_seq, ↓ev_region, ↓ev_nil, ↓get8, ↓set8, ↓st_op, ↓st_load, ↓ev_cond, ↓ev_skip, ↓ev_ret, ↓ev_end, ↓ends_env, ↓ends_bool, ↓ends_av, ↓ends_avs, ↓br_true, ↓br_false, ↓br_not, ↓br_or, ↓br_and, ↓br_beq_true, ↓br_beq_false, Option.map_some, ↓ends_bind, condA, wantA, Env.tr, trOf, evStep, evPure, evRead, callStep, snaps, snap, snap1, snapL, plainL, plain1, Env.made, home, homeA, home1, owned, ownedA, owned1, lookN, Env.get, Env.put, Env.clean, view, AV.cells, AV.one, ptrAdd, Env.cellAt, cellOf, c1_lit, c1_sh, c1_ex, c1_ow, c1_loc, c1_mrow, c1_eptr, c1_junk, cl_lit, cl_sh, cl_ex, cl_ow, cl_loc, cl_mrow, cl_eptr, cl_junk, cl_agg, cl_fn, cl_cell, cl_row, cl_tup, ca_lit, ca_sh, ca_ex, ca_ow, ca_agg, ofConst, Value.oneCell', resL, resV, fin, finA, fin1, unA, binA_eql, binA_neq, binA_seql, binA_sneq, binA_bneq un4, binA_beql un4, okl_cons, okl_nil, okc_str, okc_bool, okc_int, okc_sl, List.getD_cons_succ, List.getD_cons_zero, List.set_cons_succ, List.set_cons_zero, List.map_cons, List.map_nil, List.all_cons, List.all_nil, lenA, indexAddrA, natA_int, List.take_of_length_le, binA_lss, binA_add, ↓ev_nilD, ↓ev_block, ↓ev_loop, ↓ev_exit, loudA, rdOp, freeA, nc_lit, nc_sl, nc_agg, nc_eptr, nc_loc, nc_fn, weak, weakA, weak1, goD, setCells, setCellOf, convA, ↓ends_bool, Option.getD_some, Option.getD_none, Option.bind_some, Option.bind_none, Option.map_none, Option.some.injEq, and_true, true_and, and_self, and_false, false_and, or_true, true_or, or_false, false_or, or_self, not_true_eq_false, not_false_eq_true, implies_true, forall_eq, forall_const, ite_self, ↓reduceIte, reduceCtorEq, decide_true, decide_false, decide_eq_true_eq, decide_eq_false_iff_not, Bool.not_true, Bool.not_false, Bool.and_self, Bool.and_true, Bool.true_and, Bool.and_false, Bool.false_and, Bool.false_eq_true, Bool.true_eq_false, Bool.not_eq_true, beq_true, beq_false, BEq.rfl, beq_self_eq_true, List.length_cons, List.length_nil, List.take_zero, List.take_succ_cons, List.take_nil, List.drop_zero, List.drop_succ_cons, List.drop_nil, List.append_nil, List.nil_append, List.cons_append, List.append_eq, List.mem_cons, List.not_mem_nil, List.contains_nil, List.contains_eq_mem, List.elem_nil, List.find?_nil, List.flatMap_nil, List.flatMap_cons, List.getElem?_toArray, List.getElem?_cons_zero, List.getElem?_cons_succ, List.getElem?_nil, Std.le_refl, Nat.le_refl, Nat.zero_le, Nat.lt_add_one, Nat.zero_add, Nat.add_zero, Nat.reduceAdd, Nat.reduceLT, Nat.reduceLeDiff, Nat.reduceEqDiff, Nat.reduceMul, Nat.mul_one, Nat.zero_mul, Int.natCast_add, Int.cast_ofNat_Int, Int.lt_irrefl, Nat.le_add_left, List.getD_nil, if_false, not_not, ite_not, List.map_nil, Option.isSome_some, List.reverse_nil, ends_env, loopIn, loopsOf, List.cons.injEq, AV.lit.injEq, AV.sl.injEq, Value.int.injEq, Value.bool.injEq, Value.string.injEq, eq_self, iff_self, decide_eq_decide, if_true, ↓ev_op, ↓ev_opDn, ↓ev_opg, ↓ev_opDg, ↓br_dec, ag100, ag102, ag2, ag4, ag9, ag99, binA_beql un4, binA_bneq un4, en37, en38, fi102_0, fi102_1, fi102_2, fi102_3, fi102_4, fi102_5, fi102_6, fi102_7, sz100, sz102, sz2, sz4, sz9, sz99, un46, z102, okl_cons, okl_nil, okc_str, okc_bool, okc_int, okc_sl, hlt, hx, hy, wrap_small hbd, wp0, wq0, wp1, wq1, wp4, wq4, wp6, wq6, wp7, wq7, wp8, wq8, wp9, wq9, wp10, wq10, hc37, hc38, hxy]
      exact ihh _ _ _ _ _ _ _ _ _ _ _ _ _ _ _ _ _ _ _ _ _ _ _ _ _ _ _ _ _ _ _ _ _ _ _ _ _ _ _ _ _ _ _ _ _ _ _ _ _ _ _ _ _ _ _ _ _ _ _ _ _ _ _ _ _ _ _ _ _ _ _ _ _ _ _ _ _ _ _ _
    · have h2h := h2h hxy
      simp only [List.cons.injEq, AV.lit.injEq, Value.int.injEq, Value.string.injEq, Value.bool.injEq, AV.sl.injEq, true_and, and_true] at hxy
      simp (config := {contextual := true, maxSteps := 3000000, dsimp := false}) only [loopIn, loopsOf, Tryz.f15, ↓ev_seq, ↓ev_region, ↓ev_nil, ↓get8, ↓set8, ↓st_op, ↓st_load, ↓ev_cond, ↓ev_skip, ↓ev_ret, ↓ev_end, ↓ends_env, ↓ends_bool, ↓ends_av, ↓ends_avs, ↓br_true, ↓br_false, ↓br_not, ↓br_or, ↓br_and, ↓br_beq_true, ↓br_beq_false, Option.map_some, ↓ends_bind, condA, wantA, Env.tr, trOf, evStep, evPure, evRead, callStep, snaps, snap, snap1, snapL, plainL, plain1, Env.made, home, homeA, home1, owned, ownedA, owned1, lookN, Env.get, Env.put, Env.clean, view, AV.cells, AV.one, ptrAdd, Env.cellAt, cellOf, c1_lit, c1_sh, c1_ex, c1_ow, c1_loc, c1_mrow, c1_eptr, c1_junk, cl_lit, cl_sh, cl_ex, cl_ow, cl_loc, cl_mrow, cl_eptr, cl_junk, cl_agg, cl_fn, cl_cell, cl_row, cl_tup, ca_lit, ca_sh, ca_ex, ca_ow, ca_agg, ofConst, Value.oneCell', resL, resV, fin, finA, fin1, unA, binA_eql, binA_neq, binA_seql, binA_sneq, binA_bneq un4, binA_beql un4, okl_cons, okl_nil, okc_str, okc_bool, okc_int, okc_sl, List.getD_cons_succ, List.getD_cons_zero, List.set_cons_succ, List.set_cons_zero, List.map_cons, List.map_nil, List.all_cons, List.all_nil, lenA, indexAddrA, natA_int, List.take_of_length_le, binA_lss, binA_add, ↓ev_nilD, ↓ev_block, ↓ev_loop, ↓ev_exit, loudA, rdOp, freeA, nc_lit, nc_sl, nc_agg, nc_eptr, nc_loc, nc_fn, weak, weakA, weak1, goD, setCells, setCellOf, convA, ↓ends_bool, Option.getD_some, Option.getD_none, Option.bind_some, Option.bind_none, Option.map_none, Option.some.injEq, and_true, true_and, and_self, and_false, false_and, or_true, true_or, or_false, false_or, or_self, not_true_eq_false, not_false_eq_true, implies_true, forall_eq, forall_const, ite_self, ↓reduceIte, reduceCtorEq, decide_true, decide_false, decide_eq_true_eq, decide_eq_false_iff_not, Bool.not_true, Bool.not_false, Bool.and_self, Bool.and_true, Bool.true_and, Bool.and_false, Bool.false_and, Bool.false_eq_true, Bool.true_eq_false, Bool.not_eq_true, beq_true, beq_false, BEq.rfl, beq_self_eq_true, List.length_cons, List.length_nil, List.take_zero, List.take_succ_cons, List.take_nil, List.drop_zero, List.drop_succ_cons, List.drop_nil, List.append_nil, List.nil_append, List.cons_append, List.append_eq, List.mem_cons, List.not_mem_nil, List.contains_nil, List.contains_eq_mem, List.elem_nil, List.find?_nil, List.flatMap_nil, List.flatMap_cons, List.getElem?_toArray, List.getElem?_cons_zero, List.getElem?_cons_succ, List.getElem?_nil, Std.le_refl, Nat.le_refl, Nat.zero_le, Nat.lt_add_one, Nat.zero_add, Nat.add_zero, Nat.reduceAdd, Nat.reduceLT, Nat.reduceLeDiff, Nat.reduceEqDiff, Nat.reduceMul, Nat.mul_one, Nat.zero_mul, Int.natCast_add, Int.cast_ofNat_Int, Int.lt_irrefl, Nat.le_add_left, List.getD_nil, if_false, not_not, ite_not, List.map_nil, Option.isSome_some, List.reverse_nil, ends_env, loopIn, loopsOf, List.cons.injEq, AV.lit.injEq, AV.sl.injEq, Value.int.injEq, Value.bool.injEq, Value.string.injEq, eq_self, iff_self, decide_eq_decide, if_true, ↓ev_op, ↓ev_opDn, ↓ev_opg, ↓ev_opDg, ↓br_dec, ag100, ag102, ag2, ag4, ag9, ag99, binA_beql un4, binA_bneq un4, en37, en38, fi102_0, fi102_1, fi102_2, fi102_3, fi102_4, fi102_5, fi102_6, fi102_7, sz100, sz102, sz2, sz4, sz9, sz99, un46, z102, okl_cons, okl_nil, okc_str, okc_bool, okc_int, okc_sl, hlt, hx, hy, wrap_small hbd, wp0, wq0, wp1, wq1, wp4, wq4, wp6, wq6, wp7, wq7, wp8, wq8, wp9, wq9, wp10, wq10, hc37, hc38, h2h, hxy]
      all_goals (try simp (config := {contextual := true}))
      all_goals grind
theorem same15 (call : FuncId → List AV → Option AV)
    (hc37 : ∀ x y, OkL lay99 x → OkL lay99 y → call 37 [.agg x, .agg y] = some (.lit (.bool (decide (x = y)))))
    (hc38 : ∀ x y, OkR lay137 x → OkR lay137 y → call 38 [.sl .sh x, .sl .sh y] = some (.lit (.bool (decide (x = y))))) 
    {es fs : List (List AV)} (he : OkR lay102 es) (hf : OkR lay102 fs) : ∃ m, evBody Tryz.prog call m Tryz.f15 [.sl .sh es, .sl .sh fs] = some (.lit (.bool (decide (es = fs)))) := by
  refine ⟨es.length + 1, ?_⟩
  apply ends_eq
  rw [ev_body (c := _) rfl]
  rw [show entry Tryz.f15 [.sl .sh es, .sl .sh fs] = { s := [.sl .sh es, .sl .sh fs, .undef, .undef, .undef, .undef, .undef, .undef, .undef, .undef, .undef, .undef, .undef, .undef, .undef, .undef, .undef, .undef, .undef, .undef, .undef, .undef, .undef, .undef, .undef, .undef, .undef, .undef, .undef, .undef, .undef, .undef, .undef, .undef, .undef, .undef, .undef, .undef, .undef, .undef, .undef, .undef, .undef, .undef, .undef, .undef, .undef, .undef, .undef, .undef, .undef, .undef, .undef, .undef, .undef, .undef, .undef, .undef, .undef, .undef, .undef, .undef, .undef, .undef, .undef, .undef, .undef, .undef, .undef, .undef, .undef, .undef, .undef, .undef, .undef, .undef, .undef, .undef, .undef, .undef, .undef, .undef, .undef], live := fun _ _ => none } from rfl]
  by_cases hl : es.length = fs.length
  · have hl' : ((es.length : Int) = (fs.length : Int)) := by omega
    simp [Tryz.f15, ↓ev_seq, ↓ev_region, ↓ev_nil, ↓get8, ↓set8, ↓st_op, ↓st_load, ↓ev_cond, ↓ev_skip, ↓ev_ret, ↓ev_end, ↓ends_env, ↓ends_bool, ↓ends_av, ↓ends_avs, ↓br_true, ↓br_false, ↓br_not, ↓br_or, ↓br_and, ↓br_beq_true, ↓br_beq_false, Option.map_some, ↓ends_bind, condA, wantA, Env.tr, trOf, evStep, evPure, evRead, callStep, snaps, snap, snap1, snapL, plainL, plain1, Env.made, home, homeA, home1, owned, ownedA, owned1, lookN, Env.get, Env.put, Env.clean, view, AV.cells, AV.one, ptrAdd, Env.cellAt, cellOf, c1_lit, c1_sh, c1_ex, c1_ow, c1_loc, c1_mrow, c1_eptr, c1_junk, cl_lit, cl_sh, cl_ex, cl_ow, cl_loc, cl_mrow, cl_eptr, cl_junk, cl_agg, cl_fn, cl_cell, cl_row, cl_tup, ca_lit, ca_sh, ca_ex, ca_ow, ca_agg, ofConst, Value.oneCell', resL, resV, fin, finA, fin1, unA, binA_eql, binA_neq, binA_seql, binA_sneq, binA_bneq un4, binA_beql un4, okl_cons, okl_nil, okc_str, okc_bool, okc_int, okc_sl, List.getD_cons_succ, List.getD_cons_zero, List.set_cons_succ, List.set_cons_zero, List.map_cons, List.map_nil, List.all_cons, List.all_nil, lenA, indexAddrA, natA_int, List.take_of_length_le, binA_lss, binA_add, ↓ev_nilD, ↓ev_block, ↓ev_loop, ↓ev_exit, loudA, rdOp, freeA, nc_lit, nc_sl, nc_agg, nc_eptr, nc_loc, nc_fn, weak, weakA, weak1, goD, setCells, setCellOf, convA, ↓ends_bool, Option.getD_some, Option.getD_none, Option.bind_some, Option.bind_none, Option.map_none, Option.some.injEq, and_true, true_and, and_self, and_false, false_and, or_true, true_or, or_false, false_or, or_self, not_true_eq_false, not_false_eq_true, implies_true, forall_eq, forall_const, ite_self, ↓reduceIte, reduceCtorEq, decide_true, decide_false, decide_eq_true_eq, decide_eq_false_iff_not, Bool.not_true, Bool.not_false, Bool.and_self, Bool.and_true, Bool.true_and, Bool.and_false, Bool.false_and, Bool.false_eq_true, Bool.true_eq_false, Bool.not_eq_true, beq_true, beq_false, BEq.rfl, beq_self_eq_true, List.length_cons, List.length_nil, List.take_zero, List.take_succ_cons, List.take_nil, List.drop_zero, List.drop_succ_cons, List.drop_nil, List.append_nil, List.nil_append, List.cons_append, List.append_eq, List.mem_cons, List.not_mem_nil, List.contains_nil, List.contains_eq_mem, List.elem_nil, List.find?_nil, List.flatMap_nil, List.flatMap_cons, List.getElem?_toArray, List.getElem?_cons_zero, List.getElem?_cons_succ, List.getElem?_nil, Std.le_refl, Nat.le_refl, Nat.zero_le, Nat.lt_add_one, Nat.zero_add, Nat.add_zero, Nat.reduceAdd, Nat.reduceLT, Nat.reduceLeDiff, Nat.reduceEqDiff, Nat.reduceMul, Nat.mul_one, Nat.zero_mul, Int.natCast_add, Int.cast_ofNat_Int, Int.lt_irrefl, Nat.le_add_left, List.getD_nil, if_false, not_not, ite_not, List.map_nil, Option.isSome_some, List.reverse_nil, ends_env, loopIn, loopsOf, List.cons.injEq, AV.lit.injEq, AV.sl.injEq, Value.int.injEq, Value.bool.injEq, Value.string.injEq, eq_self, iff_self, decide_eq_decide, if_true, ↓ev_op, ↓ev_opDn, ↓ev_opg, ↓ev_opDg, ↓br_dec, ag100, ag102, ag2, ag4, ag9, ag99, binA_beql un4, binA_bneq un4, en37, en38, fi102_0, fi102_1, fi102_2, fi102_3, fi102_4, fi102_5, fi102_6, fi102_7, sz100, sz102, sz2, sz4, sz9, sz99, un46, z102, hl']
    try simp only [← hl']
    refine lp15 call _ hc37 hc38 rfl he hf hl (fun lv ui u2 u3 u6 u7 u8 u9 u10 u11 u12 u13 u14 u15 u16 u17 u18 u19 u20 u21 u22 u23 u24 u25 u26 u27 u28 u29 u30 u31 u32 u33 u34 u35 u36 u37 u38 u39 u40 u41 u42 u43 u44 u45 u46 u47 u48 u49 u50 u51 u52 u53 u54 u55 u56 u57 u58 u59 u60 u61 u62 u63 u64 u65 u66 u67 u68 u69 u70 u71 u72 u73 u74 u75 u76 u77 u78 u79 u80 u81 u82 h => ?_) (fun E' h hn => ?_) es.length _ 0 _ _ _ _ _ _ _ _ _ _ _ _ _ _ _ _ _ _ _ _ _ _ _ _ _ _ _ _ _ _ _ _ _ _ _ _ _ _ _ _ _ _ _ _ _ _ _ _ _ _ _ _ _ _ _ _ _ _ _ _ _ _ _ _ _ _ _ _ _ _ _ _ _ _ _ _ _ _ _ _ (by omega) (by omega) rfl
    · simp [Tryz.f15, ↓ev_seq, ↓ev_region, ↓ev_nil, ↓get8, ↓set8, ↓st_op, ↓st_load, ↓ev_cond, ↓ev_skip, ↓ev_ret, ↓ev_end, ↓ends_env, ↓ends_bool, ↓ends_av, ↓ends_avs, ↓br_true, ↓br_false, ↓br_not, ↓br_or, ↓br_and, ↓br_beq_true, ↓br_beq_false, Option.map_some, ↓ends_bind, condA, wantA, Env.tr, trOf, evStep, evPure, evRead, callStep, snaps, snap, snap1, snapL, plainL, plain1, Env.made, home, homeA, home1, owned, ownedA, owned1, lookN, Env.get, Env.put, Env.clean, view, AV.cells, AV.one, ptrAdd, Env.cellAt, cellOf, c1_lit, c1_sh, c1_ex, c1_ow, c1_loc, c1_mrow, c1_eptr, c1_junk, cl_lit, cl_sh, cl_ex, cl_ow, cl_loc, cl_mrow, cl_eptr, cl_junk, cl_agg, cl_fn, cl_cell, cl_row, cl_tup, ca_lit, ca_sh, ca_ex, ca_ow, ca_agg, ofConst, Value.oneCell', resL, resV, fin, finA, fin1, unA, binA_eql, binA_neq, binA_seql, binA_sneq, binA_bneq un4, binA_beql un4, okl_cons, okl_nil, okc_str, okc_bool, okc_int, okc_sl, List.getD_cons_succ, List.getD_cons_zero, List.set_cons_succ, List.set_cons_zero, List.map_cons, List.map_nil, List.all_cons, List.all_nil, lenA, indexAddrA, natA_int, List.take_of_length_le, binA_lss, binA_add, ↓ev_nilD, ↓ev_block, ↓ev_loop, ↓ev_exit, loudA, rdOp, freeA, nc_lit, nc_sl, nc_agg, nc_eptr, nc_loc, nc_fn, weak, weakA, weak1, goD, setCells, setCellOf, convA, ↓ends_bool, Option.getD_some, Option.getD_none, Option.bind_some, Option.bind_none, Option.map_none, Option.some.injEq, and_true, true_and, and_self, and_false, false_and, or_true, true_or, or_false, false_or, or_self, not_true_eq_false, not_false_eq_true, implies_true, forall_eq, forall_const, ite_self, ↓reduceIte, reduceCtorEq, decide_true, decide_false, decide_eq_true_eq, decide_eq_false_iff_not, Bool.not_true, Bool.not_false, Bool.and_self, Bool.and_true, Bool.true_and, Bool.and_false, Bool.false_and, Bool.false_eq_true, Bool.true_eq_false, Bool.not_eq_true, beq_true, beq_false, BEq.rfl, beq_self_eq_true, List.length_cons, List.length_nil, List.take_zero, List.take_succ_cons, List.take_nil, List.drop_zero, List.drop_succ_cons, List.drop_nil, List.append_nil, List.nil_append, List.cons_append, List.append_eq, List.mem_cons, List.not_mem_nil, List.contains_nil, List.contains_eq_mem, List.elem_nil, List.find?_nil, List.flatMap_nil, List.flatMap_cons, List.getElem?_toArray, List.getElem?_cons_zero, List.getElem?_cons_succ, List.getElem?_nil, Std.le_refl, Nat.le_refl, Nat.zero_le, Nat.lt_add_one, Nat.zero_add, Nat.add_zero, Nat.reduceAdd, Nat.reduceLT, Nat.reduceLeDiff, Nat.reduceEqDiff, Nat.reduceMul, Nat.mul_one, Nat.zero_mul, Int.natCast_add, Int.cast_ofNat_Int, Int.lt_irrefl, Nat.le_add_left, List.getD_nil, if_false, not_not, ite_not, List.map_nil, Option.isSome_some, List.reverse_nil, ends_env, loopIn, loopsOf, List.cons.injEq, AV.lit.injEq, AV.sl.injEq, Value.int.injEq, Value.bool.injEq, Value.string.injEq, eq_self, iff_self, decide_eq_decide, if_true, ↓ev_op, ↓ev_opDn, ↓ev_opg, ↓ev_opDg, ↓br_dec, ag100, ag102, ag2, ag4, ag9, ag99, binA_beql un4, binA_bneq un4, en37, en38, fi102_0, fi102_1, fi102_2, fi102_3, fi102_4, fi102_5, fi102_6, fi102_7, sz100, sz102, sz2, sz4, sz9, sz99, un46, z102, h]
    · simp [Tryz.f15, ↓ev_seq, ↓ev_region, ↓ev_nil, ↓get8, ↓set8, ↓st_op, ↓st_load, ↓ev_cond, ↓ev_skip, ↓ev_ret, ↓ev_end, ↓ends_env, ↓ends_bool, ↓ends_av, ↓ends_avs, ↓br_true, ↓br_false, ↓br_not, ↓br_or, ↓br_and, ↓br_beq_true, ↓br_beq_false, Option.map_some, ↓ends_bind, condA, wantA, Env.tr, trOf, evStep, evPure, evRead, callStep, snaps, snap, snap1, snapL, plainL, plain1, Env.made, home, homeA, home1, owned, ownedA, owned1, lookN, Env.get, Env.put, Env.clean, view, AV.cells, AV.one, ptrAdd, Env.cellAt, cellOf, c1_lit, c1_sh, c1_ex, c1_ow, c1_loc, c1_mrow, c1_eptr, c1_junk, cl_lit, cl_sh, cl_ex, cl_ow, cl_loc, cl_mrow, cl_eptr, cl_junk, cl_agg, cl_fn, cl_cell, cl_row, cl_tup, ca_lit, ca_sh, ca_ex, ca_ow, ca_agg, ofConst, Value.oneCell', resL, resV, fin, finA, fin1, unA, binA_eql, binA_neq, binA_seql, binA_sneq, binA_bneq un4, binA_beql un4, okl_cons, okl_nil, okc_str, okc_bool, okc_int, okc_sl, List.getD_cons_succ, List.getD_cons_zero, List.set_cons_succ, List.set_cons_zero, List.map_cons, List.map_nil, List.all_cons, List.all_nil, lenA, indexAddrA, natA_int, List.take_of_length_le, binA_lss, binA_add, ↓ev_nilD, ↓ev_block, ↓ev_loop, ↓ev_exit, loudA, rdOp, freeA, nc_lit, nc_sl, nc_agg, nc_eptr, nc_loc, nc_fn, weak, weakA, weak1, goD, setCells, setCellOf, convA, ↓ends_bool, Option.getD_some, Option.getD_none, Option.bind_some, Option.bind_none, Option.map_none, Option.some.injEq, and_true, true_and, and_self, and_false, false_and, or_true, true_or, or_false, false_or, or_self, not_true_eq_false, not_false_eq_true, implies_true, forall_eq, forall_const, ite_self, ↓reduceIte, reduceCtorEq, decide_true, decide_false, decide_eq_true_eq, decide_eq_false_iff_not, Bool.not_true, Bool.not_false, Bool.and_self, Bool.and_true, Bool.true_and, Bool.and_false, Bool.false_and, Bool.false_eq_true, Bool.true_eq_false, Bool.not_eq_true, beq_true, beq_false, BEq.rfl, beq_self_eq_true, List.length_cons, List.length_nil, List.take_zero, List.take_succ_cons, List.take_nil, List.drop_zero, List.drop_succ_cons, List.drop_nil, List.append_nil, List.nil_append, List.cons_append, List.append_eq, List.mem_cons, List.not_mem_nil, List.contains_nil, List.contains_eq_mem, List.elem_nil, List.find?_nil, List.flatMap_nil, List.flatMap_cons, List.getElem?_toArray, List.getElem?_cons_zero, List.getElem?_cons_succ, List.getElem?_nil, Std.le_refl, Nat.le_refl, Nat.zero_le, Nat.lt_add_one, Nat.zero_add, Nat.add_zero, Nat.reduceAdd, Nat.reduceLT, Nat.reduceLeDiff, Nat.reduceEqDiff, Nat.reduceMul, Nat.mul_one, Nat.zero_mul, Int.natCast_add, Int.cast_ofNat_Int, Int.lt_irrefl, Nat.le_add_left, List.getD_nil, if_false, not_not, ite_not, List.map_nil, Option.isSome_some, List.reverse_nil, ends_env, loopIn, loopsOf, List.cons.injEq, AV.lit.injEq, AV.sl.injEq, Value.int.injEq, Value.bool.injEq, Value.string.injEq, eq_self, iff_self, decide_eq_decide, if_true, ↓ev_op, ↓ev_opDn, ↓ev_opg, ↓ev_opDg, ↓br_dec, ag100, ag102, ag2, ag4, ag9, ag99, binA_beql un4, binA_bneq un4, en37, en38, fi102_0, fi102_1, fi102_2, fi102_3, fi102_4, fi102_5, fi102_6, fi102_7, sz100, sz102, sz2, sz4, sz9, sz99, un46, z102, hn, h]
  · have hl' : ¬ ((es.length : Int) = (fs.length : Int)) := by omega
    have : es ≠ fs := fun h => hl (by rw [h])
    simp [Tryz.f15, ↓ev_seq, ↓ev_region, ↓ev_nil, ↓get8, ↓set8, ↓st_op, ↓st_load, ↓ev_cond, ↓ev_skip, ↓ev_ret, ↓ev_end, ↓ends_env, ↓ends_bool, ↓ends_av, ↓ends_avs, ↓br_true, ↓br_false, ↓br_not, ↓br_or, ↓br_and, ↓br_beq_true, ↓br_beq_false, Option.map_some, ↓ends_bind, condA, wantA, Env.tr, trOf, evStep, evPure, evRead, callStep, snaps, snap, snap1, snapL, plainL, plain1, Env.made, home, homeA, home1, owned, ownedA, owned1, lookN, Env.get, Env.put, Env.clean, view, AV.cells, AV.one, ptrAdd, Env.cellAt, cellOf, c1_lit, c1_sh, c1_ex, c1_ow, c1_loc, c1_mrow, c1_eptr, c1_junk, cl_lit, cl_sh, cl_ex, cl_ow, cl_loc, cl_mrow, cl_eptr, cl_junk, cl_agg, cl_fn, cl_cell, cl_row, cl_tup, ca_lit, ca_sh, ca_ex, ca_ow, ca_agg, ofConst, Value.oneCell', resL, resV, fin, finA, fin1, unA, binA_eql, binA_neq, binA_seql, binA_sneq, binA_bneq un4, binA_beql un4, okl_cons, okl_nil, okc_str, okc_bool, okc_int, okc_sl, List.getD_cons_succ, List.getD_cons_zero, List.set_cons_succ, List.set_cons_zero, List.map_cons, List.map_nil, List.all_cons, List.all_nil, lenA, indexAddrA, natA_int, List.take_of_length_le, binA_lss, binA_add, ↓ev_nilD, ↓ev_block, ↓ev_loop, ↓ev_exit, loudA, rdOp, freeA, nc_lit, nc_sl, nc_agg, nc_eptr, nc_loc, nc_fn, weak, weakA, weak1, goD, setCells, setCellOf, convA, ↓ends_bool, Option.getD_some, Option.getD_none, Option.bind_some, Option.bind_none, Option.map_none, Option.some.injEq, and_true, true_and, and_self, and_false, false_and, or_true, true_or, or_false, false_or, or_self, not_true_eq_false, not_false_eq_true, implies_true, forall_eq, forall_const, ite_self, ↓reduceIte, reduceCtorEq, decide_true, decide_false, decide_eq_true_eq, decide_eq_false_iff_not, Bool.not_true, Bool.not_false, Bool.and_self, Bool.and_true, Bool.true_and, Bool.and_false, Bool.false_and, Bool.false_eq_true, Bool.true_eq_false, Bool.not_eq_true, beq_true, beq_false, BEq.rfl, beq_self_eq_true, List.length_cons, List.length_nil, List.take_zero, List.take_succ_cons, List.take_nil, List.drop_zero, List.drop_succ_cons, List.drop_nil, List.append_nil, List.nil_append, List.cons_append, List.append_eq, List.mem_cons, List.not_mem_nil, List.contains_nil, List.contains_eq_mem, List.elem_nil, List.find?_nil, List.flatMap_nil, List.flatMap_cons, List.getElem?_toArray, List.getElem?_cons_zero, List.getElem?_cons_succ, List.getElem?_nil, Std.le_refl, Nat.le_refl, Nat.zero_le, Nat.lt_add_one, Nat.zero_add, Nat.add_zero, Nat.reduceAdd, Nat.reduceLT, Nat.reduceLeDiff, Nat.reduceEqDiff, Nat.reduceMul, Nat.mul_one, Nat.zero_mul, Int.natCast_add, Int.cast_ofNat_Int, Int.lt_irrefl, Nat.le_add_left, List.getD_nil, if_false, not_not, ite_not, List.map_nil, Option.isSome_some, List.reverse_nil, ends_env, loopIn, loopsOf, List.cons.injEq, AV.lit.injEq, AV.sl.injEq, Value.int.injEq, Value.bool.injEq, Value.string.injEq, eq_self, iff_self, decide_eq_decide, if_true, ↓ev_op, ↓ev_opDn, ↓ev_opg, ↓ev_opDg, ↓br_dec, ag100, ag102, ag2, ag4, ag9, ag99, binA_beql un4, binA_bneq un4, en37, en38, fi102_0, fi102_1, fi102_2, fi102_3, fi102_4, fi102_5, fi102_6, fi102_7, sz100, sz102, sz2, sz4, sz9, sz99, un46, z102, hl', this]
theorem same22 (call : FuncId → List AV → Option AV) (m : Nat)
    (hc46 : ∀ x y, OkR lay9 x → OkR lay9 y → call 46 [.sl .sh x, .sl .sh y] = some (.lit (.bool (decide (x = y)))))
    {x y : List AV} (hx : OkL lay41 x) (hy : OkL lay41 y) : evBody Tryz.prog call m Tryz.f22 [.agg x, .agg y] = some (.lit (.bool (decide (x = y)))) := by
  obtain ⟨c, r, rfl, hc, tx0⟩ := hx.cons_inv
  obtain ⟨x0, rfl, wx0⟩ := hc.int_inv
  obtain ⟨c, r, rfl, hc, tx1⟩ := tx0.cons_inv
  obtain ⟨x1, rfl, wx1⟩ := hc.int_inv
  obtain ⟨c, r, rfl, hc, tx2⟩ := tx1.cons_inv
  obtain ⟨x2, rfl, wx2⟩ := hc.int_inv
  obtain ⟨c, r, rfl, hc, tx3⟩ := tx2.cons_inv
  obtain ⟨x3, rfl, wx3⟩ := hc.int_inv
  obtain ⟨c, r, rfl, hc, tx4⟩ := tx3.cons_inv
  obtain ⟨x4, rfl, wx4⟩ := hc.int_inv
  obtain ⟨c, r, rfl, hc, tx5⟩ := tx4.cons_inv
  obtain ⟨x5, rfl, wx5⟩ := hc.int_inv
  obtain ⟨c, r, rfl, hc, tx6⟩ := tx5.cons_inv
  obtain ⟨x6, rfl, wx6⟩ := hc.int_inv
  obtain ⟨c, r, rfl, hc, tx7⟩ := tx6.cons_inv
  obtain ⟨x7, rfl, wx7⟩ := hc.int_inv
  obtain ⟨c, r, rfl, hc, tx8⟩ := tx7.cons_inv
  obtain ⟨x8, rfl, wx8⟩ := hc.sl_inv
  obtain ⟨c, r, rfl, hc, tx9⟩ := tx8.cons_inv
  obtain ⟨x9, rfl, wx9⟩ := hc.int_inv
  obtain ⟨c, r, rfl, hc, tx10⟩ := tx9.cons_inv
  obtain ⟨x10, rfl, wx10⟩ := hc.int_inv
  obtain ⟨c, r, rfl, hc, tx11⟩ := tx10.cons_inv
  obtain ⟨x11, rfl, wx11⟩ := hc.int_inv
  obtain ⟨c, r, rfl, hc, tx12⟩ := tx11.cons_inv
  obtain ⟨x12, rfl, wx12⟩ := hc.int_inv
  obtain ⟨c, r, rfl, hc, tx13⟩ := tx12.cons_inv
  obtain ⟨x13, rfl, wx13⟩ := hc.int_inv
  obtain ⟨c, r, rfl, hc, tx14⟩ := tx13.cons_inv
  obtain ⟨x14, rfl, wx14⟩ := hc.int_inv
  obtain ⟨c, r, rfl, hc, tx15⟩ := tx14.cons_inv
  obtain ⟨x15, rfl, wx15⟩ := hc.int_inv
  obtain ⟨c, r, rfl, hc, tx16⟩ := tx15.cons_inv
  obtain ⟨x16, rfl, wx16⟩ := hc.int_inv
  have := tx16.nil_inv; subst this
  obtain ⟨c, r, rfl, hc, ty0⟩ := hy.cons_inv
  obtain ⟨y0, rfl, wy0⟩ := hc.int_inv
  obtain ⟨c, r, rfl, hc, ty1⟩ := ty0.cons_inv
  obtain ⟨y1, rfl, wy1⟩ := hc.int_inv
  obtain ⟨c, r, rfl, hc, ty2⟩ := ty1.cons_inv
  obtain ⟨y2, rfl, wy2⟩ := hc.int_inv
  obtain ⟨c, r, rfl, hc, ty3⟩ := ty2.cons_inv
  obtain ⟨y3, rfl, wy3⟩ := hc.int_inv
  obtain ⟨c, r, rfl, hc, ty4⟩ := ty3.cons_inv
  obtain ⟨y4, rfl, wy4⟩ := hc.int_inv
  obtain ⟨c, r, rfl, hc, ty5⟩ := ty4.cons_inv
  obtain ⟨y5, rfl, wy5⟩ := hc.int_inv
  obtain ⟨c, r, rfl, hc, ty6⟩ := ty5.cons_inv
  obtain ⟨y6, rfl, wy6⟩ := hc.int_inv
  obtain ⟨c, r, rfl, hc, ty7⟩ := ty6.cons_inv
  obtain ⟨y7, rfl, wy7⟩ := hc.int_inv
  obtain ⟨c, r, rfl, hc, ty8⟩ := ty7.cons_inv
  obtain ⟨y8, rfl, wy8⟩ := hc.sl_inv
  obtain ⟨c, r, rfl, hc, ty9⟩ := ty8.cons_inv
  obtain ⟨y9, rfl, wy9⟩ := hc.int_inv
  obtain ⟨c, r, rfl, hc, ty10⟩ := ty9.cons_inv
  obtain ⟨y10, rfl, wy10⟩ := hc.int_inv
  obtain ⟨c, r, rfl, hc, ty11⟩ := ty10.cons_inv
  obtain ⟨y11, rfl, wy11⟩ := hc.int_inv
  obtain ⟨c, r, rfl, hc, ty12⟩ := ty11.cons_inv
  obtain ⟨y12, rfl, wy12⟩ := hc.int_inv
  obtain ⟨c, r, rfl, hc, ty13⟩ := ty12.cons_inv
  obtain ⟨y13, rfl, wy13⟩ := hc.int_inv
  obtain ⟨c, r, rfl, hc, ty14⟩ := ty13.cons_inv
  obtain ⟨y14, rfl, wy14⟩ := hc.int_inv
  obtain ⟨c, r, rfl, hc, ty15⟩ := ty14.cons_inv
  obtain ⟨y15, rfl, wy15⟩ := hc.int_inv
  obtain ⟨c, r, rfl, hc, ty16⟩ := ty15.cons_inv
  obtain ⟨y16, rfl, wy16⟩ := hc.int_inv
  have := ty16.nil_inv; subst this
  apply ends_eq
  rw [ev_body (c := _) rfl]
  rw [show entry Tryz.f22 [.agg [.lit (.int .i64 x0), .lit (.int .i64 x1), .lit (.int .i64 x2), .lit (.int .i64 x3), .lit (.int .i64 x4), .lit (.int .i64 x5), .lit (.int .i64 x6), .lit (.int .i64 x7), .sl .sh x8, .lit (.int .i64 x9), .lit (.int .i64 x10), .lit (.int .i64 x11), .lit (.int .i64 x12), .lit (.int .i64 x13), .lit (.int .i64 x14), .lit (.int .i64 x15), .lit (.int .i64 x16)], .agg [.lit (.int .i64 y0), .lit (.int .i64 y1), .lit (.int .i64 y2), .lit (.int .i64 y3), .lit (.int .i64 y4), .lit (.int .i64 y5), .lit (.int .i64 y6), .lit (.int .i64 y7), .sl .sh y8, .lit (.int .i64 y9), .lit (.int .i64 y10), .lit (.int .i64 y11), .lit (.int .i64 y12), .lit (.int .i64 y13), .lit (.int .i64 y14), .lit (.int .i64 y15), .lit (.int .i64 y16)]] = { s := [.agg [.lit (.int .i64 x0), .lit (.int .i64 x1), .lit (.int .i64 x2), .lit (.int .i64 x3), .lit (.int .i64 x4), .lit (.int .i64 x5), .lit (.int .i64 x6), .lit (.int .i64 x7), .sl .sh x8, .lit (.int .i64 x9), .lit (.int .i64 x10), .lit (.int .i64 x11), .lit (.int .i64 x12), .lit (.int .i64 x13), .lit (.int .i64 x14), .lit (.int .i64 x15), .lit (.int .i64 x16)], .agg [.lit (.int .i64 y0), .lit (.int .i64 y1), .lit (.int .i64 y2), .lit (.int .i64 y3), .lit (.int .i64 y4), .lit (.int .i64 y5), .lit (.int .i64 y6), .lit (.int .i64 y7), .sl .sh y8, .lit (.int .i64 y9), .lit (.int .i64 y10), .lit (.int .i64 y11), .lit (.int .i64 y12), .lit (.int .i64 y13), .lit (.int .i64 y14), .lit (.int .i64 y15), .lit (.int .i64 y16)], .undef, .undef, .undef, .undef, .undef, .undef, .undef, .undef, .undef, .undef, .undef, .undef, .undef, .undef, .undef, .undef, .undef, .undef, .undef, .undef, .undef, .undef, .undef, .undef, .undef, .undef, .undef, .undef, .undef, .undef, .undef, .undef, .undef, .undef, .undef, .undef, .undef, .undef, .undef, .undef, .undef, .undef, .undef, .undef, .undef, .undef, .undef, .undef, .undef, .undef, .undef, .undef, .undef, .undef, .undef, .undef, .undef, .undef, .undef, .undef, .undef, .undef, .undef, .undef, .undef, .undef, .undef, .undef, .undef, .undef, .undef, .undef, .undef, .undef, .undef, .undef, .undef, .undef], live := fun _ _ => none } from rfl]
  simp (config := {contextual := true, maxSteps := 3000000, dsimp := false}) only [Tryz.f22, ↓ev_seq, ↓ev_region, ↓ev_nil, ↓get8, ↓set8, ↓st_op, ↓st_load, ↓ev_cond, ↓ev_skip, ↓ev_ret, ↓ev_end, ↓ends_env, ↓ends_bool, ↓ends_av, ↓ends_avs, ↓br_true, ↓br_false, ↓br_not, ↓br_or, ↓br_and, ↓br_beq_true, ↓br_beq_false, Option.map_some, ↓ends_bind, condA, wantA, Env.tr, trOf, evStep, evPure, evRead, callStep, snaps, snap, snap1, snapL, plainL, plain1, Env.made, home, homeA, home1, owned, ownedA, owned1, lookN, Env.get, Env.put, Env.clean, view, AV.cells, AV.one, ptrAdd, Env.cellAt, cellOf, c1_lit, c1_sh, c1_ex, c1_ow, c1_loc, c1_mrow, c1_eptr, c1_junk, cl_lit, cl_sh, cl_ex, cl_ow, cl_loc, cl_mrow, cl_eptr, cl_junk, cl_agg, cl_fn, cl_cell, cl_row, cl_tup, ca_lit, ca_sh, ca_ex, ca_ow, ca_agg, ofConst, Value.oneCell', resL, resV, fin, finA, fin1, unA, binA_eql, binA_neq, binA_seql, binA_sneq, binA_bneq un4, binA_beql un4, okl_cons, okl_nil, okc_str, okc_bool, okc_int, okc_sl, List.getD_cons_succ, List.getD_cons_zero, List.set_cons_succ, List.set_cons_zero, List.map_cons, List.map_nil, List.all_cons, List.all_nil, lenA, indexAddrA, natA_int, List.take_of_length_le, binA_lss, binA_add, ↓ev_nilD, ↓ev_block, ↓ev_loop, ↓ev_exit, loudA, rdOp, freeA, nc_lit, nc_sl, nc_agg, nc_eptr, nc_loc, nc_fn, weak, weakA, weak1, goD, setCells, setCellOf, convA, ↓ends_bool, Option.getD_some, Option.getD_none, Option.bind_some, Option.bind_none, Option.map_none, Option.some.injEq, and_true, true_and, and_self, and_false, false_and, or_true, true_or, or_false, false_or, or_self, not_true_eq_false, not_false_eq_true, implies_true, forall_eq, forall_const, ite_self, ↓reduceIte, reduceCtorEq, decide_true, decide_false, decide_eq_true_eq, decide_eq_false_iff_not, Bool.not_true, Bool.not_false, Bool.and_self, Bool.and_true, Bool.true_and, Bool.and_false, Bool.false_and, Bool.false_eq_true, Bool.true_eq_false, Bool.not_eq_true, beq_true, beq_false, BEq.rfl, beq_self_eq_true, List.length_cons, List.length_nil, List.take_zero, List.take_succ_cons, List.take_nil, List.drop_zero, List.drop_succ_cons, List.drop_nil, List.append_nil, List.nil_append, List.cons_append, List.append_eq, List.mem_cons, List.not_mem_nil, List.contains_nil, List.contains_eq_mem, List.elem_nil, List.find?_nil, List.flatMap_nil, List.flatMap_cons, List.getElem?_toArray, List.getElem?_cons_zero, List.getElem?_cons_succ, List.getElem?_nil, Std.le_refl, Nat.le_refl, Nat.zero_le, Nat.lt_add_one, Nat.zero_add, Nat.add_zero, Nat.reduceAdd, Nat.reduceLT, Nat.reduceLeDiff, Nat.reduceEqDiff, Nat.reduceMul, Nat.mul_one, Nat.zero_mul, Int.natCast_add, Int.cast_ofNat_Int, Int.lt_irrefl, Nat.le_add_left, List.getD_nil, if_false, not_not, ite_not, List.map_nil, Option.isSome_some, List.reverse_nil, ends_env, loopIn, loopsOf, List.cons.injEq, AV.lit.injEq, AV.sl.injEq, Value.int.injEq, Value.bool.injEq, Value.string.injEq, eq_self, iff_self, decide_eq_decide, if_true, ↓ev_op, ↓ev_opDn, ↓ev_opg, ↓ev_opDg, ↓br_dec, ag2, ag22, ag38, ag39, en46, fi41_0, fi41_1, fi41_10, fi41_2, fi41_3, fi41_4, fi41_5, fi41_6, fi41_7, fi41_8, fi41_9, seq38, seq39, sne38, sne39, sz2, sz22, sz38, sz39, okl_cons, okl_nil, okc_str, okc_bool, okc_int, okc_sl, hc46, wx0, wy0, wx1, wy1, wx2, wy2, wx3, wy3, wx4, wy4, wx5, wy5, wx6, wy6, wx7, wy7, wx8, wy8, wx9, wy9, wx10, wy10, wx11, wy11, wx12, wy12, wx13, wy13, wx14, wy14, wx15, wy15, wx16, wy16]
  all_goals (try simp (config := {contextual := true}))
  all_goals grind
theorem same25 (call : FuncId → List AV → Option AV) (m : Nat)
    (hc49 : ∀ x y, OkL lay61 x → OkL lay61 y → call 49 [.agg x, .agg y] = some (.lit (.bool (decide (x = y)))))
    (hc50 : ∀ x y, OkL lay64 x → OkL lay64 y → call 50 [.agg x, .agg y] = some (.lit (.bool (decide (x = y)))))
    {x y : List AV} (hx : OkL lay66 x) (hy : OkL lay66 y) : evBody Tryz.prog call m Tryz.f25 [.agg x, .agg y] = some (.lit (.bool (decide (x = y)))) := by
  obtain ⟨c, r, rfl, hc, tx0⟩ := hx.cons_inv
  obtain ⟨x0, rfl, wx0⟩ := hc.str_inv
  obtain ⟨c, r, rfl, hc, tx1⟩ := tx0.cons_inv
  obtain ⟨x1, rfl, wx1⟩ := hc.int_inv
  obtain ⟨c, r, rfl, hc, tx2⟩ := tx1.cons_inv
  obtain ⟨x2, rfl, wx2⟩ := hc.sl_inv
  obtain ⟨c, r, rfl, hc, tx3⟩ := tx2.cons_inv
  obtain ⟨x3, rfl, wx3⟩ := hc.int_inv
  obtain ⟨c, r, rfl, hc, tx4⟩ := tx3.cons_inv
  obtain ⟨x4, rfl, wx4⟩ := hc.int_inv
  obtain ⟨c, r, rfl, hc, tx5⟩ := tx4.cons_inv
  obtain ⟨x5, rfl, wx5⟩ := hc.int_inv
  obtain ⟨c, r, rfl, hc, tx6⟩ := tx5.cons_inv
  obtain ⟨x6, rfl, wx6⟩ := hc.sl_inv
  have := tx6.nil_inv; subst this
  obtain ⟨c, r, rfl, hc, ty0⟩ := hy.cons_inv
  obtain ⟨y0, rfl, wy0⟩ := hc.str_inv
  obtain ⟨c, r, rfl, hc, ty1⟩ := ty0.cons_inv
  obtain ⟨y1, rfl, wy1⟩ := hc.int_inv
  obtain ⟨c, r, rfl, hc, ty2⟩ := ty1.cons_inv
  obtain ⟨y2, rfl, wy2⟩ := hc.sl_inv
  obtain ⟨c, r, rfl, hc, ty3⟩ := ty2.cons_inv
  obtain ⟨y3, rfl, wy3⟩ := hc.int_inv
  obtain ⟨c, r, rfl, hc, ty4⟩ := ty3.cons_inv
  obtain ⟨y4, rfl, wy4⟩ := hc.int_inv
  obtain ⟨c, r, rfl, hc, ty5⟩ := ty4.cons_inv
  obtain ⟨y5, rfl, wy5⟩ := hc.int_inv
  obtain ⟨c, r, rfl, hc, ty6⟩ := ty5.cons_inv
  obtain ⟨y6, rfl, wy6⟩ := hc.sl_inv
  have := ty6.nil_inv; subst this
  apply ends_eq
  rw [ev_body (c := _) rfl]
  rw [show entry Tryz.f25 [.agg [.lit (.string x0), .lit (.int .i64 x1), .sl .sh x2, .lit (.int .i64 x3), .lit (.int .i64 x4), .lit (.int .i64 x5), .sl .sh x6], .agg [.lit (.string y0), .lit (.int .i64 y1), .sl .sh y2, .lit (.int .i64 y3), .lit (.int .i64 y4), .lit (.int .i64 y5), .sl .sh y6]] = { s := [.agg [.lit (.string x0), .lit (.int .i64 x1), .sl .sh x2, .lit (.int .i64 x3), .lit (.int .i64 x4), .lit (.int .i64 x5), .sl .sh x6], .agg [.lit (.string y0), .lit (.int .i64 y1), .sl .sh y2, .lit (.int .i64 y3), .lit (.int .i64 y4), .lit (.int .i64 y5), .sl .sh y6], .undef, .undef, .undef, .undef, .undef, .undef, .undef, .undef, .undef, .undef, .undef, .undef, .undef, .undef, .undef, .undef, .undef, .undef, .undef, .undef, .undef, .undef], live := fun _ _ => none } from rfl]
  simp (config := {contextual := true, maxSteps := 3000000, dsimp := false}) only [Tryz.f25, ↓ev_seq, ↓ev_region, ↓ev_nil, ↓get8, ↓set8, ↓st_op, ↓st_load, ↓ev_cond, ↓ev_skip, ↓ev_ret, ↓ev_end, ↓ends_env, ↓ends_bool, ↓ends_av, ↓ends_avs, ↓br_true, ↓br_false, ↓br_not, ↓br_or, ↓br_and, ↓br_beq_true, ↓br_beq_false, Option.map_some, ↓ends_bind, condA, wantA, Env.tr, trOf, evStep, evPure, evRead, callStep, snaps, snap, snap1, snapL, plainL, plain1, Env.made, home, homeA, home1, owned, ownedA, owned1, lookN, Env.get, Env.put, Env.clean, view, AV.cells, AV.one, ptrAdd, Env.cellAt, cellOf, c1_lit, c1_sh, c1_ex, c1_ow, c1_loc, c1_mrow, c1_eptr, c1_junk, cl_lit, cl_sh, cl_ex, cl_ow, cl_loc, cl_mrow, cl_eptr, cl_junk, cl_agg, cl_fn, cl_cell, cl_row, cl_tup, ca_lit, ca_sh, ca_ex, ca_ow, ca_agg, ofConst, Value.oneCell', resL, resV, fin, finA, fin1, unA, binA_eql, binA_neq, binA_seql, binA_sneq, binA_bneq un4, binA_beql un4, okl_cons, okl_nil, okc_str, okc_bool, okc_int, okc_sl, List.getD_cons_succ, List.getD_cons_zero, List.set_cons_succ, List.set_cons_zero, List.map_cons, List.map_nil, List.all_cons, List.all_nil, lenA, indexAddrA, natA_int, List.take_of_length_le, binA_lss, binA_add, ↓ev_nilD, ↓ev_block, ↓ev_loop, ↓ev_exit, loudA, rdOp, freeA, nc_lit, nc_sl, nc_agg, nc_eptr, nc_loc, nc_fn, weak, weakA, weak1, goD, setCells, setCellOf, convA, ↓ends_bool, Option.getD_some, Option.getD_none, Option.bind_some, Option.bind_none, Option.map_none, Option.some.injEq, and_true, true_and, and_self, and_false, false_and, or_true, true_or, or_false, false_or, or_self, not_true_eq_false, not_false_eq_true, implies_true, forall_eq, forall_const, ite_self, ↓reduceIte, reduceCtorEq, decide_true, decide_false, decide_eq_true_eq, decide_eq_false_iff_not, Bool.not_true, Bool.not_false, Bool.and_self, Bool.and_true, Bool.true_and, Bool.and_false, Bool.false_and, Bool.false_eq_true, Bool.true_eq_false, Bool.not_eq_true, beq_true, beq_false, BEq.rfl, beq_self_eq_true, List.length_cons, List.length_nil, List.take_zero, List.take_succ_cons, List.take_nil, List.drop_zero, List.drop_succ_cons, List.drop_nil, List.append_nil, List.nil_append, List.cons_append, List.append_eq, List.mem_cons, List.not_mem_nil, List.contains_nil, List.contains_eq_mem, List.elem_nil, List.find?_nil, List.flatMap_nil, List.flatMap_cons, List.getElem?_toArray, List.getElem?_cons_zero, List.getElem?_cons_succ, List.getElem?_nil, Std.le_refl, Nat.le_refl, Nat.zero_le, Nat.lt_add_one, Nat.zero_add, Nat.add_zero, Nat.reduceAdd, Nat.reduceLT, Nat.reduceLeDiff, Nat.reduceEqDiff, Nat.reduceMul, Nat.mul_one, Nat.zero_mul, Int.natCast_add, Int.cast_ofNat_Int, Int.lt_irrefl, Nat.le_add_left, List.getD_nil, if_false, not_not, ite_not, List.map_nil, Option.isSome_some, List.reverse_nil, ends_env, loopIn, loopsOf, List.cons.injEq, AV.lit.injEq, AV.sl.injEq, Value.int.injEq, Value.bool.injEq, Value.string.injEq, eq_self, iff_self, decide_eq_decide, if_true, ↓ev_op, ↓ev_opDn, ↓ev_opg, ↓ev_opDg, ↓br_dec, ag61, ag64, ag9, en49, en50, fi66_0, fi66_1, fi66_2, sz61, sz64, sz9, okl_cons, okl_nil, okc_str, okc_bool, okc_int, okc_sl, hc49, hc50, wx0, wy0, wx1, wy1, wx2, wy2, wx3, wy3, wx4, wy4, wx5, wy5, wx6, wy6]
  all_goals (try simp (config := {contextual := true}))
  all_goals grind
theorem same48 (call : FuncId → List AV → Option AV) (m : Nat)
    (hc71 : ∀ x y, OkR lay146 x → OkR lay146 y → call 71 [.sl .sh x, .sl .sh y] = some (.lit (.bool (decide (x = y)))))
    (hc72 : ∀ x y, OkR lay5 x → OkR lay5 y → call 72 [.sl .sh x, .sl .sh y] = some (.lit (.bool (decide (x = y)))))
    (hc46 : ∀ x y, OkR lay9 x → OkR lay9 y → call 46 [.sl .sh x, .sl .sh y] = some (.lit (.bool (decide (x = y)))))
    {x y : List AV} (hx : OkL lay119 x) (hy : OkL lay119 y) : evBody Tryz.prog call m Tryz.f48 [.agg x, .agg y] = some (.lit (.bool (decide (x = y)))) := by
  obtain ⟨c, r, rfl, hc, tx0⟩ := hx.cons_inv
  obtain ⟨x0, rfl, wx0⟩ := hc.str_inv
  obtain ⟨c, r, rfl, hc, tx1⟩ := tx0.cons_inv
  obtain ⟨x1, rfl, wx1⟩ := hc.int_inv
  obtain ⟨c, r, rfl, hc, tx2⟩ := tx1.cons_inv
  obtain ⟨x2, rfl, wx2⟩ := hc.sl_inv
  obtain ⟨c, r, rfl, hc, tx3⟩ := tx2.cons_inv
  obtain ⟨x3, rfl, wx3⟩ := hc.sl_inv
  obtain ⟨c, r, rfl, hc, tx4⟩ := tx3.cons_inv
  obtain ⟨x4, rfl, wx4⟩ := hc.int_inv
  obtain ⟨c, r, rfl, hc, tx5⟩ := tx4.cons_inv
  obtain ⟨x5, rfl, wx5⟩ := hc.int_inv
  obtain ⟨c, r, rfl, hc, tx6⟩ := tx5.cons_inv
  obtain ⟨x6, rfl, wx6⟩ := hc.int_inv
  obtain ⟨c, r, rfl, hc, tx7⟩ := tx6.cons_inv
  obtain ⟨x7, rfl, wx7⟩ := hc.int_inv
  obtain ⟨c, r, rfl, hc, tx8⟩ := tx7.cons_inv
  obtain ⟨x8, rfl, wx8⟩ := hc.int_inv
  obtain ⟨c, r, rfl, hc, tx9⟩ := tx8.cons_inv
  obtain ⟨x9, rfl⟩ := hc.bool_inv
  obtain ⟨c, r, rfl, hc, tx10⟩ := tx9.cons_inv
  obtain ⟨x10, rfl⟩ := hc.bool_inv
  obtain ⟨c, r, rfl, hc, tx11⟩ := tx10.cons_inv
  obtain ⟨x11, rfl, wx11⟩ := hc.sl_inv
  obtain ⟨c, r, rfl, hc, tx12⟩ := tx11.cons_inv
  obtain ⟨x12, rfl, wx12⟩ := hc.int_inv
  have := tx12.nil_inv; subst this
  obtain ⟨c, r, rfl, hc, ty0⟩ := hy.cons_inv
  obtain ⟨y0, rfl, wy0⟩ := hc.str_inv
  obtain ⟨c, r, rfl, hc, ty1⟩ := ty0.cons_inv
  obtain ⟨y1, rfl, wy1⟩ := hc.int_inv
  obtain ⟨c, r, rfl, hc, ty2⟩ := ty1.cons_inv
  obtain ⟨y2, rfl, wy2⟩ := hc.sl_inv
  obtain ⟨c, r, rfl, hc, ty3⟩ := ty2.cons_inv
  obtain ⟨y3, rfl, wy3⟩ := hc.sl_inv
  obtain ⟨c, r, rfl, hc, ty4⟩ := ty3.cons_inv
  obtain ⟨y4, rfl, wy4⟩ := hc.int_inv
  obtain ⟨c, r, rfl, hc, ty5⟩ := ty4.cons_inv
  obtain ⟨y5, rfl, wy5⟩ := hc.int_inv
  obtain ⟨c, r, rfl, hc, ty6⟩ := ty5.cons_inv
  obtain ⟨y6, rfl, wy6⟩ := hc.int_inv
  obtain ⟨c, r, rfl, hc, ty7⟩ := ty6.cons_inv
  obtain ⟨y7, rfl, wy7⟩ := hc.int_inv
  obtain ⟨c, r, rfl, hc, ty8⟩ := ty7.cons_inv
  obtain ⟨y8, rfl, wy8⟩ := hc.int_inv
  obtain ⟨c, r, rfl, hc, ty9⟩ := ty8.cons_inv
  obtain ⟨y9, rfl⟩ := hc.bool_inv
  obtain ⟨c, r, rfl, hc, ty10⟩ := ty9.cons_inv
  obtain ⟨y10, rfl⟩ := hc.bool_inv
  obtain ⟨c, r, rfl, hc, ty11⟩ := ty10.cons_inv
  obtain ⟨y11, rfl, wy11⟩ := hc.sl_inv
  obtain ⟨c, r, rfl, hc, ty12⟩ := ty11.cons_inv
  obtain ⟨y12, rfl, wy12⟩ := hc.int_inv
  have := ty12.nil_inv; subst this
  apply ends_eq
  rw [ev_body (c := _) rfl]
  rw [show entry Tryz.f48 [.agg [.lit (.string x0), .lit (.int .i64 x1), .sl .sh x2, .sl .sh x3, .lit (.int .i64 x4), .lit (.int .i64 x5), .lit (.int .i64 x6), .lit (.int .i64 x7), .lit (.int .i64 x8), .lit (.bool x9), .lit (.bool x10), .sl .sh x11, .lit (.int .i64 x12)], .agg [.lit (.string y0), .lit (.int .i64 y1), .sl .sh y2, .sl .sh y3, .lit (.int .i64 y4), .lit (.int .i64 y5), .lit (.int .i64 y6), .lit (.int .i64 y7), .lit (.int .i64 y8), .lit (.bool y9), .lit (.bool y10), .sl .sh y11, .lit (.int .i64 y12)]] = { s := [.agg [.lit (.string x0), .lit (.int .i64 x1), .sl .sh x2, .sl .sh x3, .lit (.int .i64 x4), .lit (.int .i64 x5), .lit (.int .i64 x6), .lit (.int .i64 x7), .lit (.int .i64 x8), .lit (.bool x9), .lit (.bool x10), .sl .sh x11, .lit (.int .i64 x12)], .agg [.lit (.string y0), .lit (.int .i64 y1), .sl .sh y2, .sl .sh y3, .lit (.int .i64 y4), .lit (.int .i64 y5), .lit (.int .i64 y6), .lit (.int .i64 y7), .lit (.int .i64 y8), .lit (.bool y9), .lit (.bool y10), .sl .sh y11, .lit (.int .i64 y12)], .undef, .undef, .undef, .undef, .undef, .undef, .undef, .undef, .undef, .undef, .undef, .undef, .undef, .undef, .undef, .undef, .undef, .undef, .undef, .undef, .undef, .undef, .undef, .undef, .undef, .undef, .undef, .undef, .undef, .undef, .undef, .undef, .undef, .undef, .undef, .undef, .undef, .undef, .undef, .undef, .undef, .undef, .undef, .undef, .undef, .undef, .undef, .undef, .undef, .undef], live := fun _ _ => none } from rfl]
  simp (config := {contextual := true, maxSteps := 3000000, dsimp := false}) only [Tryz.f48, ↓ev_seq, ↓ev_region, ↓ev_nil, ↓get8, ↓set8, ↓st_op, ↓st_load, ↓ev_cond, ↓ev_skip, ↓ev_ret, ↓ev_end, ↓ends_env, ↓ends_bool, ↓ends_av, ↓ends_avs, ↓br_true, ↓br_false, ↓br_not, ↓br_or, ↓br_and, ↓br_beq_true, ↓br_beq_false, Option.map_some, ↓ends_bind, condA, wantA, Env.tr, trOf, evStep, evPure, evRead, callStep, snaps, snap, snap1, snapL, plainL, plain1, Env.made, home, homeA, home1, owned, ownedA, owned1, lookN, Env.get, Env.put, Env.clean, view, AV.cells, AV.one, ptrAdd, Env.cellAt, cellOf, c1_lit, c1_sh, c1_ex, c1_ow, c1_loc, c1_mrow, c1_eptr, c1_junk, cl_lit, cl_sh, cl_ex, cl_ow, cl_loc, cl_mrow, cl_eptr, cl_junk, cl_agg, cl_fn, cl_cell, cl_row, cl_tup, ca_lit, ca_sh, ca_ex, ca_ow, ca_agg, ofConst, Value.oneCell', resL, resV, fin, finA, fin1, unA, binA_eql, binA_neq, binA_seql, binA_sneq, binA_bneq un4, binA_beql un4, okl_cons, okl_nil, okc_str, okc_bool, okc_int, okc_sl, List.getD_cons_succ, List.getD_cons_zero, List.set_cons_succ, List.set_cons_zero, List.map_cons, List.map_nil, List.all_cons, List.all_nil, lenA, indexAddrA, natA_int, List.take_of_length_le, binA_lss, binA_add, ↓ev_nilD, ↓ev_block, ↓ev_loop, ↓ev_exit, loudA, rdOp, freeA, nc_lit, nc_sl, nc_agg, nc_eptr, nc_loc, nc_fn, weak, weakA, weak1, goD, setCells, setCellOf, convA, ↓ends_bool, Option.getD_some, Option.getD_none, Option.bind_some, Option.bind_none, Option.map_none, Option.some.injEq, and_true, true_and, and_self, and_false, false_and, or_true, true_or, or_false, false_or, or_self, not_true_eq_false, not_false_eq_true, implies_true, forall_eq, forall_const, ite_self, ↓reduceIte, reduceCtorEq, decide_true, decide_false, decide_eq_true_eq, decide_eq_false_iff_not, Bool.not_true, Bool.not_false, Bool.and_self, Bool.and_true, Bool.true_and, Bool.and_false, Bool.false_and, Bool.false_eq_true, Bool.true_eq_false, Bool.not_eq_true, beq_true, beq_false, BEq.rfl, beq_self_eq_true, List.length_cons, List.length_nil, List.take_zero, List.take_succ_cons, List.take_nil, List.drop_zero, List.drop_succ_cons, List.drop_nil, List.append_nil, List.nil_append, List.cons_append, List.append_eq, List.mem_cons, List.not_mem_nil, List.contains_nil, List.contains_eq_mem, List.elem_nil, List.find?_nil, List.flatMap_nil, List.flatMap_cons, List.getElem?_toArray, List.getElem?_cons_zero, List.getElem?_cons_succ, List.getElem?_nil, Std.le_refl, Nat.le_refl, Nat.zero_le, Nat.lt_add_one, Nat.zero_add, Nat.add_zero, Nat.reduceAdd, Nat.reduceLT, Nat.reduceLeDiff, Nat.reduceEqDiff, Nat.reduceMul, Nat.mul_one, Nat.zero_mul, Int.natCast_add, Int.cast_ofNat_Int, Int.lt_irrefl, Nat.le_add_left, List.getD_nil, if_false, not_not, ite_not, List.map_nil, Option.isSome_some, List.reverse_nil, ends_env, loopIn, loopsOf, List.cons.injEq, AV.lit.injEq, AV.sl.injEq, Value.int.injEq, Value.bool.injEq, Value.string.injEq, eq_self, iff_self, decide_eq_decide, if_true, ↓ev_op, ↓ev_opDn, ↓ev_opg, ↓ev_opDg, ↓br_dec, ag115, ag117, ag2, ag22, ag9, ag97, en46, en71, en72, fi119_0, fi119_1, fi119_2, fi119_3, fi119_4, fi119_5, fi119_6, seq117, sne117, sz115, sz117, sz2, sz22, sz9, sz97, okl_cons, okl_nil, okc_str, okc_bool, okc_int, okc_sl, hc71, hc72, hc46, wx0, wy0, wx1, wy1, wx2, wy2, wx3, wy3, wx4, wy4, wx5, wy5, wx6, wy6, wx7, wy7, wx8, wy8, wx11, wy11, wx12, wy12]
  all_goals (try simp (config := {contextual := true}))
  all_goals grind
theorem same52 (call : FuncId → List AV → Option AV) (m : Nat)
    (hc75 : ∀ x y, OkL lay99 x → OkL lay99 y → call 75 [.agg x, .agg y] = some (.lit (.bool (decide (x = y)))))
    (hc76 : ∀ x y, OkR lay137 x → OkR lay137 y → call 76 [.sl .sh x, .sl .sh y] = some (.lit (.bool (decide (x = y)))))
    {x y : List AV} (hx : OkL lay102 x) (hy : OkL lay102 y) : evBody Tryz.prog call m Tryz.f52 [.agg x, .agg y] = some (.lit (.bool (decide (x = y)))) := by
  obtain ⟨c, r, rfl, hc, tx0⟩ := hx.cons_inv
  obtain ⟨x0, rfl, wx0⟩ := hc.int_inv
  obtain ⟨c, r, rfl, hc, tx1⟩ := tx0.cons_inv
  obtain ⟨x1, rfl, wx1⟩ := hc.str_inv
  obtain ⟨c, r, rfl, hc, tx2⟩ := tx1.cons_inv
  obtain ⟨x2, rfl⟩ := hc.bool_inv
  obtain ⟨c, r, rfl, hc, tx3⟩ := tx2.cons_inv
  obtain ⟨x3, rfl⟩ := hc.bool_inv
  obtain ⟨c, r, rfl, hc, tx4⟩ := tx3.cons_inv
  obtain ⟨x4, rfl, wx4⟩ := hc.int_inv
  obtain ⟨c, r, rfl, hc, tx5⟩ := tx4.cons_inv
  obtain ⟨x5, rfl⟩ := hc.bool_inv
  obtain ⟨c, r, rfl, hc, tx6⟩ := tx5.cons_inv
  obtain ⟨x6, rfl, wx6⟩ := hc.str_inv
  obtain ⟨c, r, rfl, hc, tx7⟩ := tx6.cons_inv
  obtain ⟨x7, rfl, wx7⟩ := hc.str_inv
  obtain ⟨c, r, rfl, hc, tx8⟩ := tx7.cons_inv
  obtain ⟨x8, rfl, wx8⟩ := hc.str_inv
  obtain ⟨c, r, rfl, hc, tx9⟩ := tx8.cons_inv
  obtain ⟨x9, rfl, wx9⟩ := hc.sl_inv
  obtain ⟨c, r, rfl, hc, tx10⟩ := tx9.cons_inv
  obtain ⟨x10, rfl, wx10⟩ := hc.sl_inv
  have := tx10.nil_inv; subst this
  obtain ⟨c, r, rfl, hc, ty0⟩ := hy.cons_inv
  obtain ⟨y0, rfl, wy0⟩ := hc.int_inv
  obtain ⟨c, r, rfl, hc, ty1⟩ := ty0.cons_inv
  obtain ⟨y1, rfl, wy1⟩ := hc.str_inv
  obtain ⟨c, r, rfl, hc, ty2⟩ := ty1.cons_inv
  obtain ⟨y2, rfl⟩ := hc.bool_inv
  obtain ⟨c, r, rfl, hc, ty3⟩ := ty2.cons_inv
  obtain ⟨y3, rfl⟩ := hc.bool_inv
  obtain ⟨c, r, rfl, hc, ty4⟩ := ty3.cons_inv
  obtain ⟨y4, rfl, wy4⟩ := hc.int_inv
  obtain ⟨c, r, rfl, hc, ty5⟩ := ty4.cons_inv
  obtain ⟨y5, rfl⟩ := hc.bool_inv
  obtain ⟨c, r, rfl, hc, ty6⟩ := ty5.cons_inv
  obtain ⟨y6, rfl, wy6⟩ := hc.str_inv
  obtain ⟨c, r, rfl, hc, ty7⟩ := ty6.cons_inv
  obtain ⟨y7, rfl, wy7⟩ := hc.str_inv
  obtain ⟨c, r, rfl, hc, ty8⟩ := ty7.cons_inv
  obtain ⟨y8, rfl, wy8⟩ := hc.str_inv
  obtain ⟨c, r, rfl, hc, ty9⟩ := ty8.cons_inv
  obtain ⟨y9, rfl, wy9⟩ := hc.sl_inv
  obtain ⟨c, r, rfl, hc, ty10⟩ := ty9.cons_inv
  obtain ⟨y10, rfl, wy10⟩ := hc.sl_inv
  have := ty10.nil_inv; subst this
  apply ends_eq
  rw [ev_body (c := _) rfl]
  rw [show entry Tryz.f52 [.agg [.lit (.int .i64 x0), .lit (.string x1), .lit (.bool x2), .lit (.bool x3), .lit (.int .i64 x4), .lit (.bool x5), .lit (.string x6), .lit (.string x7), .lit (.string x8), .sl .sh x9, .sl .sh x10], .agg [.lit (.int .i64 y0), .lit (.string y1), .lit (.bool y2), .lit (.bool y3), .lit (.int .i64 y4), .lit (.bool y5), .lit (.string y6), .lit (.string y7), .lit (.string y8), .sl .sh y9, .sl .sh y10]] = { s := [.agg [.lit (.int .i64 x0), .lit (.string x1), .lit (.bool x2), .lit (.bool x3), .lit (.int .i64 x4), .lit (.bool x5), .lit (.string x6), .lit (.string x7), .lit (.string x8), .sl .sh x9, .sl .sh x10], .agg [.lit (.int .i64 y0), .lit (.string y1), .lit (.bool y2), .lit (.bool y3), .lit (.int .i64 y4), .lit (.bool y5), .lit (.string y6), .lit (.string y7), .lit (.string y8), .sl .sh y9, .sl .sh y10], .undef, .undef, .undef, .undef, .undef, .undef, .undef, .undef, .undef, .undef, .undef, .undef, .undef, .undef, .undef, .undef, .undef, .undef, .undef, .undef, .undef, .undef, .undef, .undef, .undef, .undef, .undef, .undef, .undef, .undef, .undef, .undef, .undef, .undef, .undef, .undef, .undef, .undef, .undef, .undef, .undef, .undef, .undef, .undef, .undef, .undef, .undef, .undef, .undef, .undef, .undef, .undef, .undef, .undef, .undef, .undef, .undef], live := fun _ _ => none } from rfl]
  simp (config := {contextual := true, maxSteps := 3000000, dsimp := false}) only [Tryz.f52, ↓ev_seq, ↓ev_region, ↓ev_nil, ↓get8, ↓set8, ↓st_op, ↓st_load, ↓ev_cond, ↓ev_skip, ↓ev_ret, ↓ev_end, ↓ends_env, ↓ends_bool, ↓ends_av, ↓ends_avs, ↓br_true, ↓br_false, ↓br_not, ↓br_or, ↓br_and, ↓br_beq_true, ↓br_beq_false, Option.map_some, ↓ends_bind, condA, wantA, Env.tr, trOf, evStep, evPure, evRead, callStep, snaps, snap, snap1, snapL, plainL, plain1, Env.made, home, homeA, home1, owned, ownedA, owned1, lookN, Env.get, Env.put, Env.clean, view, AV.cells, AV.one, ptrAdd, Env.cellAt, cellOf, c1_lit, c1_sh, c1_ex, c1_ow, c1_loc, c1_mrow, c1_eptr, c1_junk, cl_lit, cl_sh, cl_ex, cl_ow, cl_loc, cl_mrow, cl_eptr, cl_junk, cl_agg, cl_fn, cl_cell, cl_row, cl_tup, ca_lit, ca_sh, ca_ex, ca_ow, ca_agg, ofConst, Value.oneCell', resL, resV, fin, finA, fin1, unA, binA_eql, binA_neq, binA_seql, binA_sneq, binA_bneq un4, binA_beql un4, okl_cons, okl_nil, okc_str, okc_bool, okc_int, okc_sl, List.getD_cons_succ, List.getD_cons_zero, List.set_cons_succ, List.set_cons_zero, List.map_cons, List.map_nil, List.all_cons, List.all_nil, lenA, indexAddrA, natA_int, List.take_of_length_le, binA_lss, binA_add, ↓ev_nilD, ↓ev_block, ↓ev_loop, ↓ev_exit, loudA, rdOp, freeA, nc_lit, nc_sl, nc_agg, nc_eptr, nc_loc, nc_fn, weak, weakA, weak1, goD, setCells, setCellOf, convA, ↓ends_bool, Option.getD_some, Option.getD_none, Option.bind_some, Option.bind_none, Option.map_none, Option.some.injEq, and_true, true_and, and_self, and_false, false_and, or_true, true_or, or_false, false_or, or_self, not_true_eq_false, not_false_eq_true, implies_true, forall_eq, forall_const, ite_self, ↓reduceIte, reduceCtorEq, decide_true, decide_false, decide_eq_true_eq, decide_eq_false_iff_not, Bool.not_true, Bool.not_false, Bool.and_self, Bool.and_true, Bool.true_and, Bool.and_false, Bool.false_and, Bool.false_eq_true, Bool.true_eq_false, Bool.not_eq_true, beq_true, beq_false, BEq.rfl, beq_self_eq_true, List.length_cons, List.length_nil, List.take_zero, List.take_succ_cons, List.take_nil, List.drop_zero, List.drop_succ_cons, List.drop_nil, List.append_nil, List.nil_append, List.cons_append, List.append_eq, List.mem_cons, List.not_mem_nil, List.contains_nil, List.contains_eq_mem, List.elem_nil, List.find?_nil, List.flatMap_nil, List.flatMap_cons, List.getElem?_toArray, List.getElem?_cons_zero, List.getElem?_cons_succ, List.getElem?_nil, Std.le_refl, Nat.le_refl, Nat.zero_le, Nat.lt_add_one, Nat.zero_add, Nat.add_zero, Nat.reduceAdd, Nat.reduceLT, Nat.reduceLeDiff, Nat.reduceEqDiff, Nat.reduceMul, Nat.mul_one, Nat.zero_mul, Int.natCast_add, Int.cast_ofNat_Int, Int.lt_irrefl, Nat.le_add_left, List.getD_nil, if_false, not_not, ite_not, List.map_nil, Option.isSome_some, List.reverse_nil, ends_env, loopIn, loopsOf, List.cons.injEq, AV.lit.injEq, AV.sl.injEq, Value.int.injEq, Value.bool.injEq, Value.string.injEq, eq_self, iff_self, decide_eq_decide, if_true, ↓ev_op, ↓ev_opDn, ↓ev_opg, ↓ev_opDg, ↓br_dec, ag100, ag2, ag4, ag9, ag99, binA_beql un4, binA_bneq un4, en75, en76, fi102_0, fi102_1, fi102_2, fi102_3, fi102_4, fi102_5, fi102_6, fi102_7, sz100, sz2, sz4, sz9, sz99, okl_cons, okl_nil, okc_str, okc_bool, okc_int, okc_sl, hc75, hc76, wx0, wy0, wx1, wy1, wx4, wy4, wx6, wy6, wx7, wy7, wx8, wy8, wx9, wy9, wx10, wy10]
  all_goals (try simp (config := {contextual := true}))
  all_goals grind
end Go.Proofs.YtlgdhdelhpklbaaGreat.EV
