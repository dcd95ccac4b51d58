/- Contracts, by sameo.py. -/
import Derived.Test.YtlgdhdelhpklbaaGreatSq
set_option maxHeartbeats 4000000
set_option maxRecDepth 20000
set_option linter.unusedSimpArgs false
set_option linter.unusedVariables false
namespace Go.Proofs.YtlgdhdelhpklbaaGreat.EV
open Go.RowKit
open Classical
theorem dr5_0 : drawnA Tryz.prog (drawnIn Tryz.f5 0) = true := drawn_of (tab := [⟨some 56, [2], false, []⟩, ⟨some 57, [56], false, [0]⟩, ⟨some 58, [5], false, []⟩, ⟨some 59, [57, 58], false, [1, 2]⟩, ⟨some 60, [59], false, [3]⟩, ⟨some 61, [60], false, [4]⟩, ⟨some 62, [3], false, []⟩, ⟨some 63, [62], false, [6]⟩, ⟨some 64, [5], false, []⟩, ⟨some 65, [63, 64], false, [7, 8]⟩, ⟨some 66, [65], false, [9]⟩, ⟨some 67, [66], false, [10]⟩, ⟨some 68, [61, 67], false, [5, 11]⟩, ⟨some 69, [68], false, [12]⟩, ⟨some 70, [2, 69], false, [13]⟩, ⟨some 71, [70, 69], false, [14, 13]⟩, ⟨some 72, [5, 69], false, [13]⟩, ⟨some 73, [71, 72, 69], false, [15, 16, 13]⟩, ⟨some 74, [73, 69], false, [17, 13]⟩, ⟨some 75, [74, 69], false, [18, 13]⟩, ⟨some 76, [3, 69], false, [13]⟩, ⟨some 77, [76, 69], false, [20, 13]⟩, ⟨some 78, [5, 69], false, [13]⟩, ⟨some 79, [77, 78, 69], false, [21, 22, 13]⟩, ⟨some 80, [79, 69], false, [23, 13]⟩, ⟨some 81, [80, 69], false, [24, 13]⟩, ⟨some 82, [75, 81, 69], false, [19, 25, 13, 13]⟩, ⟨some 83, [82, 69], false, [26, 13]⟩, ⟨some 84, [69, 83], false, [13, 27]⟩, ⟨some 85, [84], false, [28, 26]⟩, ⟨some 86, [2, 85], false, [29]⟩, ⟨some 87, [86, 85], false, [30, 29]⟩, ⟨some 88, [5, 85], false, [29]⟩, ⟨some 89, [87, 88, 85], false, [31, 32, 29]⟩, ⟨some 90, [89, 85], false, [33, 29]⟩, ⟨some 91, [90, 85], false, [34, 29]⟩, ⟨some 92, [3, 85], false, [29]⟩, ⟨some 93, [92, 85], false, [36, 29]⟩, ⟨some 94, [5, 85], false, [29]⟩, ⟨some 95, [93, 94, 85], false, [37, 38, 29]⟩, ⟨some 96, [95, 85], false, [39, 29]⟩, ⟨some 97, [96, 85], false, [40, 29]⟩, ⟨some 98, [91, 97, 85], false, [35, 41, 29, 29]⟩, ⟨some 99, [98, 85], false, [42, 29]⟩, ⟨some 100, [85, 99], false, [29, 43]⟩]) follows_mixed (by kernel_rfl) (by kernel_rfl)
theorem lp5 (call : FuncId → List AV → Option AV) (m : Nat)
    (hc13 : ∀ x y rx ry, OkL lay41 x → OkL lay41 y → call 13 [.eptr (x ++ rx), .eptr (y ++ ry)] = some (.lit (.bool (decide (x = y)))))
    (hc14 : ∀ x y, OkL lay44 x → OkL lay44 y → call 14 [.agg x, .agg y] = some (.lit (.bool (decide (x = y)))))
    (hc15 : ∀ x y, OkR lay102 x → OkR lay102 y → call 15 [.sl .sh x, .sl .sh y] = some (.lit (.bool (decide (x = y)))))
    (hc16 : ∀ x y, OkL lay61 x → OkL lay61 y → call 16 [.agg x, .agg y] = some (.lit (.bool (decide (x = y)))))
    (hc17 : ∀ x y, OkL lay64 x → OkL lay64 y → call 17 [.agg x, .agg y] = some (.lit (.bool (decide (x = y))))) 
    {c : Code} (hcd : c = loopIn Tryz.f5 0) {x0 : Int} {x1 : Int} {x2 : Int} {x3 : Int} {x4 : Int} {x5 : Int} {x6 : Int} {x7 : Int} {x8 : List (List AV)} {x9 : Int} {x10 : Int} {x11 : Int} {x12 : Int} {x13 : Int} {x14 : Int} {x15 : Int} {x16 : Int} {x17 : Int} {x18 : Int} {x19 : Int} {x20 : Int} {x21 : List (List AV)} {x22 : List (List AV)} {x23 : List (List AV)} {x24 : List (List AV)} {y0 : Int} {y1 : Int} {y2 : Int} {y3 : Int} {y4 : Int} {y5 : Int} {y6 : Int} {y7 : Int} {y8 : List (List AV)} {y9 : Int} {y10 : Int} {y11 : Int} {y12 : Int} {y13 : Int} {y14 : Int} {y15 : Int} {y16 : Int} {y17 : Int} {y18 : Int} {y19 : Int} {y20 : Int} {y21 : List (List AV)} {y22 : List (List AV)} {y23 : List (List AV)} {y24 : List (List AV)} (wx0 : IntKind.i64.wrap x0 = x0) (wx1 : IntKind.i64.wrap x1 = x1) (wx2 : IntKind.i64.wrap x2 = x2) (wx3 : IntKind.i64.wrap x3 = x3) (wx4 : IntKind.i64.wrap x4 = x4) (wx5 : IntKind.i64.wrap x5 = x5) (wx6 : IntKind.i64.wrap x6 = x6) (wx7 : IntKind.i64.wrap x7 = x7) (wx8 : OkR lay9 x8) (wx9 : IntKind.i64.wrap x9 = x9) (wx10 : IntKind.i64.wrap x10 = x10) (wx11 : IntKind.i64.wrap x11 = x11) (wx12 : IntKind.i64.wrap x12 = x12) (wx13 : IntKind.i64.wrap x13 = x13) (wx14 : IntKind.i64.wrap x14 = x14) (wx15 : IntKind.i64.wrap x15 = x15) (wx16 : IntKind.i64.wrap x16 = x16) (wx17 : IntKind.i64.wrap x17 = x17) (wx18 : IntKind.i64.wrap x18 = x18) (wx19 : IntKind.i64.wrap x19 = x19) (wx20 : IntKind.i64.wrap x20 = x20) (wx21 : OkR lay119 x21) (wx22 : OkR lay119 x22) (wx23 : OkR lay66 x23) (wx24 : OkR lay102 x24) (wy0 : IntKind.i64.wrap y0 = y0) (wy1 : IntKind.i64.wrap y1 = y1) (wy2 : IntKind.i64.wrap y2 = y2) (wy3 : IntKind.i64.wrap y3 = y3) (wy4 : IntKind.i64.wrap y4 = y4) (wy5 : IntKind.i64.wrap y5 = y5) (wy6 : IntKind.i64.wrap y6 = y6) (wy7 : IntKind.i64.wrap y7 = y7) (wy8 : OkR lay9 y8) (wy9 : IntKind.i64.wrap y9 = y9) (wy10 : IntKind.i64.wrap y10 = y10) (wy11 : IntKind.i64.wrap y11 = y11) (wy12 : IntKind.i64.wrap y12 = y12) (wy13 : IntKind.i64.wrap y13 = y13) (wy14 : IntKind.i64.wrap y14 = y14) (wy15 : IntKind.i64.wrap y15 = y15) (wy16 : IntKind.i64.wrap y16 = y16) (wy17 : IntKind.i64.wrap y17 = y17) (wy18 : IntKind.i64.wrap y18 = y18) (wy19 : IntKind.i64.wrap y19 = y19) (wy20 : IntKind.i64.wrap y20 = y20) (wy21 : OkR lay119 y21) (wy22 : OkR lay119 y22) (wy23 : OkR lay66 y23) (wy24 : OkR lay102 y24) (hl : x23.length = y23.length) {F : Ex × Env → Prop} (h1 : ∀ (lv : Nat → Nat → Option Nat) (ui u0 u1 u6 u7 u8 u9 u10 u11 u12 u13 u14 u15 u16 u17 u18 u19 u20 u21 u22 u23 u24 u25 u26 u27 u28 u29 u30 u31 u32 u33 u34 u35 u36 u37 u38 u39 u40 u41 u42 u43 u44 u45 u46 u47 u48 u49 u50 u51 u52 u53 u54 u55 u56 u57 u58 u59 u60 u61 u62 u63 u64 u65 u66 u67 u68 u69 u70 u71 u72 u73 u74 u75 u76 u77 u78 u79 u80 u81 u82 u83 u84 u85 u86 u87 u88 u89 u90 u91 u92 u93 u94 u95 u96 u97 u98 u99 u100 : AV), x23 = y23 → F (.exit 0, { s := [u0, u1, .cell [.lit (.int .i64 x0), .lit (.int .i64 x1), .lit (.int .i64 x2), .lit (.int .i64 x3), .lit (.int .i64 x4), .lit (.int .i64 x5), .lit (.int .i64 x6), .lit (.int .i64 x7), .sl .sh x8, .lit (.int .i64 x9), .lit (.int .i64 x10), .lit (.int .i64 x11), .lit (.int .i64 x12), .lit (.int .i64 x13), .lit (.int .i64 x14), .lit (.int .i64 x15), .lit (.int .i64 x16), .lit (.int .i64 x17), .lit (.int .i64 x18), .lit (.int .i64 x19), .lit (.int .i64 x20), .sl .sh x21, .sl .sh x22, .sl .sh x23, .sl .sh x24], .cell [.lit (.int .i64 y0), .lit (.int .i64 y1), .lit (.int .i64 y2), .lit (.int .i64 y3), .lit (.int .i64 y4), .lit (.int .i64 y5), .lit (.int .i64 y6), .lit (.int .i64 y7), .sl .sh y8, .lit (.int .i64 y9), .lit (.int .i64 y10), .lit (.int .i64 y11), .lit (.int .i64 y12), .lit (.int .i64 y13), .lit (.int .i64 y14), .lit (.int .i64 y15), .lit (.int .i64 y16), .lit (.int .i64 y17), .lit (.int .i64 y18), .lit (.int .i64 y19), .lit (.int .i64 y20), .sl .sh y21, .sl .sh y22, .sl .sh y23, .sl .sh y24], .lit (.bool false), ui, u6, u7, u8, u9, u10, u11, u12, u13, u14, u15, u16, u17, u18, u19, u20, u21, u22, u23, u24, u25, u26, u27, u28, u29, u30, u31, u32, u33, u34, u35, u36, u37, u38, u39, u40, u41, u42, u43, u44, u45, u46, u47, u48, u49, u50, u51, u52, u53, u54, u55, u56, u57, u58, u59, u60, u61, u62, u63, u64, u65, u66, u67, u68, u69, u70, u71, u72, u73, u74, u75, u76, u77, u78, u79, u80, u81, u82, u83, u84, u85, u86, u87, u88, u89, u90, u91, u92, u93, u94, u95, u96, u97, u98, u99, u100], live := lv })) (h2 : ∀ E', x23 ≠ y23 → E'.s[4]? = some (.lit (.bool false)) → F (.ret, E')) :
    ∀ (k N i : Nat) (lv : Nat → Nat → Option Nat) (u0 u1 u6 u7 u8 u9 u10 u11 u12 u13 u14 u15 u16 u17 u18 u19 u20 u21 u22 u23 u24 u25 u26 u27 u28 u29 u30 u31 u32 u33 u34 u35 u36 u37 u38 u39 u40 u41 u42 u43 u44 u45 u46 u47 u48 u49 u50 u51 u52 u53 u54 u55 u56 u57 u58 u59 u60 u61 u62 u63 u64 u65 u66 u67 u68 u69 u70 u71 u72 u73 u74 u75 u76 u77 u78 u79 u80 u81 u82 u83 u84 u85 u86 u87 u88 u89 u90 u91 u92 u93 u94 u95 u96 u97 u98 u99 u100 : AV), k < N → k + i = x23.length → x23.take i = y23.take i →
      (∀ u ∈ [u56, u57, u58, u59, u60, u61, u62, u63, u64, u65, u66, u67, u68, u69, u70, u71, u72, u73, u74, u75, u76, u77, u78, u79, u80, u81, u82, u83, u84, u85, u86, u87, u88, u89, u90, u91, u92, u93, u94, u95, u96, u97, u98, u99, u100], notCell u = true) →
      Ends (evLoop (evCode Tryz.prog call m c) N { s := [u0, u1, .cell [.lit (.int .i64 x0), .lit (.int .i64 x1), .lit (.int .i64 x2), .lit (.int .i64 x3), .lit (.int .i64 x4), .lit (.int .i64 x5), .lit (.int .i64 x6), .lit (.int .i64 x7), .sl .sh x8, .lit (.int .i64 x9), .lit (.int .i64 x10), .lit (.int .i64 x11), .lit (.int .i64 x12), .lit (.int .i64 x13), .lit (.int .i64 x14), .lit (.int .i64 x15), .lit (.int .i64 x16), .lit (.int .i64 x17), .lit (.int .i64 x18), .lit (.int .i64 x19), .lit (.int .i64 x20), .sl .sh x21, .sl .sh x22, .sl .sh x23, .sl .sh x24], .cell [.lit (.int .i64 y0), .lit (.int .i64 y1), .lit (.int .i64 y2), .lit (.int .i64 y3), .lit (.int .i64 y4), .lit (.int .i64 y5), .lit (.int .i64 y6), .lit (.int .i64 y7), .sl .sh y8, .lit (.int .i64 y9), .lit (.int .i64 y10), .lit (.int .i64 y11), .lit (.int .i64 y12), .lit (.int .i64 y13), .lit (.int .i64 y14), .lit (.int .i64 y15), .lit (.int .i64 y16), .lit (.int .i64 y17), .lit (.int .i64 y18), .lit (.int .i64 y19), .lit (.int .i64 y20), .sl .sh y21, .sl .sh y22, .sl .sh y23, .sl .sh y24], .lit (.bool false), .lit (.int .i64 (i : Int)), u6, u7, u8, u9, u10, u11, u12, u13, u14, u15, u16, u17, u18, u19, u20, u21, u22, u23, u24, u25, u26, u27, u28, u29, u30, u31, u32, u33, u34, u35, u36, u37, u38, u39, u40, u41, u42, u43, u44, u45, u46, u47, u48, u49, u50, u51, u52, u53, u54, u55, u56, u57, u58, u59, u60, u61, u62, u63, u64, u65, u66, u67, u68, u69, u70, u71, u72, u73, u74, u75, u76, u77, u78, u79, u80, u81, u82, u83, u84, u85, u86, u87, u88, u89, u90, u91, u92, u93, u94, u95, u96, u97, u98, u99, u100], live := lv }) F := by
  intro k
  induction k with
  | zero =>
    intro N i lv u0 u1 u6 u7 u8 u9 u10 u11 u12 u13 u14 u15 u16 u17 u18 u19 u20 u21 u22 u23 u24 u25 u26 u27 u28 u29 u30 u31 u32 u33 u34 u35 u36 u37 u38 u39 u40 u41 u42 u43 u44 u45 u46 u47 u48 u49 u50 u51 u52 u53 u54 u55 u56 u57 u58 u59 u60 u61 u62 u63 u64 u65 u66 u67 u68 u69 u70 u71 u72 u73 u74 u75 u76 u77 u78 u79 u80 u81 u82 u83 u84 u85 u86 u87 u88 u89 u90 u91 u92 u93 u94 u95 u96 u97 u98 u99 u100 hN hk hp hu
    obtain ⟨N, rfl⟩ : ∃ N', N = N' + 1 := ⟨N - 1, by omega⟩
    have hi : i = x23.length := by omega
    subst hi
    rw [List.take_of_length_le (Nat.le_refl _), List.take_of_length_le (by omega)] at hp
    rw [ev_turn hcd]
    simp [loopIn, loopsOf, Tryz.f5, ↓ev_seq, ↓ev_region, ↓ev_nil, ↓get8, ↓set8, ↓st_op, ↓st_load, ↓ev_cond, ↓ev_skip, ↓ev_ret, ↓ev_end, ↓ends_env, ↓ends_bool, ↓ends_av, ↓ends_avs, ↓br_true, ↓br_false, ↓br_not, ↓br_or, ↓br_and, ↓br_beq_true, ↓br_beq_false, Option.map_some, ↓ends_bind, condA, wantA, Env.tr, trOf, evStep, evPure, evRead, callStep, snaps, snap, snap1, snapL, plainL, plain1, Env.made, home, homeA, home1, owned, ownedA, owned1, lookN, Env.get, Env.put, Env.clean, view, AV.cells, AV.one, ptrAdd, Env.cellAt, cellOf, c1_lit, c1_sh, c1_ex, c1_ow, c1_loc, c1_mrow, c1_eptr, c1_junk, cl_lit, cl_sh, cl_ex, cl_ow, cl_loc, cl_mrow, cl_eptr, cl_junk, cl_agg, cl_fn, cl_cell, cl_row, cl_tup, ca_lit, ca_sh, ca_ex, ca_ow, ca_agg, ofConst, Value.oneCell', resL, resV, fin, finA, fin1, unA, binA_eql, binA_neq, binA_seql, binA_sneq, binA_bneq un4, binA_beql un4, okl_cons, okl_nil, okc_str, okc_bool, okc_int, okc_sl, List.getD_cons_succ, List.getD_cons_zero, List.set_cons_succ, List.set_cons_zero, List.map_cons, List.map_nil, List.all_cons, List.all_nil, lenA, indexAddrA, natA_int, List.take_of_length_le, binA_lss, binA_add, ↓ev_nilD, ↓ev_block, ↓ev_loop, ↓ev_exit, loudA, rdOp, freeA, nc_lit, nc_sl, nc_agg, nc_eptr, nc_loc, nc_fn, weak, weakA, weak1, goD, setCells, setCellOf, convA, ↓ends_bool, Option.getD_some, Option.getD_none, Option.bind_some, Option.bind_none, Option.map_none, Option.some.injEq, and_true, true_and, and_self, and_false, false_and, or_true, true_or, or_false, false_or, or_self, not_true_eq_false, not_false_eq_true, implies_true, forall_eq, forall_const, ite_self, ↓reduceIte, reduceCtorEq, decide_true, decide_false, decide_eq_true_eq, decide_eq_false_iff_not, Bool.not_true, Bool.not_false, Bool.and_self, Bool.and_true, Bool.true_and, Bool.and_false, Bool.false_and, Bool.false_eq_true, Bool.true_eq_false, Bool.not_eq_true, beq_true, beq_false, BEq.rfl, beq_self_eq_true, List.length_cons, List.length_nil, List.take_zero, List.take_succ_cons, List.take_nil, List.drop_zero, List.drop_succ_cons, List.drop_nil, List.append_nil, List.nil_append, List.cons_append, List.append_eq, List.mem_cons, List.not_mem_nil, List.contains_nil, List.contains_eq_mem, List.elem_nil, List.find?_nil, List.flatMap_nil, List.flatMap_cons, List.getElem?_toArray, List.getElem?_cons_zero, List.getElem?_cons_succ, List.getElem?_nil, Std.le_refl, Nat.le_refl, Nat.zero_le, Nat.lt_add_one, Nat.zero_add, Nat.add_zero, Nat.reduceAdd, Nat.reduceLT, Nat.reduceLeDiff, Nat.reduceEqDiff, Nat.reduceMul, Nat.mul_one, Nat.zero_mul, Int.natCast_add, Int.cast_ofNat_Int, Int.lt_irrefl, Nat.le_add_left, List.getD_nil, if_false, not_not, ite_not, List.map_nil, Option.isSome_some, List.reverse_nil, ends_env, loopIn, loopsOf, List.cons.injEq, AV.lit.injEq, AV.sl.injEq, Value.int.injEq, Value.bool.injEq, Value.string.injEq, eq_self, iff_self, decide_eq_decide, if_true, ↓ev_op, ↓ev_opDn, ↓ev_opg, ↓ev_opDg, ↓br_dec, ag2, ag44, ag45, ag46, ag61, ag64, ag66, ag9, en13, en14, en15, en16, en17, fi48_0, fi48_1, fi48_2, fi48_3, fi48_4, fi48_5, fi66_0, fi66_1, fi66_2, sz2, sz41, sz44, sz45, sz46, sz61, sz64, sz66, sz9, un45]
    exact h1 _ _ _ _ _ _ _ _ _ _ _ _ _ _ _ _ _ _ _ _ _ _ _ _ _ _ _ _ _ _ _ _ _ _ _ _ _ _ _ _ _ _ _ _ _ _ _ _ _ _ _ _ _ _ _ _ _ _ _ _ _ _ _ _ _ _ _ _ _ _ _ _ _ _ _ _ _ _ _ _ _ _ _ _ _ _ _ _ _ _ _ _ _ _ _ _ _ _ _ hp
  | succ k ih =>
    intro N i lv u0 u1 u6 u7 u8 u9 u10 u11 u12 u13 u14 u15 u16 u17 u18 u19 u20 u21 u22 u23 u24 u25 u26 u27 u28 u29 u30 u31 u32 u33 u34 u35 u36 u37 u38 u39 u40 u41 u42 u43 u44 u45 u46 u47 u48 u49 u50 u51 u52 u53 u54 u55 u56 u57 u58 u59 u60 u61 u62 u63 u64 u65 u66 u67 u68 u69 u70 u71 u72 u73 u74 u75 u76 u77 u78 u79 u80 u81 u82 u83 u84 u85 u86 u87 u88 u89 u90 u91 u92 u93 u94 u95 u96 u97 u98 u99 u100 hN hk hp hu
    obtain ⟨N, rfl⟩ : ∃ N', N = N' + 1 := ⟨N - 1, by omega⟩
    obtain ⟨x, hx, hxo, hxt⟩ := wx23.get (i := i) (by omega)
    obtain ⟨y, hy, hyo, hyt⟩ := wy23.get (i := i) (by omega)
    have hlt : ((i : Int) < (x23.length : Int)) := by omega
    have hbd : i < 9223372036854775807 := by have := wx23.1; omega
    simp only [List.mem_cons, List.not_mem_nil, or_false, forall_eq_or_imp, forall_eq] at hu
    obtain ⟨c, r, rfl, hc, tp0⟩ := hxo.cons_inv
    obtain ⟨p0, rfl, wp0⟩ := hc.str_inv
    obtain ⟨c, r, rfl, hc, tp1⟩ := tp0.cons_inv
    obtain ⟨p1, rfl, wp1⟩ := hc.int_inv
    obtain ⟨c, r, rfl, hc, tp2⟩ := tp1.cons_inv
    obtain ⟨p2, rfl, wp2⟩ := hc.sl_inv
    obtain ⟨c, r, rfl, hc, tp3⟩ := tp2.cons_inv
    obtain ⟨p3, rfl, wp3⟩ := hc.int_inv
    obtain ⟨c, r, rfl, hc, tp4⟩ := tp3.cons_inv
    obtain ⟨p4, rfl, wp4⟩ := hc.int_inv
    obtain ⟨c, r, rfl, hc, tp5⟩ := tp4.cons_inv
    obtain ⟨p5, rfl, wp5⟩ := hc.int_inv
    obtain ⟨c, r, rfl, hc, tp6⟩ := tp5.cons_inv
    obtain ⟨p6, rfl, wp6⟩ := hc.sl_inv
    have := tp6.nil_inv; subst this
    obtain ⟨c, r, rfl, hc, tq0⟩ := hyo.cons_inv
    obtain ⟨q0, rfl, wq0⟩ := hc.str_inv
    obtain ⟨c, r, rfl, hc, tq1⟩ := tq0.cons_inv
    obtain ⟨q1, rfl, wq1⟩ := hc.int_inv
    obtain ⟨c, r, rfl, hc, tq2⟩ := tq1.cons_inv
    obtain ⟨q2, rfl, wq2⟩ := hc.sl_inv
    obtain ⟨c, r, rfl, hc, tq3⟩ := tq2.cons_inv
    obtain ⟨q3, rfl, wq3⟩ := hc.int_inv
    obtain ⟨c, r, rfl, hc, tq4⟩ := tq3.cons_inv
    obtain ⟨q4, rfl, wq4⟩ := hc.int_inv
    obtain ⟨c, r, rfl, hc, tq5⟩ := tq4.cons_inv
    obtain ⟨q5, rfl, wq5⟩ := hc.int_inv
    obtain ⟨c, r, rfl, hc, tq6⟩ := tq5.cons_inv
    obtain ⟨q6, rfl, wq6⟩ := hc.sl_inv
    have := tq6.nil_inv; subst this
    have dr0 := dr5_0
    simp only [drawnIn, drawnsOf, Tryz.f5, List.getD_cons_succ, List.getD_cons_zero, List.nil_append, List.append_nil, List.cons_append] at dr0
    rw [ev_turn hcd]
    have ihh : ([.lit (.string p0), .lit (.int .i64 p1), .sl .sh p2, .lit (.int .i64 p3), .lit (.int .i64 p4), .lit (.int .i64 p5), .sl .sh p6] : List AV) = ([.lit (.string q0), .lit (.int .i64 q1), .sl .sh q2, .lit (.int .i64 q3), .lit (.int .i64 q4), .lit (.int .i64 q5), .sl .sh q6] : List AV) → ∀ (lv : Nat → Nat → Option Nat) (u0 u1 u6 u7 u8 u9 u10 u11 u12 u13 u14 u15 u16 u17 u18 u19 u20 u21 u22 u23 u24 u25 u26 u27 u28 u29 u30 u31 u32 u33 u34 u35 u36 u37 u38 u39 u40 u41 u42 u43 u44 u45 u46 u47 u48 u49 u50 u51 u52 u53 u54 u55 u56 u57 u58 u59 u60 u61 u62 u63 u64 u65 u66 u67 u68 u69 u70 u71 u72 u73 u74 u75 u76 u77 u78 u79 u80 u81 u82 u83 u84 u85 u86 u87 u88 u89 u90 u91 u92 u93 u94 u95 u96 u97 u98 u99 u100 : AV), notCell u56 = true → notCell u57 = true → notCell u58 = true → notCell u59 = true → notCell u60 = true → notCell u61 = true → notCell u62 = true → notCell u63 = true → notCell u64 = true → notCell u65 = true → notCell u66 = true → notCell u67 = true → notCell u68 = true → notCell u69 = true → notCell u70 = true → notCell u71 = true → notCell u72 = true → notCell u73 = true → notCell u74 = true → notCell u75 = true → notCell u76 = true → notCell u77 = true → notCell u78 = true → notCell u79 = true → notCell u80 = true → notCell u81 = true → notCell u82 = true → notCell u83 = true → notCell u84 = true → notCell u85 = true → notCell u86 = true → notCell u87 = true → notCell u88 = true → notCell u89 = true → notCell u90 = true → notCell u91 = true → notCell u92 = true → notCell u93 = true → notCell u94 = true → notCell u95 = true → notCell u96 = true → notCell u97 = true → notCell u98 = true → notCell u99 = true → notCell u100 = true → Ends (evLoop (evCode Tryz.prog call m c) N { s := [u0, u1, .cell [.lit (.int .i64 x0), .lit (.int .i64 x1), .lit (.int .i64 x2), .lit (.int .i64 x3), .lit (.int .i64 x4), .lit (.int .i64 x5), .lit (.int .i64 x6), .lit (.int .i64 x7), .sl .sh x8, .lit (.int .i64 x9), .lit (.int .i64 x10), .lit (.int .i64 x11), .lit (.int .i64 x12), .lit (.int .i64 x13), .lit (.int .i64 x14), .lit (.int .i64 x15), .lit (.int .i64 x16), .lit (.int .i64 x17), .lit (.int .i64 x18), .lit (.int .i64 x19), .lit (.int .i64 x20), .sl .sh x21, .sl .sh x22, .sl .sh x23, .sl .sh x24], .cell [.lit (.int .i64 y0), .lit (.int .i64 y1), .lit (.int .i64 y2), .lit (.int .i64 y3), .lit (.int .i64 y4), .lit (.int .i64 y5), .lit (.int .i64 y6), .lit (.int .i64 y7), .sl .sh y8, .lit (.int .i64 y9), .lit (.int .i64 y10), .lit (.int .i64 y11), .lit (.int .i64 y12), .lit (.int .i64 y13), .lit (.int .i64 y14), .lit (.int .i64 y15), .lit (.int .i64 y16), .lit (.int .i64 y17), .lit (.int .i64 y18), .lit (.int .i64 y19), .lit (.int .i64 y20), .sl .sh y21, .sl .sh y22, .sl .sh y23, .sl .sh y24], .lit (.bool false), .lit (.int .i64 ((i + 1 : Nat) : Int)), u6, u7, u8, u9, u10, u11, u12, u13, u14, u15, u16, u17, u18, u19, u20, u21, u22, u23, u24, u25, u26, u27, u28, u29, u30, u31, u32, u33, u34, u35, u36, u37, u38, u39, u40, u41, u42, u43, u44, u45, u46, u47, u48, u49, u50, u51, u52, u53, u54, u55, u56, u57, u58, u59, u60, u61, u62, u63, u64, u65, u66, u67, u68, u69, u70, u71, u72, u73, u74, u75, u76, u77, u78, u79, u80, u81, u82, u83, u84, u85, u86, u87, u88, u89, u90, u91, u92, u93, u94, u95, u96, u97, u98, u99, u100], live := lv }) F := fun hxy lv u0 u1 u6 u7 u8 u9 u10 u11 u12 u13 u14 u15 u16 u17 u18 u19 u20 u21 u22 u23 u24 u25 u26 u27 u28 u29 u30 u31 u32 u33 u34 u35 u36 u37 u38 u39 u40 u41 u42 u43 u44 u45 u46 u47 u48 u49 u50 u51 u52 u53 u54 u55 u56 u57 u58 u59 u60 u61 u62 u63 u64 u65 u66 u67 u68 u69 u70 u71 u72 u73 u74 u75 u76 u77 u78 u79 u80 u81 u82 u83 u84 u85 u86 u87 u88 u89 u90 u91 u92 u93 u94 u95 u96 u97 u98 u99 u100 nu56 nu57 nu58 nu59 nu60 nu61 nu62 nu63 nu64 nu65 nu66 nu67 nu68 nu69 nu70 nu71 nu72 nu73 nu74 nu75 nu76 nu77 nu78 nu79 nu80 nu81 nu82 nu83 nu84 nu85 nu86 nu87 nu88 nu89 nu90 nu91 nu92 nu93 nu94 nu95 nu96 nu97 nu98 nu99 nu100 => ih N (i + 1) lv u0 u1 u6 u7 u8 u9 u10 u11 u12 u13 u14 u15 u16 u17 u18 u19 u20 u21 u22 u23 u24 u25 u26 u27 u28 u29 u30 u31 u32 u33 u34 u35 u36 u37 u38 u39 u40 u41 u42 u43 u44 u45 u46 u47 u48 u49 u50 u51 u52 u53 u54 u55 u56 u57 u58 u59 u60 u61 u62 u63 u64 u65 u66 u67 u68 u69 u70 u71 u72 u73 u74 u75 u76 u77 u78 u79 u80 u81 u82 u83 u84 u85 u86 u87 u88 u89 u90 u91 u92 u93 u94 u95 u96 u97 u98 u99 u100 (by omega) (by omega) (by rw [hxt, hyt, hp, hxy]) (by simp [nu56, nu57, nu58, nu59, nu60, nu61, nu62, nu63, nu64, nu65, nu66, nu67, nu68, nu69, nu70, nu71, nu72, nu73, nu74, nu75, nu76, nu77, nu78, nu79, nu80, nu81, nu82, nu83, nu84, nu85, nu86, nu87, nu88, nu89, nu90, nu91, nu92, nu93, nu94, nu95, nu96, nu97, nu98, nu99, nu100])
    have h2h : ¬ (([.lit (.string p0), .lit (.int .i64 p1), .sl .sh p2, .lit (.int .i64 p3), .lit (.int .i64 p4), .lit (.int .i64 p5), .sl .sh p6] : List AV) = ([.lit (.string q0), .lit (.int .i64 q1), .sl .sh q2, .lit (.int .i64 q3), .lit (.int .i64 q4), .lit (.int .i64 q5), .sl .sh q6] : List AV)) → ∀ E', E'.s[4]? = some (.lit (.bool false)) → F (.ret, E') := fun hxy E' => h2 E' (fun h => hxy (by have hy' := hy; rw [← h, hx] at hy'; exact Option.some.inj hy'))
    clear ih h2
    by_cases hxy : ([.lit (.string p0), .lit (.int .i64 p1), .sl .sh p2, .lit (.int .i64 p3), .lit (.int .i64 p4), .lit (.int .i64 p5), .sl .sh p6] : List AV) = ([.lit (.string q0), .lit (.int .i64 q1), .sl .sh q2, .lit (.int .i64 q3), .lit (.int .i64 q4), .lit (.int .i64 q5), .sl .sh q6] : List AV)
    · have ihh := ihh hxy
      simp -dsimp [loopIn, loopsOf, Tryz.f5, ↓ev_seq, ↓ev_region, ↓ev_nil, ↓get8, ↓set8, ↓st_op, ↓st_load, ↓ev_cond, ↓ev_skip, ↓ev_ret, ↓ev_end, ↓ends_env, ↓ends_bool, ↓ends_av, ↓ends_avs, ↓br_true, ↓br_false, ↓br_not, ↓br_or, ↓br_and, ↓br_beq_true, ↓br_beq_false, Option.map_some, ↓ends_bind, condA, wantA, Env.tr, trOf, evStep, evPure, evRead, callStep, snaps, snap, snap1, snapL, plainL, plain1, Env.made, home, homeA, home1, owned, ownedA, owned1, lookN, Env.get, Env.put, Env.clean, view, AV.cells, AV.one, ptrAdd, Env.cellAt, cellOf, c1_lit, c1_sh, c1_ex, c1_ow, c1_loc, c1_mrow, c1_eptr, c1_junk, cl_lit, cl_sh, cl_ex, cl_ow, cl_loc, cl_mrow, cl_eptr, cl_junk, cl_agg, cl_fn, cl_cell, cl_row, cl_tup, ca_lit, ca_sh, ca_ex, ca_ow, ca_agg, ofConst, Value.oneCell', resL, resV, fin, finA, fin1, unA, binA_eql, binA_neq, binA_seql, binA_sneq, binA_bneq un4, binA_beql un4, okl_cons, okl_nil, okc_str, okc_bool, okc_int, okc_sl, List.getD_cons_succ, List.getD_cons_zero, List.set_cons_succ, List.set_cons_zero, List.map_cons, List.map_nil, List.all_cons, List.all_nil, lenA, indexAddrA, natA_int, List.take_of_length_le, binA_lss, binA_add, ↓ev_nilD, ↓ev_block, ↓ev_loop, ↓ev_exit, loudA, rdOp, freeA, nc_lit, nc_sl, nc_agg, nc_eptr, nc_loc, nc_fn, weak, weakA, weak1, goD, setCells, setCellOf, convA, ↓ends_bool, Option.getD_some, Option.getD_none, Option.bind_some, Option.bind_none, Option.map_none, Option.some.injEq, and_true, true_and, and_self, and_false, false_and, or_true, true_or, or_false, false_or, or_self, not_true_eq_false, not_false_eq_true, implies_true, forall_eq, forall_const, ite_self, ↓reduceIte, reduceCtorEq, decide_true, decide_false, decide_eq_true_eq, decide_eq_false_iff_not, Bool.not_true, Bool.not_false, Bool.and_self, Bool.and_true, Bool.true_and, Bool.and_false, Bool.false_and, Bool.false_eq_true, Bool.true_eq_false, Bool.not_eq_true, beq_true, beq_false, BEq.rfl, beq_self_eq_true, List.length_cons, List.length_nil, List.take_zero, List.take_succ_cons, List.take_nil, List.drop_zero, List.drop_succ_cons, List.drop_nil, List.append_nil, List.nil_append, List.cons_append, List.append_eq, List.mem_cons, List.not_mem_nil, List.contains_nil, List.contains_eq_mem, List.elem_nil, List.find?_nil, List.flatMap_nil, List.flatMap_cons, List.getElem?_toArray, List.getElem?_cons_zero, List.getElem?_cons_succ, List.getElem?_nil, Std.le_refl, Nat.le_refl, Nat.zero_le, Nat.lt_add_one, Nat.zero_add, Nat.add_zero, Nat.reduceAdd, Nat.reduceLT, Nat.reduceLeDiff, Nat.reduceEqDiff, Nat.reduceMul, Nat.mul_one, Nat.zero_mul, Int.natCast_add, Int.cast_ofNat_Int, Int.lt_irrefl, Nat.le_add_left, List.getD_nil, if_false, not_not, ite_not, List.map_nil, Option.isSome_some, List.reverse_nil, ends_env, loopIn, loopsOf, List.cons.injEq, AV.lit.injEq, AV.sl.injEq, Value.int.injEq, Value.bool.injEq, Value.string.injEq, eq_self, iff_self, decide_eq_decide, if_true, ↓ev_op, ↓ev_opDn, ↓ev_opg, ↓ev_opDg, ↓br_dec, ag2, ag44, ag45, ag46, ag61, ag64, ag66, ag9, en13, en14, en15, en16, en17, fi48_0, fi48_1, fi48_2, fi48_3, fi48_4, fi48_5, fi66_0, fi66_1, fi66_2, sz2, sz41, sz44, sz45, sz46, sz61, sz64, sz66, sz9, un45, ↓ev_drawn dr0, okl_cons, okl_nil, okc_str, okc_bool, okc_int, okc_sl, hlt, hx, hy, wrap_small hbd, hu, wp0, wq0, wp1, wq1, wp2, wq2, wp3, wq3, wp4, wq4, wp5, wq5, wp6, wq6, hc14, hc15, hc16, hc17, hxy]
      exact ihh _ _ _ _ _ _ _ _ _ _ _ _ _ _ _ _ _ _ _ _ _ _ _ _ _ _ _ _ _ _ _ _ _ _ _ _ _ _ _ _ _ _ _ _ _ _ _ _ _ _ _ _ _ _ _ _ _ _ _ _ _ _ _ _ _ _ _ _ _ _ _ _ _ _ _ _ _ _ _ _ _ _ _ _ _ _ _ _ _ _ _ _ _ _ _ _ _ _ rfl rfl rfl rfl rfl rfl rfl rfl rfl rfl rfl rfl rfl rfl rfl rfl rfl rfl rfl rfl rfl rfl rfl rfl rfl rfl rfl rfl rfl rfl rfl rfl rfl rfl rfl rfl rfl rfl rfl rfl rfl rfl rfl rfl rfl
    · have h2h := h2h hxy
      simp only [List.cons.injEq, AV.lit.injEq, Value.int.injEq, Value.string.injEq, Value.bool.injEq, AV.sl.injEq, true_and, and_true] at hxy
      simp (config := {contextual := true, maxSteps := 3000000, dsimp := false}) only [loopIn, loopsOf, Tryz.f5, ↓ev_seq, ↓ev_region, ↓ev_nil, ↓get8, ↓set8, ↓st_op, ↓st_load, ↓ev_cond, ↓ev_skip, ↓ev_ret, ↓ev_end, ↓ends_env, ↓ends_bool, ↓ends_av, ↓ends_avs, ↓br_true, ↓br_false, ↓br_not, ↓br_or, ↓br_and, ↓br_beq_true, ↓br_beq_false, Option.map_some, ↓ends_bind, condA, wantA, Env.tr, trOf, evStep, evPure, evRead, callStep, snaps, snap, snap1, snapL, plainL, plain1, Env.made, home, homeA, home1, owned, ownedA, owned1, lookN, Env.get, Env.put, Env.clean, view, AV.cells, AV.one, ptrAdd, Env.cellAt, cellOf, c1_lit, c1_sh, c1_ex, c1_ow, c1_loc, c1_mrow, c1_eptr, c1_junk, cl_lit, cl_sh, cl_ex, cl_ow, cl_loc, cl_mrow, cl_eptr, cl_junk, cl_agg, cl_fn, cl_cell, cl_row, cl_tup, ca_lit, ca_sh, ca_ex, ca_ow, ca_agg, ofConst, Value.oneCell', resL, resV, fin, finA, fin1, unA, binA_eql, binA_neq, binA_seql, binA_sneq, binA_bneq un4, binA_beql un4, okl_cons, okl_nil, okc_str, okc_bool, okc_int, okc_sl, List.getD_cons_succ, List.getD_cons_zero, List.set_cons_succ, List.set_cons_zero, List.map_cons, List.map_nil, List.all_cons, List.all_nil, lenA, indexAddrA, natA_int, List.take_of_length_le, binA_lss, binA_add, ↓ev_nilD, ↓ev_block, ↓ev_loop, ↓ev_exit, loudA, rdOp, freeA, nc_lit, nc_sl, nc_agg, nc_eptr, nc_loc, nc_fn, weak, weakA, weak1, goD, setCells, setCellOf, convA, ↓ends_bool, Option.getD_some, Option.getD_none, Option.bind_some, Option.bind_none, Option.map_none, Option.some.injEq, and_true, true_and, and_self, and_false, false_and, or_true, true_or, or_false, false_or, or_self, not_true_eq_false, not_false_eq_true, implies_true, forall_eq, forall_const, ite_self, ↓reduceIte, reduceCtorEq, decide_true, decide_false, decide_eq_true_eq, decide_eq_false_iff_not, Bool.not_true, Bool.not_false, Bool.and_self, Bool.and_true, Bool.true_and, Bool.and_false, Bool.false_and, Bool.false_eq_true, Bool.true_eq_false, Bool.not_eq_true, beq_true, beq_false, BEq.rfl, beq_self_eq_true, List.length_cons, List.length_nil, List.take_zero, List.take_succ_cons, List.take_nil, List.drop_zero, List.drop_succ_cons, List.drop_nil, List.append_nil, List.nil_append, List.cons_append, List.append_eq, List.mem_cons, List.not_mem_nil, List.contains_nil, List.contains_eq_mem, List.elem_nil, List.find?_nil, List.flatMap_nil, List.flatMap_cons, List.getElem?_toArray, List.getElem?_cons_zero, List.getElem?_cons_succ, List.getElem?_nil, Std.le_refl, Nat.le_refl, Nat.zero_le, Nat.lt_add_one, Nat.zero_add, Nat.add_zero, Nat.reduceAdd, Nat.reduceLT, Nat.reduceLeDiff, Nat.reduceEqDiff, Nat.reduceMul, Nat.mul_one, Nat.zero_mul, Int.natCast_add, Int.cast_ofNat_Int, Int.lt_irrefl, Nat.le_add_left, List.getD_nil, if_false, not_not, ite_not, List.map_nil, Option.isSome_some, List.reverse_nil, ends_env, loopIn, loopsOf, List.cons.injEq, AV.lit.injEq, AV.sl.injEq, Value.int.injEq, Value.bool.injEq, Value.string.injEq, eq_self, iff_self, decide_eq_decide, if_true, ↓ev_op, ↓ev_opDn, ↓ev_opg, ↓ev_opDg, ↓br_dec, ag2, ag44, ag45, ag46, ag61, ag64, ag66, ag9, en13, en14, en15, en16, en17, fi48_0, fi48_1, fi48_2, fi48_3, fi48_4, fi48_5, fi66_0, fi66_1, fi66_2, sz2, sz41, sz44, sz45, sz46, sz61, sz64, sz66, sz9, un45, ↓ev_drawn dr0, okl_cons, okl_nil, okc_str, okc_bool, okc_int, okc_sl, hlt, hx, hy, wrap_small hbd, hu, wp0, wq0, wp1, wq1, wp2, wq2, wp3, wq3, wp4, wq4, wp5, wq5, wp6, wq6, hc14, hc15, hc16, hc17, h2h, hxy]
      all_goals (try simp (config := {contextual := true}))
      all_goals grind
theorem same5 (call : FuncId → List AV → Option AV)
    (hc13 : ∀ x y rx ry, OkL lay41 x → OkL lay41 y → call 13 [.eptr (x ++ rx), .eptr (y ++ ry)] = some (.lit (.bool (decide (x = y)))))
    (hc14 : ∀ x y, OkL lay44 x → OkL lay44 y → call 14 [.agg x, .agg y] = some (.lit (.bool (decide (x = y)))))
    (hc15 : ∀ x y, OkR lay102 x → OkR lay102 y → call 15 [.sl .sh x, .sl .sh y] = some (.lit (.bool (decide (x = y)))))
    (hc16 : ∀ x y, OkL lay61 x → OkL lay61 y → call 16 [.agg x, .agg y] = some (.lit (.bool (decide (x = y)))))
    (hc17 : ∀ x y, OkL lay64 x → OkL lay64 y → call 17 [.agg x, .agg y] = some (.lit (.bool (decide (x = y)))))
    {x y : List AV} (hx : OkL lay48 x) (hy : OkL lay48 y) : ∃ m, evBody Tryz.prog call m Tryz.f5 [.agg x, .agg y] = some (.lit (.bool (decide (x = y)))) := by
  obtain ⟨c, r, rfl, hc, tx0⟩ := hx.cons_inv
  obtain ⟨x0, rfl, wx0⟩ := hc.int_inv
  obtain ⟨c, r, rfl, hc, tx1⟩ := tx0.cons_inv
  obtain ⟨x1, rfl, wx1⟩ := hc.int_inv
  obtain ⟨c, r, rfl, hc, tx2⟩ := tx1.cons_inv
  obtain ⟨x2, rfl, wx2⟩ := hc.int_inv
  obtain ⟨c, r, rfl, hc, tx3⟩ := tx2.cons_inv
  obtain ⟨x3, rfl, wx3⟩ := hc.int_inv
  obtain ⟨c, r, rfl, hc, tx4⟩ := tx3.cons_inv
  obtain ⟨x4, rfl, wx4⟩ := hc.int_inv
  obtain ⟨c, r, rfl, hc, tx5⟩ := tx4.cons_inv
  obtain ⟨x5, rfl, wx5⟩ := hc.int_inv
  obtain ⟨c, r, rfl, hc, tx6⟩ := tx5.cons_inv
  obtain ⟨x6, rfl, wx6⟩ := hc.int_inv
  obtain ⟨c, r, rfl, hc, tx7⟩ := tx6.cons_inv
  obtain ⟨x7, rfl, wx7⟩ := hc.int_inv
  obtain ⟨c, r, rfl, hc, tx8⟩ := tx7.cons_inv
  obtain ⟨x8, rfl, wx8⟩ := hc.sl_inv
  obtain ⟨c, r, rfl, hc, tx9⟩ := tx8.cons_inv
  obtain ⟨x9, rfl, wx9⟩ := hc.int_inv
  obtain ⟨c, r, rfl, hc, tx10⟩ := tx9.cons_inv
  obtain ⟨x10, rfl, wx10⟩ := hc.int_inv
  obtain ⟨c, r, rfl, hc, tx11⟩ := tx10.cons_inv
  obtain ⟨x11, rfl, wx11⟩ := hc.int_inv
  obtain ⟨c, r, rfl, hc, tx12⟩ := tx11.cons_inv
  obtain ⟨x12, rfl, wx12⟩ := hc.int_inv
  obtain ⟨c, r, rfl, hc, tx13⟩ := tx12.cons_inv
  obtain ⟨x13, rfl, wx13⟩ := hc.int_inv
  obtain ⟨c, r, rfl, hc, tx14⟩ := tx13.cons_inv
  obtain ⟨x14, rfl, wx14⟩ := hc.int_inv
  obtain ⟨c, r, rfl, hc, tx15⟩ := tx14.cons_inv
  obtain ⟨x15, rfl, wx15⟩ := hc.int_inv
  obtain ⟨c, r, rfl, hc, tx16⟩ := tx15.cons_inv
  obtain ⟨x16, rfl, wx16⟩ := hc.int_inv
  obtain ⟨c, r, rfl, hc, tx17⟩ := tx16.cons_inv
  obtain ⟨x17, rfl, wx17⟩ := hc.int_inv
  obtain ⟨c, r, rfl, hc, tx18⟩ := tx17.cons_inv
  obtain ⟨x18, rfl, wx18⟩ := hc.int_inv
  obtain ⟨c, r, rfl, hc, tx19⟩ := tx18.cons_inv
  obtain ⟨x19, rfl, wx19⟩ := hc.int_inv
  obtain ⟨c, r, rfl, hc, tx20⟩ := tx19.cons_inv
  obtain ⟨x20, rfl, wx20⟩ := hc.int_inv
  obtain ⟨c, r, rfl, hc, tx21⟩ := tx20.cons_inv
  obtain ⟨x21, rfl, wx21⟩ := hc.sl_inv
  obtain ⟨c, r, rfl, hc, tx22⟩ := tx21.cons_inv
  obtain ⟨x22, rfl, wx22⟩ := hc.sl_inv
  obtain ⟨c, r, rfl, hc, tx23⟩ := tx22.cons_inv
  obtain ⟨x23, rfl, wx23⟩ := hc.sl_inv
  obtain ⟨c, r, rfl, hc, tx24⟩ := tx23.cons_inv
  obtain ⟨x24, rfl, wx24⟩ := hc.sl_inv
  have := tx24.nil_inv; subst this
  obtain ⟨c, r, rfl, hc, ty0⟩ := hy.cons_inv
  obtain ⟨y0, rfl, wy0⟩ := hc.int_inv
  obtain ⟨c, r, rfl, hc, ty1⟩ := ty0.cons_inv
  obtain ⟨y1, rfl, wy1⟩ := hc.int_inv
  obtain ⟨c, r, rfl, hc, ty2⟩ := ty1.cons_inv
  obtain ⟨y2, rfl, wy2⟩ := hc.int_inv
  obtain ⟨c, r, rfl, hc, ty3⟩ := ty2.cons_inv
  obtain ⟨y3, rfl, wy3⟩ := hc.int_inv
  obtain ⟨c, r, rfl, hc, ty4⟩ := ty3.cons_inv
  obtain ⟨y4, rfl, wy4⟩ := hc.int_inv
  obtain ⟨c, r, rfl, hc, ty5⟩ := ty4.cons_inv
  obtain ⟨y5, rfl, wy5⟩ := hc.int_inv
  obtain ⟨c, r, rfl, hc, ty6⟩ := ty5.cons_inv
  obtain ⟨y6, rfl, wy6⟩ := hc.int_inv
  obtain ⟨c, r, rfl, hc, ty7⟩ := ty6.cons_inv
  obtain ⟨y7, rfl, wy7⟩ := hc.int_inv
  obtain ⟨c, r, rfl, hc, ty8⟩ := ty7.cons_inv
  obtain ⟨y8, rfl, wy8⟩ := hc.sl_inv
  obtain ⟨c, r, rfl, hc, ty9⟩ := ty8.cons_inv
  obtain ⟨y9, rfl, wy9⟩ := hc.int_inv
  obtain ⟨c, r, rfl, hc, ty10⟩ := ty9.cons_inv
  obtain ⟨y10, rfl, wy10⟩ := hc.int_inv
  obtain ⟨c, r, rfl, hc, ty11⟩ := ty10.cons_inv
  obtain ⟨y11, rfl, wy11⟩ := hc.int_inv
  obtain ⟨c, r, rfl, hc, ty12⟩ := ty11.cons_inv
  obtain ⟨y12, rfl, wy12⟩ := hc.int_inv
  obtain ⟨c, r, rfl, hc, ty13⟩ := ty12.cons_inv
  obtain ⟨y13, rfl, wy13⟩ := hc.int_inv
  obtain ⟨c, r, rfl, hc, ty14⟩ := ty13.cons_inv
  obtain ⟨y14, rfl, wy14⟩ := hc.int_inv
  obtain ⟨c, r, rfl, hc, ty15⟩ := ty14.cons_inv
  obtain ⟨y15, rfl, wy15⟩ := hc.int_inv
  obtain ⟨c, r, rfl, hc, ty16⟩ := ty15.cons_inv
  obtain ⟨y16, rfl, wy16⟩ := hc.int_inv
  obtain ⟨c, r, rfl, hc, ty17⟩ := ty16.cons_inv
  obtain ⟨y17, rfl, wy17⟩ := hc.int_inv
  obtain ⟨c, r, rfl, hc, ty18⟩ := ty17.cons_inv
  obtain ⟨y18, rfl, wy18⟩ := hc.int_inv
  obtain ⟨c, r, rfl, hc, ty19⟩ := ty18.cons_inv
  obtain ⟨y19, rfl, wy19⟩ := hc.int_inv
  obtain ⟨c, r, rfl, hc, ty20⟩ := ty19.cons_inv
  obtain ⟨y20, rfl, wy20⟩ := hc.int_inv
  obtain ⟨c, r, rfl, hc, ty21⟩ := ty20.cons_inv
  obtain ⟨y21, rfl, wy21⟩ := hc.sl_inv
  obtain ⟨c, r, rfl, hc, ty22⟩ := ty21.cons_inv
  obtain ⟨y22, rfl, wy22⟩ := hc.sl_inv
  obtain ⟨c, r, rfl, hc, ty23⟩ := ty22.cons_inv
  obtain ⟨y23, rfl, wy23⟩ := hc.sl_inv
  obtain ⟨c, r, rfl, hc, ty24⟩ := ty23.cons_inv
  obtain ⟨y24, rfl, wy24⟩ := hc.sl_inv
  have := ty24.nil_inv; subst this
  have p13_0 := hc13 [.lit (.int .i64 x0), .lit (.int .i64 x1), .lit (.int .i64 x2), .lit (.int .i64 x3), .lit (.int .i64 x4), .lit (.int .i64 x5), .lit (.int .i64 x6), .lit (.int .i64 x7), .sl .sh x8, .lit (.int .i64 x9), .lit (.int .i64 x10), .lit (.int .i64 x11), .lit (.int .i64 x12), .lit (.int .i64 x13), .lit (.int .i64 x14), .lit (.int .i64 x15), .lit (.int .i64 x16)] [.lit (.int .i64 y0), .lit (.int .i64 y1), .lit (.int .i64 y2), .lit (.int .i64 y3), .lit (.int .i64 y4), .lit (.int .i64 y5), .lit (.int .i64 y6), .lit (.int .i64 y7), .sl .sh y8, .lit (.int .i64 y9), .lit (.int .i64 y10), .lit (.int .i64 y11), .lit (.int .i64 y12), .lit (.int .i64 y13), .lit (.int .i64 y14), .lit (.int .i64 y15), .lit (.int .i64 y16)] [.lit (.int .i64 x17), .lit (.int .i64 x18), .lit (.int .i64 x19), .lit (.int .i64 x20), .sl .sh x21, .sl .sh x22, .sl .sh x23, .sl .sh x24] [.lit (.int .i64 y17), .lit (.int .i64 y18), .lit (.int .i64 y19), .lit (.int .i64 y20), .sl .sh y21, .sl .sh y22, .sl .sh y23, .sl .sh y24] (by simp [okl_cons, okl_nil, okc_str, okc_bool, okc_int, okc_sl, wx0, wy0, wx1, wy1, wx2, wy2, wx3, wy3, wx4, wy4, wx5, wy5, wx6, wy6, wx7, wy7, wx8, wy8, wx9, wy9, wx10, wy10, wx11, wy11, wx12, wy12, wx13, wy13, wx14, wy14, wx15, wy15, wx16, wy16, wx17, wy17, wx18, wy18, wx19, wy19, wx20, wy20, wx21, wy21, wx22, wy22, wx23, wy23, wx24, wy24]) (by simp [okl_cons, okl_nil, okc_str, okc_bool, okc_int, okc_sl, wx0, wy0, wx1, wy1, wx2, wy2, wx3, wy3, wx4, wy4, wx5, wy5, wx6, wy6, wx7, wy7, wx8, wy8, wx9, wy9, wx10, wy10, wx11, wy11, wx12, wy12, wx13, wy13, wx14, wy14, wx15, wy15, wx16, wy16, wx17, wy17, wx18, wy18, wx19, wy19, wx20, wy20, wx21, wy21, wx22, wy22, wx23, wy23, wx24, wy24])
  simp only [List.cons_append, List.nil_append] at p13_0
  refine ⟨x23.length + 1, ?_⟩
  apply ends_eq
  rw [ev_body (c := _) rfl]
  rw [show entry Tryz.f5 [.agg [.lit (.int .i64 x0), .lit (.int .i64 x1), .lit (.int .i64 x2), .lit (.int .i64 x3), .lit (.int .i64 x4), .lit (.int .i64 x5), .lit (.int .i64 x6), .lit (.int .i64 x7), .sl .sh x8, .lit (.int .i64 x9), .lit (.int .i64 x10), .lit (.int .i64 x11), .lit (.int .i64 x12), .lit (.int .i64 x13), .lit (.int .i64 x14), .lit (.int .i64 x15), .lit (.int .i64 x16), .lit (.int .i64 x17), .lit (.int .i64 x18), .lit (.int .i64 x19), .lit (.int .i64 x20), .sl .sh x21, .sl .sh x22, .sl .sh x23, .sl .sh x24], .agg [.lit (.int .i64 y0), .lit (.int .i64 y1), .lit (.int .i64 y2), .lit (.int .i64 y3), .lit (.int .i64 y4), .lit (.int .i64 y5), .lit (.int .i64 y6), .lit (.int .i64 y7), .sl .sh y8, .lit (.int .i64 y9), .lit (.int .i64 y10), .lit (.int .i64 y11), .lit (.int .i64 y12), .lit (.int .i64 y13), .lit (.int .i64 y14), .lit (.int .i64 y15), .lit (.int .i64 y16), .lit (.int .i64 y17), .lit (.int .i64 y18), .lit (.int .i64 y19), .lit (.int .i64 y20), .sl .sh y21, .sl .sh y22, .sl .sh y23, .sl .sh y24]] = { s := [.agg [.lit (.int .i64 x0), .lit (.int .i64 x1), .lit (.int .i64 x2), .lit (.int .i64 x3), .lit (.int .i64 x4), .lit (.int .i64 x5), .lit (.int .i64 x6), .lit (.int .i64 x7), .sl .sh x8, .lit (.int .i64 x9), .lit (.int .i64 x10), .lit (.int .i64 x11), .lit (.int .i64 x12), .lit (.int .i64 x13), .lit (.int .i64 x14), .lit (.int .i64 x15), .lit (.int .i64 x16), .lit (.int .i64 x17), .lit (.int .i64 x18), .lit (.int .i64 x19), .lit (.int .i64 x20), .sl .sh x21, .sl .sh x22, .sl .sh x23, .sl .sh x24], .agg [.lit (.int .i64 y0), .lit (.int .i64 y1), .lit (.int .i64 y2), .lit (.int .i64 y3), .lit (.int .i64 y4), .lit (.int .i64 y5), .lit (.int .i64 y6), .lit (.int .i64 y7), .sl .sh y8, .lit (.int .i64 y9), .lit (.int .i64 y10), .lit (.int .i64 y11), .lit (.int .i64 y12), .lit (.int .i64 y13), .lit (.int .i64 y14), .lit (.int .i64 y15), .lit (.int .i64 y16), .lit (.int .i64 y17), .lit (.int .i64 y18), .lit (.int .i64 y19), .lit (.int .i64 y20), .sl .sh y21, .sl .sh y22, .sl .sh y23, .sl .sh y24], .undef, .undef, .undef, .undef, .undef, .undef, .undef, .undef, .undef, .undef, .undef, .undef, .undef, .undef, .undef, .undef, .undef, .undef, .undef, .undef, .undef, .undef, .undef, .undef, .undef, .undef, .undef, .undef, .undef, .undef, .undef, .undef, .undef, .undef, .undef, .undef, .undef, .undef, .undef, .undef, .undef, .undef, .undef, .undef, .undef, .undef, .undef, .undef, .undef, .undef, .undef, .undef, .undef, .undef, .undef, .undef, .undef, .undef, .undef, .undef, .undef, .undef, .undef, .undef, .undef, .undef, .undef, .undef, .undef, .undef, .undef, .undef, .undef, .undef, .undef, .undef, .undef, .undef, .undef, .undef, .undef, .undef, .undef, .undef, .undef, .undef, .undef, .undef, .undef, .undef, .undef, .undef, .undef, .undef, .undef, .undef, .undef, .undef, .undef], live := fun _ _ => none } from rfl]
  by_cases hall : (x0 = y0 ∧ x1 = y1 ∧ x2 = y2 ∧ x3 = y3 ∧ x4 = y4 ∧ x5 = y5 ∧ x6 = y6 ∧ x7 = y7 ∧ x8 = y8 ∧ x9 = y9 ∧ x10 = y10 ∧ x11 = y11 ∧ x12 = y12 ∧ x13 = y13 ∧ x14 = y14 ∧ x15 = y15 ∧ x16 = y16 ∧ x17 = y17 ∧ x18 = y18 ∧ x19 = y19 ∧ x20 = y20 ∧ x21 = y21 ∧ x22 = y22 ∧ x24 = y24) ∧ x23.length = y23.length
  · obtain ⟨⟨rfl, rfl, rfl, rfl, rfl, rfl, rfl, rfl, rfl, rfl, rfl, rfl, rfl, rfl, rfl, rfl, rfl, rfl, rfl, rfl, rfl, rfl, rfl, rfl⟩, hl⟩ := hall
    have hl' : ((x23.length : Int) = (y23.length : Int)) := by omega
    simp [Tryz.f5, ↓ev_seq, ↓ev_region, ↓ev_nil, ↓get8, ↓set8, ↓st_op, ↓st_load, ↓ev_cond, ↓ev_skip, ↓ev_ret, ↓ev_end, ↓ends_env, ↓ends_bool, ↓ends_av, ↓ends_avs, ↓br_true, ↓br_false, ↓br_not, ↓br_or, ↓br_and, ↓br_beq_true, ↓br_beq_false, Option.map_some, ↓ends_bind, condA, wantA, Env.tr, trOf, evStep, evPure, evRead, callStep, snaps, snap, snap1, snapL, plainL, plain1, Env.made, home, homeA, home1, owned, ownedA, owned1, lookN, Env.get, Env.put, Env.clean, view, AV.cells, AV.one, ptrAdd, Env.cellAt, cellOf, c1_lit, c1_sh, c1_ex, c1_ow, c1_loc, c1_mrow, c1_eptr, c1_junk, cl_lit, cl_sh, cl_ex, cl_ow, cl_loc, cl_mrow, cl_eptr, cl_junk, cl_agg, cl_fn, cl_cell, cl_row, cl_tup, ca_lit, ca_sh, ca_ex, ca_ow, ca_agg, ofConst, Value.oneCell', resL, resV, fin, finA, fin1, unA, binA_eql, binA_neq, binA_seql, binA_sneq, binA_bneq un4, binA_beql un4, okl_cons, okl_nil, okc_str, okc_bool, okc_int, okc_sl, List.getD_cons_succ, List.getD_cons_zero, List.set_cons_succ, List.set_cons_zero, List.map_cons, List.map_nil, List.all_cons, List.all_nil, lenA, indexAddrA, natA_int, List.take_of_length_le, binA_lss, binA_add, ↓ev_nilD, ↓ev_block, ↓ev_loop, ↓ev_exit, loudA, rdOp, freeA, nc_lit, nc_sl, nc_agg, nc_eptr, nc_loc, nc_fn, weak, weakA, weak1, goD, setCells, setCellOf, convA, ↓ends_bool, Option.getD_some, Option.getD_none, Option.bind_some, Option.bind_none, Option.map_none, Option.some.injEq, and_true, true_and, and_self, and_false, false_and, or_true, true_or, or_false, false_or, or_self, not_true_eq_false, not_false_eq_true, implies_true, forall_eq, forall_const, ite_self, ↓reduceIte, reduceCtorEq, decide_true, decide_false, decide_eq_true_eq, decide_eq_false_iff_not, Bool.not_true, Bool.not_false, Bool.and_self, Bool.and_true, Bool.true_and, Bool.and_false, Bool.false_and, Bool.false_eq_true, Bool.true_eq_false, Bool.not_eq_true, beq_true, beq_false, BEq.rfl, beq_self_eq_true, List.length_cons, List.length_nil, List.take_zero, List.take_succ_cons, List.take_nil, List.drop_zero, List.drop_succ_cons, List.drop_nil, List.append_nil, List.nil_append, List.cons_append, List.append_eq, List.mem_cons, List.not_mem_nil, List.contains_nil, List.contains_eq_mem, List.elem_nil, List.find?_nil, List.flatMap_nil, List.flatMap_cons, List.getElem?_toArray, List.getElem?_cons_zero, List.getElem?_cons_succ, List.getElem?_nil, Std.le_refl, Nat.le_refl, Nat.zero_le, Nat.lt_add_one, Nat.zero_add, Nat.add_zero, Nat.reduceAdd, Nat.reduceLT, Nat.reduceLeDiff, Nat.reduceEqDiff, Nat.reduceMul, Nat.mul_one, Nat.zero_mul, Int.natCast_add, Int.cast_ofNat_Int, Int.lt_irrefl, Nat.le_add_left, List.getD_nil, if_false, not_not, ite_not, List.map_nil, Option.isSome_some, List.reverse_nil, ends_env, loopIn, loopsOf, List.cons.injEq, AV.lit.injEq, AV.sl.injEq, Value.int.injEq, Value.bool.injEq, Value.string.injEq, eq_self, iff_self, decide_eq_decide, if_true, ↓ev_op, ↓ev_opDn, ↓ev_opg, ↓ev_opDg, ↓br_dec, ag2, ag44, ag45, ag46, ag61, ag64, ag66, ag9, en13, en14, en15, en16, en17, fi48_0, fi48_1, fi48_2, fi48_3, fi48_4, fi48_5, fi66_0, fi66_1, fi66_2, sz2, sz41, sz44, sz45, sz46, sz61, sz64, sz66, sz9, un45, okl_cons, okl_nil, okc_str, okc_bool, okc_int, okc_sl, hl', hc14, hc15, hc16, hc17, wx0, wy0, wx1, wy1, wx2, wy2, wx3, wy3, wx4, wy4, wx5, wy5, wx6, wy6, wx7, wy7, wx8, wy8, wx9, wy9, wx10, wy10, wx11, wy11, wx12, wy12, wx13, wy13, wx14, wy14, wx15, wy15, wx16, wy16, wx17, wy17, wx18, wy18, wx19, wy19, wx20, wy20, wx21, wy21, wx22, wy22, wx23, wy23, wx24, wy24, p13_0]
    try simp only [← hl']
    refine lp5 call _ hc13 hc14 hc15 hc16 hc17 rfl wx0 wx1 wx2 wx3 wx4 wx5 wx6 wx7 wx8 wx9 wx10 wx11 wx12 wx13 wx14 wx15 wx16 wx17 wx18 wx19 wx20 wx21 wx22 wx23 wx24 wy0 wy1 wy2 wy3 wy4 wy5 wy6 wy7 wy8 wy9 wy10 wy11 wy12 wy13 wy14 wy15 wy16 wy17 wy18 wy19 wy20 wy21 wy22 wy23 wy24 hl (fun lv ui u0 u1 u6 u7 u8 u9 u10 u11 u12 u13 u14 u15 u16 u17 u18 u19 u20 u21 u22 u23 u24 u25 u26 u27 u28 u29 u30 u31 u32 u33 u34 u35 u36 u37 u38 u39 u40 u41 u42 u43 u44 u45 u46 u47 u48 u49 u50 u51 u52 u53 u54 u55 u56 u57 u58 u59 u60 u61 u62 u63 u64 u65 u66 u67 u68 u69 u70 u71 u72 u73 u74 u75 u76 u77 u78 u79 u80 u81 u82 u83 u84 u85 u86 u87 u88 u89 u90 u91 u92 u93 u94 u95 u96 u97 u98 u99 u100 h => ?_) (fun E' h hn => ?_) x23.length _ 0 _ _ _ _ _ _ _ _ _ _ _ _ _ _ _ _ _ _ _ _ _ _ _ _ _ _ _ _ _ _ _ _ _ _ _ _ _ _ _ _ _ _ _ _ _ _ _ _ _ _ _ _ _ _ _ _ _ _ _ _ _ _ _ _ _ _ _ _ _ _ _ _ _ _ _ _ _ _ _ _ _ _ _ _ _ _ _ _ _ _ _ _ _ _ _ _ _ _ (by omega) (by omega) rfl (by simp [nc_lit])
    · simp [Tryz.f5, ↓ev_seq, ↓ev_region, ↓ev_nil, ↓get8, ↓set8, ↓st_op, ↓st_load, ↓ev_cond, ↓ev_skip, ↓ev_ret, ↓ev_end, ↓ends_env, ↓ends_bool, ↓ends_av, ↓ends_avs, ↓br_true, ↓br_false, ↓br_not, ↓br_or, ↓br_and, ↓br_beq_true, ↓br_beq_false, Option.map_some, ↓ends_bind, condA, wantA, Env.tr, trOf, evStep, evPure, evRead, callStep, snaps, snap, snap1, snapL, plainL, plain1, Env.made, home, homeA, home1, owned, ownedA, owned1, lookN, Env.get, Env.put, Env.clean, view, AV.cells, AV.one, ptrAdd, Env.cellAt, cellOf, c1_lit, c1_sh, c1_ex, c1_ow, c1_loc, c1_mrow, c1_eptr, c1_junk, cl_lit, cl_sh, cl_ex, cl_ow, cl_loc, cl_mrow, cl_eptr, cl_junk, cl_agg, cl_fn, cl_cell, cl_row, cl_tup, ca_lit, ca_sh, ca_ex, ca_ow, ca_agg, ofConst, Value.oneCell', resL, resV, fin, finA, fin1, unA, binA_eql, binA_neq, binA_seql, binA_sneq, binA_bneq un4, binA_beql un4, okl_cons, okl_nil, okc_str, okc_bool, okc_int, okc_sl, List.getD_cons_succ, List.getD_cons_zero, List.set_cons_succ, List.set_cons_zero, List.map_cons, List.map_nil, List.all_cons, List.all_nil, lenA, indexAddrA, natA_int, List.take_of_length_le, binA_lss, binA_add, ↓ev_nilD, ↓ev_block, ↓ev_loop, ↓ev_exit, loudA, rdOp, freeA, nc_lit, nc_sl, nc_agg, nc_eptr, nc_loc, nc_fn, weak, weakA, weak1, goD, setCells, setCellOf, convA, ↓ends_bool, Option.getD_some, Option.getD_none, Option.bind_some, Option.bind_none, Option.map_none, Option.some.injEq, and_true, true_and, and_self, and_false, false_and, or_true, true_or, or_false, false_or, or_self, not_true_eq_false, not_false_eq_true, implies_true, forall_eq, forall_const, ite_self, ↓reduceIte, reduceCtorEq, decide_true, decide_false, decide_eq_true_eq, decide_eq_false_iff_not, Bool.not_true, Bool.not_false, Bool.and_self, Bool.and_true, Bool.true_and, Bool.and_false, Bool.false_and, Bool.false_eq_true, Bool.true_eq_false, Bool.not_eq_true, beq_true, beq_false, BEq.rfl, beq_self_eq_true, List.length_cons, List.length_nil, List.take_zero, List.take_succ_cons, List.take_nil, List.drop_zero, List.drop_succ_cons, List.drop_nil, List.append_nil, List.nil_append, List.cons_append, List.append_eq, List.mem_cons, List.not_mem_nil, List.contains_nil, List.contains_eq_mem, List.elem_nil, List.find?_nil, List.flatMap_nil, List.flatMap_cons, List.getElem?_toArray, List.getElem?_cons_zero, List.getElem?_cons_succ, List.getElem?_nil, Std.le_refl, Nat.le_refl, Nat.zero_le, Nat.lt_add_one, Nat.zero_add, Nat.add_zero, Nat.reduceAdd, Nat.reduceLT, Nat.reduceLeDiff, Nat.reduceEqDiff, Nat.reduceMul, Nat.mul_one, Nat.zero_mul, Int.natCast_add, Int.cast_ofNat_Int, Int.lt_irrefl, Nat.le_add_left, List.getD_nil, if_false, not_not, ite_not, List.map_nil, Option.isSome_some, List.reverse_nil, ends_env, loopIn, loopsOf, List.cons.injEq, AV.lit.injEq, AV.sl.injEq, Value.int.injEq, Value.bool.injEq, Value.string.injEq, eq_self, iff_self, decide_eq_decide, if_true, ↓ev_op, ↓ev_opDn, ↓ev_opg, ↓ev_opDg, ↓br_dec, ag2, ag44, ag45, ag46, ag61, ag64, ag66, ag9, en13, en14, en15, en16, en17, fi48_0, fi48_1, fi48_2, fi48_3, fi48_4, fi48_5, fi66_0, fi66_1, fi66_2, sz2, sz41, sz44, sz45, sz46, sz61, sz64, sz66, sz9, un45, h]
    · simp [Tryz.f5, ↓ev_seq, ↓ev_region, ↓ev_nil, ↓get8, ↓set8, ↓st_op, ↓st_load, ↓ev_cond, ↓ev_skip, ↓ev_ret, ↓ev_end, ↓ends_env, ↓ends_bool, ↓ends_av, ↓ends_avs, ↓br_true, ↓br_false, ↓br_not, ↓br_or, ↓br_and, ↓br_beq_true, ↓br_beq_false, Option.map_some, ↓ends_bind, condA, wantA, Env.tr, trOf, evStep, evPure, evRead, callStep, snaps, snap, snap1, snapL, plainL, plain1, Env.made, home, homeA, home1, owned, ownedA, owned1, lookN, Env.get, Env.put, Env.clean, view, AV.cells, AV.one, ptrAdd, Env.cellAt, cellOf, c1_lit, c1_sh, c1_ex, c1_ow, c1_loc, c1_mrow, c1_eptr, c1_junk, cl_lit, cl_sh, cl_ex, cl_ow, cl_loc, cl_mrow, cl_eptr, cl_junk, cl_agg, cl_fn, cl_cell, cl_row, cl_tup, ca_lit, ca_sh, ca_ex, ca_ow, ca_agg, ofConst, Value.oneCell', resL, resV, fin, finA, fin1, unA, binA_eql, binA_neq, binA_seql, binA_sneq, binA_bneq un4, binA_beql un4, okl_cons, okl_nil, okc_str, okc_bool, okc_int, okc_sl, List.getD_cons_succ, List.getD_cons_zero, List.set_cons_succ, List.set_cons_zero, List.map_cons, List.map_nil, List.all_cons, List.all_nil, lenA, indexAddrA, natA_int, List.take_of_length_le, binA_lss, binA_add, ↓ev_nilD, ↓ev_block, ↓ev_loop, ↓ev_exit, loudA, rdOp, freeA, nc_lit, nc_sl, nc_agg, nc_eptr, nc_loc, nc_fn, weak, weakA, weak1, goD, setCells, setCellOf, convA, ↓ends_bool, Option.getD_some, Option.getD_none, Option.bind_some, Option.bind_none, Option.map_none, Option.some.injEq, and_true, true_and, and_self, and_false, false_and, or_true, true_or, or_false, false_or, or_self, not_true_eq_false, not_false_eq_true, implies_true, forall_eq, forall_const, ite_self, ↓reduceIte, reduceCtorEq, decide_true, decide_false, decide_eq_true_eq, decide_eq_false_iff_not, Bool.not_true, Bool.not_false, Bool.and_self, Bool.and_true, Bool.true_and, Bool.and_false, Bool.false_and, Bool.false_eq_true, Bool.true_eq_false, Bool.not_eq_true, beq_true, beq_false, BEq.rfl, beq_self_eq_true, List.length_cons, List.length_nil, List.take_zero, List.take_succ_cons, List.take_nil, List.drop_zero, List.drop_succ_cons, List.drop_nil, List.append_nil, List.nil_append, List.cons_append, List.append_eq, List.mem_cons, List.not_mem_nil, List.contains_nil, List.contains_eq_mem, List.elem_nil, List.find?_nil, List.flatMap_nil, List.flatMap_cons, List.getElem?_toArray, List.getElem?_cons_zero, List.getElem?_cons_succ, List.getElem?_nil, Std.le_refl, Nat.le_refl, Nat.zero_le, Nat.lt_add_one, Nat.zero_add, Nat.add_zero, Nat.reduceAdd, Nat.reduceLT, Nat.reduceLeDiff, Nat.reduceEqDiff, Nat.reduceMul, Nat.mul_one, Nat.zero_mul, Int.natCast_add, Int.cast_ofNat_Int, Int.lt_irrefl, Nat.le_add_left, List.getD_nil, if_false, not_not, ite_not, List.map_nil, Option.isSome_some, List.reverse_nil, ends_env, loopIn, loopsOf, List.cons.injEq, AV.lit.injEq, AV.sl.injEq, Value.int.injEq, Value.bool.injEq, Value.string.injEq, eq_self, iff_self, decide_eq_decide, if_true, ↓ev_op, ↓ev_opDn, ↓ev_opg, ↓ev_opDg, ↓br_dec, ag2, ag44, ag45, ag46, ag61, ag64, ag66, ag9, en13, en14, en15, en16, en17, fi48_0, fi48_1, fi48_2, fi48_3, fi48_4, fi48_5, fi66_0, fi66_1, fi66_2, sz2, sz41, sz44, sz45, sz46, sz61, sz64, sz66, sz9, un45, hn, h]
  · have hl' : ∀ a b : List (List AV), ((a.length : Int) = (b.length : Int)) = (a.length = b.length) := fun a b => propext ⟨fun h => by omega, fun h => by omega⟩
    have hlx : x23 = y23 → x23.length = y23.length := fun h => by rw [h]
    simp (config := {contextual := true, maxSteps := 3000000, dsimp := false}) only [Tryz.f5, ↓ev_seq, ↓ev_region, ↓ev_nil, ↓get8, ↓set8, ↓st_op, ↓st_load, ↓ev_cond, ↓ev_skip, ↓ev_ret, ↓ev_end, ↓ends_env, ↓ends_bool, ↓ends_av, ↓ends_avs, ↓br_true, ↓br_false, ↓br_not, ↓br_or, ↓br_and, ↓br_beq_true, ↓br_beq_false, Option.map_some, ↓ends_bind, condA, wantA, Env.tr, trOf, evStep, evPure, evRead, callStep, snaps, snap, snap1, snapL, plainL, plain1, Env.made, home, homeA, home1, owned, ownedA, owned1, lookN, Env.get, Env.put, Env.clean, view, AV.cells, AV.one, ptrAdd, Env.cellAt, cellOf, c1_lit, c1_sh, c1_ex, c1_ow, c1_loc, c1_mrow, c1_eptr, c1_junk, cl_lit, cl_sh, cl_ex, cl_ow, cl_loc, cl_mrow, cl_eptr, cl_junk, cl_agg, cl_fn, cl_cell, cl_row, cl_tup, ca_lit, ca_sh, ca_ex, ca_ow, ca_agg, ofConst, Value.oneCell', resL, resV, fin, finA, fin1, unA, binA_eql, binA_neq, binA_seql, binA_sneq, binA_bneq un4, binA_beql un4, okl_cons, okl_nil, okc_str, okc_bool, okc_int, okc_sl, List.getD_cons_succ, List.getD_cons_zero, List.set_cons_succ, List.set_cons_zero, List.map_cons, List.map_nil, List.all_cons, List.all_nil, lenA, indexAddrA, natA_int, List.take_of_length_le, binA_lss, binA_add, ↓ev_nilD, ↓ev_block, ↓ev_loop, ↓ev_exit, loudA, rdOp, freeA, nc_lit, nc_sl, nc_agg, nc_eptr, nc_loc, nc_fn, weak, weakA, weak1, goD, setCells, setCellOf, convA, ↓ends_bool, Option.getD_some, Option.getD_none, Option.bind_some, Option.bind_none, Option.map_none, Option.some.injEq, and_true, true_and, and_self, and_false, false_and, or_true, true_or, or_false, false_or, or_self, not_true_eq_false, not_false_eq_true, implies_true, forall_eq, forall_const, ite_self, ↓reduceIte, reduceCtorEq, decide_true, decide_false, decide_eq_true_eq, decide_eq_false_iff_not, Bool.not_true, Bool.not_false, Bool.and_self, Bool.and_true, Bool.true_and, Bool.and_false, Bool.false_and, Bool.false_eq_true, Bool.true_eq_false, Bool.not_eq_true, beq_true, beq_false, BEq.rfl, beq_self_eq_true, List.length_cons, List.length_nil, List.take_zero, List.take_succ_cons, List.take_nil, List.drop_zero, List.drop_succ_cons, List.drop_nil, List.append_nil, List.nil_append, List.cons_append, List.append_eq, List.mem_cons, List.not_mem_nil, List.contains_nil, List.contains_eq_mem, List.elem_nil, List.find?_nil, List.flatMap_nil, List.flatMap_cons, List.getElem?_toArray, List.getElem?_cons_zero, List.getElem?_cons_succ, List.getElem?_nil, Std.le_refl, Nat.le_refl, Nat.zero_le, Nat.lt_add_one, Nat.zero_add, Nat.add_zero, Nat.reduceAdd, Nat.reduceLT, Nat.reduceLeDiff, Nat.reduceEqDiff, Nat.reduceMul, Nat.mul_one, Nat.zero_mul, Int.natCast_add, Int.cast_ofNat_Int, Int.lt_irrefl, Nat.le_add_left, List.getD_nil, if_false, not_not, ite_not, List.map_nil, Option.isSome_some, List.reverse_nil, ends_env, loopIn, loopsOf, List.cons.injEq, AV.lit.injEq, AV.sl.injEq, Value.int.injEq, Value.bool.injEq, Value.string.injEq, eq_self, iff_self, decide_eq_decide, if_true, ↓ev_op, ↓ev_opDn, ↓ev_opg, ↓ev_opDg, ↓br_dec, ag2, ag44, ag45, ag46, ag61, ag64, ag66, ag9, en13, en14, en15, en16, en17, fi48_0, fi48_1, fi48_2, fi48_3, fi48_4, fi48_5, fi66_0, fi66_1, fi66_2, sz2, sz41, sz44, sz45, sz46, sz61, sz64, sz66, sz9, un45, okl_cons, okl_nil, okc_str, okc_bool, okc_int, okc_sl, hl', hc14, hc15, hc16, hc17, wx0, wy0, wx1, wy1, wx2, wy2, wx3, wy3, wx4, wy4, wx5, wy5, wx6, wy6, wx7, wy7, wx8, wy8, wx9, wy9, wx10, wy10, wx11, wy11, wx12, wy12, wx13, wy13, wx14, wy14, wx15, wy15, wx16, wy16, wx17, wy17, wx18, wy18, wx19, wy19, wx20, wy20, wx21, wy21, wx22, wy22, wx23, wy23, wx24, wy24, p13_0]
    all_goals (try simp (config := {contextual := true}))
    all_goals grind
theorem same7 (call : FuncId → List AV → Option AV) (m : Nat)
    (hc22 : ∀ x y, OkL lay41 x → OkL lay41 y → call 22 [.agg x, .agg y] = some (.lit (.bool (decide (x = y)))))
    (hc23 : ∀ x y, OkL lay44 x → OkL lay44 y → call 23 [.agg x, .agg y] = some (.lit (.bool (decide (x = y)))))
    (hc24 : ∀ x y, OkR lay66 x → OkR lay66 y → call 24 [.sl .sh x, .sl .sh y, .fn 25 []] = some (.lit (.bool (decide (x = y)))))
    (hc26 : ∀ x y, OkR lay102 x → OkR lay102 y → call 26 [.sl .sh x, .sl .sh y] = some (.lit (.bool (decide (x = y)))))
    {x y : List AV} (hx : OkL lay48 x) (hy : OkL lay48 y) : evBody Tryz.prog call m Tryz.f7 [.agg x, .agg y] = some (.lit (.bool (decide (x = y)))) := by
  obtain ⟨c, r, rfl, hc, tx0⟩ := hx.cons_inv
  obtain ⟨x0, rfl, wx0⟩ := hc.int_inv
  obtain ⟨c, r, rfl, hc, tx1⟩ := tx0.cons_inv
  obtain ⟨x1, rfl, wx1⟩ := hc.int_inv
  obtain ⟨c, r, rfl, hc, tx2⟩ := tx1.cons_inv
  obtain ⟨x2, rfl, wx2⟩ := hc.int_inv
  obtain ⟨c, r, rfl, hc, tx3⟩ := tx2.cons_inv
  obtain ⟨x3, rfl, wx3⟩ := hc.int_inv
  obtain ⟨c, r, rfl, hc, tx4⟩ := tx3.cons_inv
  obtain ⟨x4, rfl, wx4⟩ := hc.int_inv
  obtain ⟨c, r, rfl, hc, tx5⟩ := tx4.cons_inv
  obtain ⟨x5, rfl, wx5⟩ := hc.int_inv
  obtain ⟨c, r, rfl, hc, tx6⟩ := tx5.cons_inv
  obtain ⟨x6, rfl, wx6⟩ := hc.int_inv
  obtain ⟨c, r, rfl, hc, tx7⟩ := tx6.cons_inv
  obtain ⟨x7, rfl, wx7⟩ := hc.int_inv
  obtain ⟨c, r, rfl, hc, tx8⟩ := tx7.cons_inv
  obtain ⟨x8, rfl, wx8⟩ := hc.sl_inv
  obtain ⟨c, r, rfl, hc, tx9⟩ := tx8.cons_inv
  obtain ⟨x9, rfl, wx9⟩ := hc.int_inv
  obtain ⟨c, r, rfl, hc, tx10⟩ := tx9.cons_inv
  obtain ⟨x10, rfl, wx10⟩ := hc.int_inv
  obtain ⟨c, r, rfl, hc, tx11⟩ := tx10.cons_inv
  obtain ⟨x11, rfl, wx11⟩ := hc.int_inv
  obtain ⟨c, r, rfl, hc, tx12⟩ := tx11.cons_inv
  obtain ⟨x12, rfl, wx12⟩ := hc.int_inv
  obtain ⟨c, r, rfl, hc, tx13⟩ := tx12.cons_inv
  obtain ⟨x13, rfl, wx13⟩ := hc.int_inv
  obtain ⟨c, r, rfl, hc, tx14⟩ := tx13.cons_inv
  obtain ⟨x14, rfl, wx14⟩ := hc.int_inv
  obtain ⟨c, r, rfl, hc, tx15⟩ := tx14.cons_inv
  obtain ⟨x15, rfl, wx15⟩ := hc.int_inv
  obtain ⟨c, r, rfl, hc, tx16⟩ := tx15.cons_inv
  obtain ⟨x16, rfl, wx16⟩ := hc.int_inv
  obtain ⟨c, r, rfl, hc, tx17⟩ := tx16.cons_inv
  obtain ⟨x17, rfl, wx17⟩ := hc.int_inv
  obtain ⟨c, r, rfl, hc, tx18⟩ := tx17.cons_inv
  obtain ⟨x18, rfl, wx18⟩ := hc.int_inv
  obtain ⟨c, r, rfl, hc, tx19⟩ := tx18.cons_inv
  obtain ⟨x19, rfl, wx19⟩ := hc.int_inv
  obtain ⟨c, r, rfl, hc, tx20⟩ := tx19.cons_inv
  obtain ⟨x20, rfl, wx20⟩ := hc.int_inv
  obtain ⟨c, r, rfl, hc, tx21⟩ := tx20.cons_inv
  obtain ⟨x21, rfl, wx21⟩ := hc.sl_inv
  obtain ⟨c, r, rfl, hc, tx22⟩ := tx21.cons_inv
  obtain ⟨x22, rfl, wx22⟩ := hc.sl_inv
  obtain ⟨c, r, rfl, hc, tx23⟩ := tx22.cons_inv
  obtain ⟨x23, rfl, wx23⟩ := hc.sl_inv
  obtain ⟨c, r, rfl, hc, tx24⟩ := tx23.cons_inv
  obtain ⟨x24, rfl, wx24⟩ := hc.sl_inv
  have := tx24.nil_inv; subst this
  obtain ⟨c, r, rfl, hc, ty0⟩ := hy.cons_inv
  obtain ⟨y0, rfl, wy0⟩ := hc.int_inv
  obtain ⟨c, r, rfl, hc, ty1⟩ := ty0.cons_inv
  obtain ⟨y1, rfl, wy1⟩ := hc.int_inv
  obtain ⟨c, r, rfl, hc, ty2⟩ := ty1.cons_inv
  obtain ⟨y2, rfl, wy2⟩ := hc.int_inv
  obtain ⟨c, r, rfl, hc, ty3⟩ := ty2.cons_inv
  obtain ⟨y3, rfl, wy3⟩ := hc.int_inv
  obtain ⟨c, r, rfl, hc, ty4⟩ := ty3.cons_inv
  obtain ⟨y4, rfl, wy4⟩ := hc.int_inv
  obtain ⟨c, r, rfl, hc, ty5⟩ := ty4.cons_inv
  obtain ⟨y5, rfl, wy5⟩ := hc.int_inv
  obtain ⟨c, r, rfl, hc, ty6⟩ := ty5.cons_inv
  obtain ⟨y6, rfl, wy6⟩ := hc.int_inv
  obtain ⟨c, r, rfl, hc, ty7⟩ := ty6.cons_inv
  obtain ⟨y7, rfl, wy7⟩ := hc.int_inv
  obtain ⟨c, r, rfl, hc, ty8⟩ := ty7.cons_inv
  obtain ⟨y8, rfl, wy8⟩ := hc.sl_inv
  obtain ⟨c, r, rfl, hc, ty9⟩ := ty8.cons_inv
  obtain ⟨y9, rfl, wy9⟩ := hc.int_inv
  obtain ⟨c, r, rfl, hc, ty10⟩ := ty9.cons_inv
  obtain ⟨y10, rfl, wy10⟩ := hc.int_inv
  obtain ⟨c, r, rfl, hc, ty11⟩ := ty10.cons_inv
  obtain ⟨y11, rfl, wy11⟩ := hc.int_inv
  obtain ⟨c, r, rfl, hc, ty12⟩ := ty11.cons_inv
  obtain ⟨y12, rfl, wy12⟩ := hc.int_inv
  obtain ⟨c, r, rfl, hc, ty13⟩ := ty12.cons_inv
  obtain ⟨y13, rfl, wy13⟩ := hc.int_inv
  obtain ⟨c, r, rfl, hc, ty14⟩ := ty13.cons_inv
  obtain ⟨y14, rfl, wy14⟩ := hc.int_inv
  obtain ⟨c, r, rfl, hc, ty15⟩ := ty14.cons_inv
  obtain ⟨y15, rfl, wy15⟩ := hc.int_inv
  obtain ⟨c, r, rfl, hc, ty16⟩ := ty15.cons_inv
  obtain ⟨y16, rfl, wy16⟩ := hc.int_inv
  obtain ⟨c, r, rfl, hc, ty17⟩ := ty16.cons_inv
  obtain ⟨y17, rfl, wy17⟩ := hc.int_inv
  obtain ⟨c, r, rfl, hc, ty18⟩ := ty17.cons_inv
  obtain ⟨y18, rfl, wy18⟩ := hc.int_inv
  obtain ⟨c, r, rfl, hc, ty19⟩ := ty18.cons_inv
  obtain ⟨y19, rfl, wy19⟩ := hc.int_inv
  obtain ⟨c, r, rfl, hc, ty20⟩ := ty19.cons_inv
  obtain ⟨y20, rfl, wy20⟩ := hc.int_inv
  obtain ⟨c, r, rfl, hc, ty21⟩ := ty20.cons_inv
  obtain ⟨y21, rfl, wy21⟩ := hc.sl_inv
  obtain ⟨c, r, rfl, hc, ty22⟩ := ty21.cons_inv
  obtain ⟨y22, rfl, wy22⟩ := hc.sl_inv
  obtain ⟨c, r, rfl, hc, ty23⟩ := ty22.cons_inv
  obtain ⟨y23, rfl, wy23⟩ := hc.sl_inv
  obtain ⟨c, r, rfl, hc, ty24⟩ := ty23.cons_inv
  obtain ⟨y24, rfl, wy24⟩ := hc.sl_inv
  have := ty24.nil_inv; subst this
  apply ends_eq
  rw [ev_body (c := _) rfl]
  rw [show entry Tryz.f7 [.agg [.lit (.int .i64 x0), .lit (.int .i64 x1), .lit (.int .i64 x2), .lit (.int .i64 x3), .lit (.int .i64 x4), .lit (.int .i64 x5), .lit (.int .i64 x6), .lit (.int .i64 x7), .sl .sh x8, .lit (.int .i64 x9), .lit (.int .i64 x10), .lit (.int .i64 x11), .lit (.int .i64 x12), .lit (.int .i64 x13), .lit (.int .i64 x14), .lit (.int .i64 x15), .lit (.int .i64 x16), .lit (.int .i64 x17), .lit (.int .i64 x18), .lit (.int .i64 x19), .lit (.int .i64 x20), .sl .sh x21, .sl .sh x22, .sl .sh x23, .sl .sh x24], .agg [.lit (.int .i64 y0), .lit (.int .i64 y1), .lit (.int .i64 y2), .lit (.int .i64 y3), .lit (.int .i64 y4), .lit (.int .i64 y5), .lit (.int .i64 y6), .lit (.int .i64 y7), .sl .sh y8, .lit (.int .i64 y9), .lit (.int .i64 y10), .lit (.int .i64 y11), .lit (.int .i64 y12), .lit (.int .i64 y13), .lit (.int .i64 y14), .lit (.int .i64 y15), .lit (.int .i64 y16), .lit (.int .i64 y17), .lit (.int .i64 y18), .lit (.int .i64 y19), .lit (.int .i64 y20), .sl .sh y21, .sl .sh y22, .sl .sh y23, .sl .sh y24]] = { s := [.agg [.lit (.int .i64 x0), .lit (.int .i64 x1), .lit (.int .i64 x2), .lit (.int .i64 x3), .lit (.int .i64 x4), .lit (.int .i64 x5), .lit (.int .i64 x6), .lit (.int .i64 x7), .sl .sh x8, .lit (.int .i64 x9), .lit (.int .i64 x10), .lit (.int .i64 x11), .lit (.int .i64 x12), .lit (.int .i64 x13), .lit (.int .i64 x14), .lit (.int .i64 x15), .lit (.int .i64 x16), .lit (.int .i64 x17), .lit (.int .i64 x18), .lit (.int .i64 x19), .lit (.int .i64 x20), .sl .sh x21, .sl .sh x22, .sl .sh x23, .sl .sh x24], .agg [.lit (.int .i64 y0), .lit (.int .i64 y1), .lit (.int .i64 y2), .lit (.int .i64 y3), .lit (.int .i64 y4), .lit (.int .i64 y5), .lit (.int .i64 y6), .lit (.int .i64 y7), .sl .sh y8, .lit (.int .i64 y9), .lit (.int .i64 y10), .lit (.int .i64 y11), .lit (.int .i64 y12), .lit (.int .i64 y13), .lit (.int .i64 y14), .lit (.int .i64 y15), .lit (.int .i64 y16), .lit (.int .i64 y17), .lit (.int .i64 y18), .lit (.int .i64 y19), .lit (.int .i64 y20), .sl .sh y21, .sl .sh y22, .sl .sh y23, .sl .sh y24], .undef, .undef, .undef, .undef, .undef, .undef, .undef, .undef, .undef, .undef, .undef, .undef, .undef, .undef, .undef, .undef, .undef, .undef, .undef, .undef, .undef, .undef, .undef, .undef, .undef, .undef, .undef, .undef, .undef, .undef, .undef, .undef, .undef, .undef, .undef, .undef, .undef, .undef, .undef, .undef, .undef, .undef, .undef], live := fun _ _ => none } from rfl]
  simp (config := {contextual := true, maxSteps := 3000000, dsimp := false}) only [Tryz.f7, ↓ev_seq, ↓ev_region, ↓ev_nil, ↓get8, ↓set8, ↓st_op, ↓st_load, ↓ev_cond, ↓ev_skip, ↓ev_ret, ↓ev_end, ↓ends_env, ↓ends_bool, ↓ends_av, ↓ends_avs, ↓br_true, ↓br_false, ↓br_not, ↓br_or, ↓br_and, ↓br_beq_true, ↓br_beq_false, Option.map_some, ↓ends_bind, condA, wantA, Env.tr, trOf, evStep, evPure, evRead, callStep, snaps, snap, snap1, snapL, plainL, plain1, Env.made, home, homeA, home1, owned, ownedA, owned1, lookN, Env.get, Env.put, Env.clean, view, AV.cells, AV.one, ptrAdd, Env.cellAt, cellOf, c1_lit, c1_sh, c1_ex, c1_ow, c1_loc, c1_mrow, c1_eptr, c1_junk, cl_lit, cl_sh, cl_ex, cl_ow, cl_loc, cl_mrow, cl_eptr, cl_junk, cl_agg, cl_fn, cl_cell, cl_row, cl_tup, ca_lit, ca_sh, ca_ex, ca_ow, ca_agg, ofConst, Value.oneCell', resL, resV, fin, finA, fin1, unA, binA_eql, binA_neq, binA_seql, binA_sneq, binA_bneq un4, binA_beql un4, okl_cons, okl_nil, okc_str, okc_bool, okc_int, okc_sl, List.getD_cons_succ, List.getD_cons_zero, List.set_cons_succ, List.set_cons_zero, List.map_cons, List.map_nil, List.all_cons, List.all_nil, lenA, indexAddrA, natA_int, List.take_of_length_le, binA_lss, binA_add, ↓ev_nilD, ↓ev_block, ↓ev_loop, ↓ev_exit, loudA, rdOp, freeA, nc_lit, nc_sl, nc_agg, nc_eptr, nc_loc, nc_fn, weak, weakA, weak1, goD, setCells, setCellOf, convA, ↓ends_bool, Option.getD_some, Option.getD_none, Option.bind_some, Option.bind_none, Option.map_none, Option.some.injEq, and_true, true_and, and_self, and_false, false_and, or_true, true_or, or_false, false_or, or_self, not_true_eq_false, not_false_eq_true, implies_true, forall_eq, forall_const, ite_self, ↓reduceIte, reduceCtorEq, decide_true, decide_false, decide_eq_true_eq, decide_eq_false_iff_not, Bool.not_true, Bool.not_false, Bool.and_self, Bool.and_true, Bool.true_and, Bool.and_false, Bool.false_and, Bool.false_eq_true, Bool.true_eq_false, Bool.not_eq_true, beq_true, beq_false, BEq.rfl, beq_self_eq_true, List.length_cons, List.length_nil, List.take_zero, List.take_succ_cons, List.take_nil, List.drop_zero, List.drop_succ_cons, List.drop_nil, List.append_nil, List.nil_append, List.cons_append, List.append_eq, List.mem_cons, List.not_mem_nil, List.contains_nil, List.contains_eq_mem, List.elem_nil, List.find?_nil, List.flatMap_nil, List.flatMap_cons, List.getElem?_toArray, List.getElem?_cons_zero, List.getElem?_cons_succ, List.getElem?_nil, Std.le_refl, Nat.le_refl, Nat.zero_le, Nat.lt_add_one, Nat.zero_add, Nat.add_zero, Nat.reduceAdd, Nat.reduceLT, Nat.reduceLeDiff, Nat.reduceEqDiff, Nat.reduceMul, Nat.mul_one, Nat.zero_mul, Int.natCast_add, Int.cast_ofNat_Int, Int.lt_irrefl, Nat.le_add_left, List.getD_nil, if_false, not_not, ite_not, List.map_nil, Option.isSome_some, List.reverse_nil, ends_env, loopIn, loopsOf, List.cons.injEq, AV.lit.injEq, AV.sl.injEq, Value.int.injEq, Value.bool.injEq, Value.string.injEq, eq_self, iff_self, decide_eq_decide, if_true, ↓ev_op, ↓ev_opDn, ↓ev_opg, ↓ev_opDg, ↓br_dec, ag2, ag41, ag44, ag45, ag46, en22, en23, en24, en26, fi48_0, fi48_1, fi48_2, fi48_3, fi48_4, fi48_5, sz2, sz41, sz44, sz45, sz46, okl_cons, okl_nil, okc_str, okc_bool, okc_int, okc_sl, hc22, hc23, hc24, hc26, wx0, wy0, wx1, wy1, wx2, wy2, wx3, wy3, wx4, wy4, wx5, wy5, wx6, wy6, wx7, wy7, wx8, wy8, wx9, wy9, wx10, wy10, wx11, wy11, wx12, wy12, wx13, wy13, wx14, wy14, wx15, wy15, wx16, wy16, wx17, wy17, wx18, wy18, wx19, wy19, wx20, wy20, wx21, wy21, wx22, wy22, wx23, wy23, wx24, wy24]
  all_goals (try simp (config := {contextual := true}))
  all_goals grind
end Go.Proofs.YtlgdhdelhpklbaaGreat.EV
