/- The stepping lemmas as simp's own: a printed proof names what is its own alone. -/
import Derived.Test.YtcddclkccpfdkaaDoorEv18
set_option linter.unusedSimpArgs false
set_option linter.unusedVariables false
namespace Go.Proofs.YtcddclkccpfdkaaDoor.EV
open Go.RowKit
attribute [simp ↓ low] ev_opg ev_opDg
attribute [simp ↓] ev_seq ev_region ev_op ev_opDn ev_nil ev_nilD get8 set8 st_op st_load ev_cond ev_skip ev_ret ev_exit ev_block ev_loop ev_end ends_env ends_bool ends_av ends_avs ends_bind br_true br_false br_not br_or br_and br_beq_true br_beq_false
attribute [simp] condA wantA Env.tr trOf evStep evPure evRead callStep snaps snap snap1 snapL plainL plain1 Env.made home homeA home1 owned ownedA owned1 lookN Env.get Env.put Env.clean view AV.cells AV.one ptrAdd Env.cellAt cellOf ofConst Value.oneCell' resL resV fin finA fin1 finL toks1 share unA binA_eql binA_neq binA_seql binA_sneq binA_lss binA_add binA_sub lenA indexAddrA natA_int loudA rdOp freeA goD setCellOf weak weakA weak1 convA ex1
attribute [simp] c1_lit c1_sh c1_ex c1_ow c1_loc c1_mrow c1_eptr c1_junk cl_lit cl_sh cl_ex cl_ow cl_loc cl_mrow cl_eptr cl_junk cl_agg cl_fn cl_cell cl_row cl_tup ca_lit ca_sh ca_ex ca_ow ca_agg nc_lit nc_sl nc_agg nc_eptr nc_loc nc_fn nc_tup nc_junk nc_cell nc_mrow
attribute [simp] okl_cons okl_nil okc_str okc_bool okc_int okc_sl List.getD_cons_succ List.getD_cons_zero List.take_of_length_le loopIn loopsOf
end Go.Proofs.YtcddclkccpfdkaaDoor.EV
