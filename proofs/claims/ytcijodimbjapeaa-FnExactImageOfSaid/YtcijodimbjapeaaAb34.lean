/- The rewriting rules of the walk, gathered in one set. Conditions: none. -/
import Derived.Test.YtcijodimbjapeaaAb31
set_option linter.all false
namespace Go.Ab

attribute [go_sem]
  St.mapAt keyIs dn_argN argN_nn Bool.or_true nodup_one beq_self_eq_true decide_true decide_false AC.kts AC.khs AC.kin Bool.true_or intsK_snoc
  List.foldl_cons List.foldl_nil forall_eq_or_imp List.toList_toArray List.getD_cons_zero List.getD_cons_succ List.length_cons List.length_nil
  List.take_succ_cons List.take_zero List.drop_succ_cons List.drop_zero Nat.zero_add Nat.add_zero Nat.lt_add_one Nat.zero_lt_succ wpD_skip dn_tm dn_hp
  wpD_reg wpD_kpd wpD_ad St.adopt List.getElem?_cons_zero List.getElem?_cons_succ List.set_cons_zero List.set_cons_succ Nat.one_ne_zero kd_L
  pickT pickO dn_any dn_val dn_ro dn_own dn_st dn_tup dn_ptr dn_rp dn_mp dn_clo dnL_nil dnL_cons dnL_app dnL_ints dnL_rws dnL_rwn odn_box odn_row
  odn_map mv_L mvT mvO mvV_any mvV_val mvV_ro mvV_own mvV_ptr mvV_mp mvV_st mvV_tup mvV_rp mvV_clo mvL_nil mvL_cons mvL_ints mvL_rws mvL_rwn AObj.mv AObj.wv dnNm_n dnNm_sn dnNm_o dnNm_s isNew_sn isNew_s Option.map_none Option.map_some wpD_dnret wpD_stuck frNm_t rws_snoc rws_len rwn_len rws_nil rws_app one_own one_mp one_ptr one_rp one_clo
  isRow isMap one_intsK one_rws one_rwn frz_intsK frz_rws owned_intsK owned_rws upd_hit wpD_seq wpD_condL wpD_block wpD_exit wpD_ret seqQ_n seqQ_e seqQ_r
  blockQ_n blockQ_e blockQ_r loopQ_n loopQ_e loopQ_r finQ_n finQ_e finQ_r wpOps_nil wpOps_L wpOp_n wpOp_g wpIns AI.wp AI.pre AI.eff AI.out hpw_eq AI.hq upd_L
  goneL_nil goneL_cons owned AVal.cells frz putAt St.slc St.nn AI.fact put_L put_none ev_t ev_c ev_f frz_ints ints_rep i2n one_ints owned_ints one_iv
  one_bv one_str one_nil one_ro ints_app List.flatMap_nil List.flatMap_cons List.nodup_nil List.nil_append List.append_nil List.singleton_append
  List.cons_append AObj.ver St.keep pickL L_hit L_miss L_nil St.init enum binV unV St.sl St.at ne_eq not_true_eq_false not_false_eq_true true_and
  and_true implies_true forall_const forall_eq St.value St.value1 St.there List.mem_cons List.not_mem_nil or_false Option.isSome_some Option.getD_some
  Bool.not_false Bool.not_true Nat.div_one List.map_cons List.map_nil List.length_map Nat.mul_one false_implies

attribute [go_sem high] grd_tt grd_ff grd_tf grd_ft grd_u cnd_t cnd_f
attribute [go_sem low] grd_b cnd_b

end Go.Ab
