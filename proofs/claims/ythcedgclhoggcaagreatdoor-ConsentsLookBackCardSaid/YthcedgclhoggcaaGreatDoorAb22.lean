/- A part of an abstract logic over the model's runs, proved sound against the model; no condition. -/
import Derived.Test.YthcedgclhoggcaaGreatDoorAb21
/-! The rules of the walk, as one set. -/
namespace Go.Ab
attribute [push_cast] gcnd_bool gcnd_und ev_t ev_k ev_g evs_nil evs_cons evo_none evo_some evp_nil evp_cons evq_nil
attribute [push_cast] evq_cons argFr_nil argFr_at hold_some holdC_some holdR_some holdO_some cnd_true cnd_false pr_true fin_fn xstore_op
attribute [push_cast] xdstore_op xcallv_fn xfnv_fn hu_same xapp_nil avIf aload_op aloadO_some aloadR_ag aloadR_one aload_pp_ag aload_pp
attribute [push_cast] afld_pp afld_op apart_ag apart_one aidxO_some aidxA_pp aidxA_op bin_add bin_sub bin_mul bin_eql bin_neq
attribute [push_cast] bin_lss bin_leq bin_gtr bin_geq bins_eql bins_neq bins_lss bins_leq bins_gtr bins_geq eqOne_i eqOne_s
attribute [push_cast] eqOne_b eqCells_nil eqCells_cons eqAnd_two aeq_bool aeq_slice aeq_cells aeq_ptr_pp aeq_ptr_op aeq_ptr_nil nego_t nego_f
attribute [push_cast] anot_lit aneg_lit acvt_lit asame_lit aext_tup alen_ls alen_os alenS_lit abound_none asl_ls aslL_some asl_os
attribute [push_cast] aslO_some aslOz_zero aslOz_pos aslS_lit aslT_some cells_agg cells_int cells_str cells_bool cells_nilp cells_ls cells_pp cells_os
attribute [push_cast] cells_op cells_fn one_int one_str one_bool one_nilp one_ls one_pp one_os one_op one_fn astore_mk
attribute [push_cast] astoreR_some splice_eq afill_nil afill_cons afillO_some arows_nil arows_cons arowsO_some anilc_pp anilc_op anilc_fn ofVal_nil
attribute [push_cast] ares1_t ares1_c aresL_nil aresL_cons aresC_some aone_one aone_nil aone_two ares_eq evenOf_ls evenOf_os cutOk_ls
attribute [push_cast] Option.map_some Option.some.injEq ne_eq not_false_eq_true if_true if_false and_true true_and Bool.not_true Bool.not_false Bool.not_not Bool.true_eq_false
attribute [push_cast] Bool.false_eq_true decide_true decide_false decide_eq_true_eq decide_eq_false_iff_not List.drop_succ_cons List.drop_zero List.drop_nil List.take_succ_cons List.take_zero List.length_cons List.length_nil
attribute [push_cast] List.getElem?_cons_succ List.getElem?_cons_zero List.append_nil List.nil_append List.cons_append List.set_cons_zero List.set_cons_succ List.all_cons List.all_nil Bool.and_true Bool.true_and Bool.and_self
attribute [push_cast] Bool.and_false Bool.false_and Bool.or_true Bool.true_or Bool.or_false Bool.false_or Nat.add_zero Nat.zero_add Nat.zero_mul Nat.le_refl sub_refl implies_true
attribute [push_cast] forall_const le_refl' beq_self_eq_true bne_self_eq_false BEq.rfl and_self Int.lt_irrefl Int.le_refl List.length_append List.length_map Int.natCast_add Int.natCast_zero
attribute [push_cast] Int.natCast_one Int.cast_ofNat_Int has_nil has_cons aidx_osd wrapu64_of wrapu8_of wrapu32_of bin_shr1 wrap64_of hu_ne abound_some
attribute [push_cast] achr_lit bin_quo bin_rem
end Go.Ab
