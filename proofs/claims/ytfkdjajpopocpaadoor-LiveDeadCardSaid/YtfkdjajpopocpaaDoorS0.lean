/- DERIVED HERE. The clean layer: what 'simp' unfolds in a walk (with 'hold'; to take S0's place). -/
import Derived.Test.YtfkdjajpopocpaaDoorEvOps
set_option linter.unusedSimpArgs false
namespace Go.Cl
open Go.Proofs
attribute [simp ↓] gdL_zero gdL_succ hold1 hold2 hold3 vw_seq vw_block vw_cond vw_region vw_draw vw_skip vw_label vw_exit vw_goto vw_ret vw_loop vw_range vcL_nil vcD_nil step_none step_some then_normal then_exit then_goto then_ret then_panic inb_normal inb_exit inb_goto inb_ret inb_panic body_ret body_normal body_panic
attribute [simp] condK_bool split_any vcDH_some hintOf vcDo1_some vcL_cons vcD_cons put_some put_none setv_mk get_eq get_ne set_at set_set hset_ne hset_none guardK
attribute [simp high] split_true split_false
attribute [simp ↓] do_move do_assign do_pick do_alloc do_box do_build do_buildSlice do_load do_store do_bin do_fieldAddr do_nilCheck do_un do_convert do_makeInterface do_makeFunc do_makeSlice do_slice do_field do_indexAddr do_index do_extract do_call do_panic
attribute [simp] ev_tmp ev_const ev_global ev_func cv_int cv_bool cv_str cv_nilp cv_nils cv_nilf cv_nili pick_bool box_int box_agg ld_ptr ld_iptr st_ptr bin_int bin_sl_nil bin_ref_nil bin_nil_nil bin_bool int_add int_sub int_mul int_quo int_rem int_and int_or int_xor int_andNot int_shl int_shr int_eql int_neq int_lss int_leq int_gtr int_geq fa_struct fa_ptr fa_iptr nc_ptr nc_iptr nc_func un_not un_neg ex_tuple
attribute [simp] vcCall vcOp vcSl3 isShift evs dstOk leaveQ leaveP vcRes oneC vcBuiltin bnd vcAppend srcC isSl vcLoad Qo isPanic pset allP noP nextX roundX setps CV.stor CV.cells env0
attribute [simp] tab_1 tab_2 tab_3 tab_4 tab_5 tab_6 tab_7 tab_8 tab_9 tab_10 tab_11 tab_12 tab_13 tab_14 tab_15 tab_16 tab_17 tab_18 tab_19 tab_20 tab_21 tab_22 tab_23 tab_24 tab_25 tab_26 tab_27 tab_28 tab_29 tab_31 tab_32 tab_33 tab_34 tab_35 tab_36 tab_38 tab_39 tab_40 tab_41 tab_42 tab_43 tab_44 tab_45 tab_46 tab_47 tab_49 tab_50 tab_51 tab_52 tab_53 tab_54 tab_55 tab_56 tab_58 tab_59 tab_60 tab_61 tab_62 tab_63 tab_64 tab_65 tab_66 tab_68 tab_69 tab_70 tab_71 tab_72 tab_73 tab_74 tab_75 tab_76 tab_77 tab_78 tab_80 tab_81 tab_82 tab_83 tab_84 tab_85 tab_86 tab_87 tab_88 tab_89 tab_90 tab_91 tab_92 tab_94 tab_95 tab_96 tab_97 tab_98 tab_99 tab_100 tab_102 tab_103 tab_104 tab_105 tab_106 tab_107 tab_108 tab_109 tab_110 tab_111 tab_113 tab_114 tab_115 tab_116 tab_117 tab_118 tab_119 tab_120 tab_121 tab_122 tab_123 tab_124 tab_125 tab_126 tab_127 tab_128 tab_129 tab_130 tab_131 tab_132 tab_133 tab_135 tab_136 tab_137 tab_139 tab_140 tab_141 tab_142 tab_143 tab_144 tab_145 tab_146 tab_147 tab_148 tab_149 tab_150 tab_151 tab_152 tab_153 tab_154 tab_155 tab_156 tab_157 tab_158 tab_159 tab_160 tab_161 tab_162 tab_164 tab_165 tab_166 tab_167 tab_168 tab_169 tab_170 tab_171 tab_172 tab_173 tab_177 tab_178 tab_179 tab_180 tab_181 tab_182 tab_183 tab_184 tab_185 tab_186
attribute [simp] TK.agg zeroCs TZ.cv
variable {X : Cx} {H : Hp}
theorem CC.of_ev (hX : CxOk X) (hm : X.P.follows .mixedOrders = true) (D : Hints) {f : FuncId} {fn : Func} {c : Code} {args : List CV} {R : CE → Hp → Prop} (hf : X.P.funcs[f]? = some fn) (hb : fn.body = some c) (hnm : (fn.name == "runtime.NumGoroutine") = false) (hl : (args.length ≤ fn.ntmps)) (hD : drawsOk D c = true)
    (h : vw X fn.ntmps none D c (hold (bodyQ X fn.ntmps fn.results.toList R)) ⟨env0 args, []⟩ H) : CC X.P X.W f args H R := CC.of_vw hX hm D hf hb hnm hl hD h
theorem wrapI {n : Int} (h1 : -9223372036854775808 ≤ n) (h2 : n ≤ 9223372036854775807) : IntKind.i64.wrap n = n := wrap_i64 h1 h2
theorem tdivI {a b : Int} (h : 0 ≤ a) : a.tdiv b = a / b := Int.tdiv_eq_ediv_of_nonneg h
theorem tmodI {a b : Int} (h : 0 ≤ a) : a.tmod b = a % b := Int.tmod_eq_emod_of_nonneg h
end Go.Cl
