/- The verified condition generator: definitions and lemmas about the model; no program in sight. Conditions: none beyond what each theorem states. -/
import Derived.Test.YtagnaoagicgmeaaDoorVc5
import Derived.Test.YtagnaoagicgmeaaDoorVc6
set_option linter.all false
section
namespace Go.VC
open Go
theorem str_inj {a b : List UInt8} : str a = str b ↔ a = b := by simp [str]
theorem strs_inj {l k : List (List UInt8)} : strs l = strs k ↔ l = k := by
  constructor
  · intro h
    have := congrArg (fun x : List (List D) => x.map fun e => match e with | [.v (.string s)] => bts s | _ => []) h
    simpa [strs, List.map_map, Function.comp_def, bts_str] using this
  · rintro rfl; rfl
theorem encB_inj {l k : List UInt8} : encB l = encB k ↔ l = k := by
  constructor
  · intro h
    have := congrArg bytesOf h
    simpa [encB_bytes] using this
  · rintro rfl; rfl
def GW : Wd := ⟨fun _ _ => True, fun _ _ _ _ _ _ => trivial⟩
attribute [push_cast] withF_some Fz_ks Fz_kx Fz_av Fz_r Fz_c Fz_ch Fz_ti
attribute [push_cast] Fz_ct Fz_n andK_true slotK_some withC_some withT_some withR_some withCt_some
attribute [push_cast] fnK1_fn putF_some putF_none retK_eq retK_eqn fs_move fs_assign fs_pick
attribute [push_cast] pickR_t pickR_f fs_alloc allocR_some fs_box boxR_s boxR_g fs_build
attribute [push_cast] buildR_st packR_some fillA_nil fillA_cons fillA1_s fillA1_g fs_buildSlice bsR_sl
attribute [push_cast] newR_some fillD_nil fillD_cons fillD1_some fs_load takeR_some loadP_box loadR_ptr
attribute [push_cast] loadR_eptr loadE_one loadE_sl loadE_st loadR_dptr takeT_one takeT_sl takeT_one'
attribute [push_cast] takeT_sl' takeT_st fs_nilCheck ncR_ptr fs_bin b_add b_sub b_mul
attribute [push_cast] b_quo b_rem b_and b_or b_xor b_andNot b_eql b_neq
attribute [push_cast] b_lss b_leq b_gtr b_geq b_shl b_shr b_shru b_shr8
attribute [push_cast] b_shr32 bts_str b_sadd b_seql b_sneq b_beql b_bneq b_nilt
attribute [push_cast] b_nilf fs_un u_not u_neg fs_convert c_int c_str c_stro
attribute [push_cast] cstrR_sl c_bytes fs_makeFunc mkfR_some fs_makeSlice msR_some fs_field fs_fieldAddr
attribute [push_cast] faT_st faR_ptr faR_dptr slK_sl faR_eptr fs_indexAddr ixR_own ixR_d
attribute [push_cast] ixO_sl ixO_fz fs_index idxR_s fs_extract exR_t exR1_s exR1_g
attribute [push_cast] fs_len len_s len_d len_o lenO_sl lenO_fz fs_max fs_min
attribute [push_cast] fs_max3 fs_min3 fs_slice cutS_some sl_s cutD_some sl_d sl_o
attribute [push_cast] cutO_sl optInt_none optInt_some intOf_i ae_tmp ae_int ae_bool ae_nilf
attribute [push_cast] ae_nili ae_nilp ae_nils ae_func fch_0 fch_n fch_f fz_nil
attribute [push_cast] fz_cons fz1_sl fz1_fz gd0 gdS gdN st0 stS
attribute [push_cast] ge0 geS geN Fz_l freezeB_t freezeB_f acall_eq renAV_s
attribute [push_cast] renAV_g renA_d renA_own renO_some renO_sl renO_fz renA_ptr renP_some
attribute [push_cast] renA_fn idx_nil idx_cons idx1_t idx1_fs idx1_fn beq_self beq_0S
attribute [push_cast] beq_S0 beq_SS cr_nil cr_cons cr1_t cr1_box cr1_sl cr1_fz
attribute [push_cast] refA_d refA_own refA_ptr refA_fn ar_td ar_tg ar_fd ar_fo
attribute [push_cast] ar_fp ar_ff ar_fg al_nil al_0 al_1 loc_nil loc_cons
attribute [push_cast] renCh_box renCh_sl bk_nil bk_eq bk1_some bk1_none bA_d bA_own
attribute [push_cast] bA_ptr bA_fn bA_junk bAV_s bAV_g bAV_u bAV_t bT_s
attribute [push_cast] bT_g bCh_box bCh_sl bCh_fz mg_nil mg_eq pb_nil pb_cons
attribute [push_cast] dr_eq appR_eq apT_sl apT_st apS_own apS_nil apD_sl src_own
attribute [push_cast] srcC_sl srcC_fz src_d src_s as_ptr stP_box avAs_s avAs_g
attribute [push_cast] sr_nil sr_cons as_eptr stE_nil stE_fz stE1_sl setE_1 dsT_some
attribute [push_cast] toDs_nil toDs_cons avDs_s avDs_g toD_v toD_sl toD_own tdC_sl
attribute [push_cast] tdC_fz operK_some Fz_o withP_some Fz_pv re_nil eqK_some eqK_none
attribute [push_cast] SU_eq retK_def rs_nil rs_cons rsC_some ra_tmp raV_some ra_cell
attribute [push_cast] retV_nil retV_v retV_vv retV_vvv grdK_bt grdK_bf grdP_bt grdP_bf
attribute [push_cast] grdF_bt grdF_bf condK_i bts_mk norm_eq nm2_eq nm3_eq nm4_eq
attribute [push_cast] owl_nil owl_t owl_f val_nil val_t val_f or_own or_d
attribute [push_cast] or_u da_d da_own daC_fz uf_v uf_sl rf_d rf_own
attribute [push_cast] rf_ptr rf_eptr rf_dptr rf_fn rf_junk rf_g rf_t rf_u
attribute [push_cast] rl_d rl_own rl_ptr rl_fn ca_nil ca_cons ca1_t ca1_box
attribute [push_cast] ca1_sl ca1_fz na_s na_g na_t na_u nA_d nA_own
attribute [push_cast] nrmO_some nA_ptr nrmP_some nA_eptr nrmE2_some nA_dptr nA_junk nA_fn0
attribute [push_cast] nC_box nC_sl nC_fz nC_dead rg0 rg1 rg2 rg3
attribute [push_cast] rg4 mk_eq mk_cons mk_nil ints_len ints_nil ints_app ints_app2
attribute [push_cast] ints_cell ints_take ints_drop ints_set rt_nil rt_cons encB_len encB_all
attribute [push_cast] encB_bytes encB_app2 encB_cell strs_len strs_app strs_app2 strs_cell ae_str2
attribute [push_cast] strs_f0 strs_f1 ints_f0 ints_f1 strs_set strs_take strs_drop ownV_f
attribute [push_cast] ownV_t retV_o plnP_f plnP_t rtK_eq rtO_eq retV_g nR_g
attribute [push_cast] ints_plain nfUp_f nfUp_t nfUp_n decide_eq_true_eq Bool.not_eq_eq_eq_not Bool.not_eq_true' Bool.false_eq_true
attribute [push_cast] decide_eq_false_iff_not eq_self and_true true_and and_self not_true_eq_false not_false_eq_true false_implies
attribute [push_cast] true_implies implies_true Bool.not_true Bool.not_false cond_true cond_false List.nil_append List.cons_append
attribute [push_cast] List.append_nil List.map_cons List.map_nil List.length_cons List.length_nil List.length_append List.length_set List.flatMap_cons
attribute [push_cast] List.flatMap_nil List.toList_toArray List.drop_zero List.drop_succ_cons List.drop_nil List.take_succ_cons List.take_zero ne_eq
attribute [push_cast] Int.toNat_natCast fr0 vB vI vS Nat.zero_add Nat.add_zero Option.bind_some
attribute [push_cast] TI.zs unflag List.replicate List.contains_nil List.contains_cons Bool.or_true Bool.or_false Bool.true_or
attribute [push_cast] Bool.false_or Nat.le_refl IntKind.bits
theorem plAV_g {as : List A} : PlainAV (.g as) = (∀ a ∈ as, PlainA a) := (_root_.id rfl)
theorem plAV_s {a : A} : PlainAV (.s a) = PlainA a := (_root_.id rfl)
def plT (x : AV) : Prop := match x with
  | .s a => PlainA a
  | .g as => ∀ a ∈ as, PlainA a
  | _ => True
theorem plAV_t {xs : List AV} : PlainAV (.t xs) = (∀ x ∈ xs, plT x) := (_root_.id rfl)
theorem plT_s {a : A} : plT (.s a) = PlainA a := (_root_.id rfl)
theorem plT_g {as : List A} : plT (.g as) = (∀ a ∈ as, PlainA a) := (_root_.id rfl)
theorem plA_d {x : D} : PlainA (.d x) = PlainD x := (_root_.id rfl)
theorem plA_own {c : Nat} : PlainA (.own c) = True := (_root_.id rfl)
theorem plA_ptr {c o : Nat} : PlainA (.ptr c o) = True := (_root_.id rfl)
theorem plA_junk : PlainA .junk = True := (_root_.id rfl)
theorem plD_v {x : Value} : PlainD (.v x) = True := (_root_.id rfl)
theorem plD_sl {nf wd es} : PlainD (.sl nf wd es) = False := (_root_.id rfl)
theorem plC_box {cells : List A} : PlainCh (.box cells) = (∀ a ∈ cells, PlainA a) := (_root_.id rfl)
theorem plC_sl {nf wd es} : PlainCh (.sl nf wd es) = (∀ e ∈ es, ∀ d ∈ e, PlainD d) := (_root_.id rfl)
theorem plC_dead : PlainCh .dead = True := (_root_.id rfl)
theorem all_nil {α} {p : α → Prop} : (∀ x ∈ ([] : List α), p x) = True := by simp
theorem all_cons {α} {p : α → Prop} {a : α} {l : List α} : (∀ x ∈ a :: l, p x) = (p a ∧ ∀ x ∈ l, p x) := by simp
theorem ints_pl {l : List Int} : (∀ e ∈ ints l, ∀ d ∈ e, PlainD d) = True := eq_true ints_plain
theorem strs_pl {l : List (List UInt8)} : (∀ e ∈ strs l, ∀ d ∈ e, PlainD d) = True := eq_true (by
  intro e he d hd
  simp only [strs, List.mem_map] at he
  obtain ⟨n, _, rfl⟩ := he
  simp at hd; subst hd; trivial)
theorem encB_pl {l : List UInt8} : (∀ e ∈ encB l, ∀ d ∈ e, PlainD d) = True := eq_true (by
  intro e he d hd
  simp only [encB, List.mem_map] at he
  obtain ⟨n, _, rfl⟩ := he
  simp at hd; subst hd; trivial)
theorem InK_i64 {x : Int} : InK .i64 x = (-9223372036854775808 ≤ x ∧ x ≤ 9223372036854775807) := (_root_.id rfl)
theorem InK_u8 {x : Int} : InK .u8 x = (0 ≤ x ∧ x ≤ 255) := (_root_.id rfl)
theorem InK_u64 {x : Int} : InK .u64 x = (0 ≤ x ∧ x ≤ 18446744073709551615) := (_root_.id rfl)
theorem InK_i32 {x : Int} : InK .i32 x = (-2147483648 ≤ x ∧ x ≤ 2147483647) := (_root_.id rfl)
theorem InK_u32 {x : Int} : InK .u32 x = (0 ≤ x ∧ x ≤ 4294967295) := (_root_.id rfl)
attribute [push_cast] plAV_g plAV_s plAV_t plT_s plT_g plA_d plA_own plA_ptr plA_junk plD_v plD_sl plC_box plC_sl plC_dead all_nil all_cons ints_pl strs_pl encB_pl InK_i64 InK_u8 InK_u64 InK_i32 InK_u32
end Go.VC
end
