import Derived.Test.YtgkpfkfomonmgaaGreatWe
/- The program's own small functions, walked: equality, searching. -/
set_option maxHeartbeats 4000000
namespace Go.Mach
open Go Go.Proofs
set_option linter.unusedVariables false
set_option linter.unusedSimpArgs false
attribute [local go_sem] run_seq run_skip run_reg run_blk run_exit run_ret run_cond cnd_true cnd_false kx_seq_normal kx_seq_exit kx_seq_ret kx_blk_normal kx_blk_same kx_blk_other kx_blk_ret kx_loop_exit kx_loop_ret kx_done ops_nil ops_plain ops_grd gv_tt gv_ff gv_tf gv_ft gv_tup stp_ok stp_ob stp_hp stp_bad stp_if get_t get_c putO_some putO_none put_same put_ne put_σ put_base withσ_τ withσ_σ withσ_base withσ_put withσ_withσ mk_τ mk_σ mk_base mk_withσ entry_τ entry_σ entry_base calm_nil calm_plain calm_grd cgv_tt cgv_ff cgv_tf cgv_ft cgv_tup cstp_ok cstp_ob cstp_if
attribute [local irreducible] Ct Co Cs
attribute [local go_sem] evalOp notV negV pickV binV intB seqV beqV catV lensV lenlV boxV_eq newV cellsOf cellV fadrV fldV fldC loadV loadC_ag loadC_one plainV isOwn iadrV storeV lk bdV bdL renO renL renV pureV pureL noOwnV noOwnL idxV slsV optI extV resL resV ret1 mmV cnviV cnvsV nilcV eqnV bslV bslGo appV elems okE appE getD_map okO_none okO_some strC intC Sl.I
attribute [local simp] Bind.eqa Use.eqa loadC_str loadC_int Bind.C_len Bind.C_pure Bind.C_noOwn Bind.C_cell Bind.C_bd Bind.C_bdL Bind.C_ren Bind.C_any Bind.C_any0 Bind.C_any1 Bind.C_anyt Bind.C_take Bind.C_load Bind.C_load0 Bind.C_load1 Bind.C_fld Bind.C_box Bind.C_fold Use.C_len Use.C_pure Use.C_noOwn Use.C_cell Use.C_bd Use.C_bdL Use.C_ren Use.C_any Use.C_any0 Use.C_any1 Use.C_anyt Use.C_take Use.C_load Use.C_load0 Use.C_load1 Use.C_fld Use.C_box Use.C_fold LExpr.C_len LExpr.C_pure LExpr.C_noOwn LExpr.C_cell LExpr.C_bd LExpr.C_bdL LExpr.C_ren LExpr.C_any LExpr.C_any0 LExpr.C_any1 LExpr.C_anyt LExpr.C_take LExpr.C_load LExpr.C_load0 LExpr.C_load1 LExpr.C_fld LExpr.C_box LExpr.C_fold LDecl.C_len LDecl.C_pure LDecl.C_noOwn LDecl.C_cell LDecl.C_bd LDecl.C_bdL LDecl.C_ren LDecl.C_any LDecl.C_any0 LDecl.C_any1 LDecl.C_anyt LDecl.C_take LDecl.C_load LDecl.C_load0 LDecl.C_load1 LDecl.C_fld LDecl.C_box LDecl.C_fold LModule.C_len LModule.C_pure LModule.C_noOwn LModule.C_cell LModule.C_bd LModule.C_bdL LModule.C_ren LModule.C_any LModule.C_any0 LModule.C_any1 LModule.C_anyt LModule.C_take LModule.C_load LModule.C_load0 LModule.C_load1 LModule.C_fld LModule.C_box LModule.C_fold

def eqF_Expr_L (x y : Sl LExpr) (g : Nat) (i : Nat) (_ : Unit) : St := ⟨lk [(1, y.I LExpr.C), (2, .fn g []), (15, x.I LExpr.C), (16, .int .i64 x.es.length), (17, .int .i64 i)], [], []⟩
def mf_slices_EqualFunc_impl_Expr_impl_Expr_impl_Expr_impl_Expr : MF := ⟨32, [(.t 6)], (.seq (.reg [⟨(some 6), (.mov (.c (.bool false))), none⟩]) (.seq (.seq (.reg [⟨(some 10), (.mov (.t 0)), none⟩, ⟨(some 11), (.lenl (.t 10)), none⟩, ⟨(some 12), (.mov (.t 1)), none⟩, ⟨(some 13), (.lenl (.t 12)), none⟩, ⟨(some 14), (.bin .neq (.t 11) (.t 13)), none⟩]) (.cond (.t 14) (.seq (.reg [⟨(some 6), (.mov (.c (.bool false))), none⟩]) .ret) .skip)) (.seq (.seq (.reg [⟨(some 15), (.mov (.t 0)), none⟩, ⟨(some 16), (.lenl (.t 15)), none⟩, ⟨(some 17), (.mov (.c (.int .i64 0))), none⟩]) (.blk 0 (.loop (.seq (.reg [⟨(some 18), (.bin .lss (.t 17) (.t 16)), none⟩]) (.seq (.cond (.t 18) .skip (.exit 0)) (.seq (.blk 1 (.seq (.reg [⟨(some 19), (.mov (.t 17)), none⟩, ⟨(some 20), (.iadr 4 (.t 15) (.t 17)), none⟩, ⟨(some 21), (.load true 4 (.t 20)), none⟩, ⟨(some 8), (.alloc 31 [(.int .i64 0), (.int .i64 0), (.str []), (.imm [] [] true)]), none⟩, ⟨(some 7), (.mov (.t 19)), none⟩, ⟨none, (.store 4 (.t 8) (.t 21)), none⟩]) (.seq (.reg [⟨(some 22), (.mov (.t 1)), none⟩, ⟨(some 23), (.mov (.t 7)), none⟩, ⟨(some 24), (.iadr 4 (.t 22) (.t 23)), none⟩, ⟨(some 25), (.load true 4 (.t 24)), none⟩, ⟨(some 9), (.alloc 31 [(.int .i64 0), (.int .i64 0), (.str []), (.imm [] [] true)]), none⟩, ⟨none, (.store 4 (.t 9) (.t 25)), none⟩]) (.seq (.reg [⟨(some 26), (.mov (.t 2)), none⟩, ⟨(some 27), (.load true 4 (.t 8)), none⟩, ⟨(some 28), (.load true 4 (.t 9)), none⟩, ⟨(some 29), (.call (.t 26) [(.t 27), (.t 28)]), none⟩, ⟨(some 30), (.not (.t 29)), none⟩]) (.cond (.t 30) (.seq (.reg [⟨(some 6), (.mov (.c (.bool false))), none⟩]) .ret) .skip))))) (.reg [⟨(some 31), (.bin .add (.t 17) (.c (.int .i64 1))), none⟩, ⟨(some 17), (.mov (.t 31)), none⟩]))))))) (.seq (.reg [⟨(some 6), (.mov (.c (.bool true))), none⟩]) .ret))))⟩
theorem fit_slices_EqualFunc_impl_Expr_impl_Expr_impl_Expr_impl_Expr : Fit Tryz.prog 154 Tryz.f154 mf_slices_EqualFunc_impl_Expr_impl_Expr_impl_Expr_impl_Expr := ⟨by kernel_rfl, Tryz.func154, by kernel_rfl, by kernel_rfl, by kernel_rfl, by kernel_rfl⟩
theorem eqF_Expr_ct (x y : Sl LExpr) (g : Nat) (p : LExpr → LExpr → Bool) (hg : ∀ a, a ∈ x.es → ∀ b, Ct Tryz.prog g ([.agg a.C, .agg b.C] ++ []) (.bool (p a b))) : Ct Tryz.prog 154 [x.I LExpr.C, y.I LExpr.C, .fn g []] (.bool (all2 p x.es y.es)) := by
  refine ct_of_run fit_slices_EqualFunc_impl_Expr_impl_Expr_impl_Expr_impl_Expr (by simp [mf_slices_EqualFunc_impl_Expr_impl_Expr_impl_Expr_impl_Expr]) (by simp [go_sem]) fun hd => ?_
  simp -implicitDefEqProofs [-List.map_take, -List.map_drop, go_sem, mf_slices_EqualFunc_impl_Expr_impl_Expr_impl_Expr_impl_Expr]
  have hm : x.es.length ≤ maxLen := sl_deep hd.1
  have hne := all2_ne p x.es y.es
  repeat' first
    | ((first | refine gv_split (fun h => ?_) (fun h => ?_) | refine cnd_split (fun h => ?_) (fun h => ?_) | refine cgv_split (fun h => ?_) (fun h => ?_)) <;> (try (have hp := h; simp at hp)) <;> simp -implicitDefEqProofs [-List.map_take, -List.map_drop, go_sem, h])
    | (refine And.intro (by first | omega | (simp only [maxLen]; omega) | (simp_all; done) | (simp_all; omega)) ?_; try simp -implicitDefEqProofs [-List.map_take, -List.map_drop, go_sem])
    | (refine run_dreg' (by decide) ?_; simp -implicitDefEqProofs [-List.map_take, -List.map_drop, go_sem])
    | ((first | refine end_tup _ (by simp) (by simp [go_sem]; rfl) (by simp [go_sem]) ?_); first | (simp [go_sem, *]; done) | grind | (simp [go_sem]; grind) | (simp_all [go_sem]; done) | (simp_all [go_sem]; omega))
  have hlen : x.es.length = y.es.length := by omega
  refine run_iter (x.es.length) (eqF_Expr_L x y g) (fun i a => all2 p (x.es.drop i) (y.es.drop i) = all2 p x.es y.es) () (gh_auto (by simp [go_sem, eqF_Expr_L])) (by first | (simp; done) | (simp []; done) | (simp []; omega) | grind) ?_
  intro i a hi hj
  simp -implicitDefEqProofs [-List.map_take, -List.map_drop, go_sem, eqF_Expr_L]
  refine cnd_split (fun hc => ?_) (fun hc => ?_)
  · have hlt : i < x.es.length := by first | (simpa using hc) | (simp at hc; omega)
    rw [List.drop_eq_getElem_cons (l := x.es) (by omega)] at hj
    have hlt_1 : i < y.es.length := by omega
    rw [List.drop_eq_getElem_cons (l := y.es) (by omega)] at hj
    simp only [List.map_cons, all2] at hj
    simp -implicitDefEqProofs [-List.map_take, -List.map_drop, go_sem, hlt, hlt_1]
    repeat' first
      | ((first | refine gv_split (fun h => ?_) (fun h => ?_) | refine cnd_split (fun h => ?_) (fun h => ?_) | refine cgv_split (fun h => ?_) (fun h => ?_)) <;> (try (have hp := h; simp at hp)) <;> simp -implicitDefEqProofs [-List.map_take, -List.map_drop, go_sem, h, hlt, hlt_1])
      | (refine And.intro (by first | omega | (simp only [maxLen]; omega) | (simp_all; done) | (simp_all; omega)) ?_; try simp -implicitDefEqProofs [-List.map_take, -List.map_drop, go_sem, hlt, hlt_1])
      | ((first | refine stp_ct (hg x.es[i] (List.getElem_mem hlt) y.es[i]) (by simp [go_sem, hlt, hlt_1]) ?_ ?_ | refine cstp_ct (hg x.es[i] (List.getElem_mem hlt) y.es[i]) (by simp [go_sem, hlt, hlt_1]) ?_ ?_); (simp [go_sem]); simp -implicitDefEqProofs [-List.map_take, -List.map_drop, go_sem, hlt, hlt_1])
      | (refine run_dreg' (by decide) ?_; simp -implicitDefEqProofs [-List.map_take, -List.map_drop, go_sem, hlt, hlt_1])
      | ((first | refine kx_next () hlt (gh_auto (by simp [go_sem, eqF_Expr_L, wrap_succ hlt hm, hlt, hlt_1])) ?_ | refine end_tup _ (by simp) (by simp [go_sem]; rfl) (by simp [go_sem]) ?_); first | (simp [go_sem, *]; done) | grind | (simp [go_sem]; grind) | (simp_all [go_sem]; done) | (simp_all [go_sem]; omega))
  · have hge : x.es.length ≤ i := by first | (simpa using hc) | (simp at hc; omega)
    rw [List.drop_of_length_le (l := x.es) (by omega)] at hj
    rw [List.drop_of_length_le (l := y.es) (by omega)] at hj
    simp only [List.map_nil, all2] at hj
    try simp -implicitDefEqProofs [-List.map_take, -List.map_drop, go_sem]
    repeat' first
      | ((first | refine gv_split (fun h => ?_) (fun h => ?_) | refine cnd_split (fun h => ?_) (fun h => ?_) | refine cgv_split (fun h => ?_) (fun h => ?_)) <;> (try (have hp := h; simp at hp)) <;> simp -implicitDefEqProofs [-List.map_take, -List.map_drop, go_sem, h])
      | (refine And.intro (by first | omega | (simp only [maxLen]; omega) | (simp_all; done) | (simp_all; omega)) ?_; try simp -implicitDefEqProofs [-List.map_take, -List.map_drop, go_sem])
      | ((first | refine stp_ct (hg x.es[i] (List.getElem_mem hlt) y.es[i]) (by simp [go_sem]) ?_ ?_ | refine cstp_ct (hg x.es[i] (List.getElem_mem hlt) y.es[i]) (by simp [go_sem]) ?_ ?_); (simp [go_sem]); simp -implicitDefEqProofs [-List.map_take, -List.map_drop, go_sem])
      | (refine run_dreg' (by decide) ?_; simp -implicitDefEqProofs [-List.map_take, -List.map_drop, go_sem])
      | ((first | refine end_tup _ (by simp) (by simp [go_sem]; rfl) (by simp [go_sem]) ?_); first | (simp [go_sem, *]; done) | grind | (simp [go_sem]; grind) | (simp_all [go_sem]; done) | (simp_all [go_sem]; omega))
theorem all2_same : ∀ (xs ys : List LExpr), all2 (fun a b => Expr.same a.core b.core) xs ys = Expr.sames (xs.map LExpr.core) (ys.map LExpr.core)
  | [], [] => rfl
  | [], _ :: _ => rfl
  | _ :: _, [] => rfl
  | x :: xs, y :: ys => by simp [all2, Expr.sames, all2_same xs ys]
def mf_impl_Expr_same : MF := ⟨31, [(.t 4)], (.seq (.reg [⟨(some 2), (.box 31 (.t 0)), none⟩, ⟨(some 3), (.box 31 (.t 1)), none⟩, ⟨(some 4), (.mov (.c (.bool false))), none⟩]) (.seq (.reg [⟨(some 5), (.fadr 0 (.t 2)), none⟩, ⟨(some 6), (.load false 1 (.t 5)), none⟩, ⟨(some 7), (.fadr 0 (.t 3)), none⟩, ⟨(some 8), (.load false 1 (.t 7)), none⟩, ⟨(some 9), (.bin .eql (.t 6) (.t 8)), none⟩, ⟨(some 10), (.mov (.t 9)), none⟩, ⟨(some 11), (.fadr 1 (.t 2)), (some (10, true))⟩, ⟨(some 12), (.load false 1 (.t 11)), (some (10, true))⟩, ⟨(some 13), (.fadr 1 (.t 3)), (some (10, true))⟩, ⟨(some 14), (.load false 1 (.t 13)), (some (10, true))⟩, ⟨(some 15), (.bin .eql (.t 12) (.t 14)), (some (10, true))⟩, ⟨(some 16), (.pick (.t 10) (.t 15) (.c (.bool false))), none⟩, ⟨(some 17), (.mov (.t 16)), none⟩, ⟨(some 18), (.fadr 2 (.t 2)), (some (17, true))⟩, ⟨(some 19), (.load false 1 (.t 18)), (some (17, true))⟩, ⟨(some 20), (.fadr 2 (.t 3)), (some (17, true))⟩, ⟨(some 21), (.load false 1 (.t 20)), (some (17, true))⟩, ⟨(some 22), (.seq false (.t 19) (.t 21)), (some (17, true))⟩, ⟨(some 23), (.pick (.t 17) (.t 22) (.c (.bool false))), none⟩, ⟨(some 24), (.mov (.t 23)), none⟩, ⟨(some 25), (.fadr 3 (.t 2)), (some (24, true))⟩, ⟨(some 26), (.load false 1 (.t 25)), (some (24, true))⟩, ⟨(some 27), (.fadr 3 (.t 3)), (some (24, true))⟩, ⟨(some 28), (.load false 1 (.t 27)), (some (24, true))⟩, ⟨(some 29), (.call (.c (.fn 154 [])) [(.t 26), (.t 28), (.c (.fn 69 []))]), (some (24, true))⟩, ⟨(some 30), (.pick (.t 24) (.t 29) (.c (.bool false))), none⟩, ⟨(some 4), (.mov (.t 30)), none⟩]) .ret))⟩
theorem fit_impl_Expr_same : Fit Tryz.prog 69 Tryz.f69 mf_impl_Expr_same := ⟨by kernel_rfl, Tryz.func69, by kernel_rfl, by kernel_rfl, by kernel_rfl, by kernel_rfl⟩
theorem isame_ct (x y : LExpr) : Ct Tryz.prog 69 [.agg x.C, .agg y.C] (.bool (Expr.same x.core y.core)) := by
  have h1 := Expr.same_eq x.core y.core
  rw [LExpr.core_kind, LExpr.core_num, LExpr.core_text, LExpr.core_kids, LExpr.core_kind, LExpr.core_num, LExpr.core_text, LExpr.core_kids, ← all2_same] at h1
  have h2 := eqF_Expr_ct ⟨x.kids, x.sp, x.lim⟩ ⟨y.kids, y.sp, y.lim⟩ 69 (fun a b => Expr.same a.core b.core) fun a ha b => isame_ct a b
  rw [h1]
  clear h1
  refine ct_of_run fit_impl_Expr_same (by simp [mf_impl_Expr_same]) (by simp [go_sem]) fun hd => ?_
  simp -implicitDefEqProofs [-List.map_take, -List.map_drop, go_sem, mf_impl_Expr_same]
  repeat' first
    | ((first | refine gv_split (fun h => ?_) (fun h => ?_) | refine cnd_split (fun h => ?_) (fun h => ?_) | refine cgv_split (fun h => ?_) (fun h => ?_)) <;> (try (have hp := h; simp at hp)) <;> simp -implicitDefEqProofs [-List.map_take, -List.map_drop, go_sem, h])
    | (refine And.intro (by first | omega | (simp only [maxLen]; omega) | (simp_all; done) | (simp_all; omega)) ?_; try simp -implicitDefEqProofs [-List.map_take, -List.map_drop, go_sem])
    | ((first | refine stp_ct (h2) (by simp [go_sem]) ?_ ?_ | refine cstp_ct (h2) (by simp [go_sem]) ?_ ?_); (simp [go_sem]); simp -implicitDefEqProofs [-List.map_take, -List.map_drop, go_sem])
    | (refine run_dreg' (by decide) ?_; simp -implicitDefEqProofs [-List.map_take, -List.map_drop, go_sem])
    | ((first | refine end_tup _ (by simp) (by simp [go_sem]; rfl) (by simp [go_sem]) ?_); first | (simp [go_sem, *]; done) | grind | (simp [go_sem]; grind) | (simp_all [go_sem]; done) | (simp_all [go_sem]; omega))
termination_by SizeOf.sizeOf x
decreasing_by exact LExpr.kid_lt ha
def eqF_Module_L (x y : Sl LModule) (g : Nat) (i : Nat) (_ : Unit) : St := ⟨lk [(1, y.I LModule.C), (2, .fn g []), (15, x.I LModule.C), (16, .int .i64 x.es.length), (17, .int .i64 i)], [], []⟩
def mf_slices_EqualFunc_impl_Module_impl_Module_impl_Module_impl_Module : MF := ⟨32, [(.t 6)], (.seq (.reg [⟨(some 6), (.mov (.c (.bool false))), none⟩]) (.seq (.seq (.reg [⟨(some 10), (.mov (.t 0)), none⟩, ⟨(some 11), (.lenl (.t 10)), none⟩, ⟨(some 12), (.mov (.t 1)), none⟩, ⟨(some 13), (.lenl (.t 12)), none⟩, ⟨(some 14), (.bin .neq (.t 11) (.t 13)), none⟩]) (.cond (.t 14) (.seq (.reg [⟨(some 6), (.mov (.c (.bool false))), none⟩]) .ret) .skip)) (.seq (.seq (.reg [⟨(some 15), (.mov (.t 0)), none⟩, ⟨(some 16), (.lenl (.t 15)), none⟩, ⟨(some 17), (.mov (.c (.int .i64 0))), none⟩]) (.blk 0 (.loop (.seq (.reg [⟨(some 18), (.bin .lss (.t 17) (.t 16)), none⟩]) (.seq (.cond (.t 18) .skip (.exit 0)) (.seq (.blk 1 (.seq (.reg [⟨(some 19), (.mov (.t 17)), none⟩, ⟨(some 20), (.iadr 3 (.t 15) (.t 17)), none⟩, ⟨(some 21), (.load true 3 (.t 20)), none⟩, ⟨(some 8), (.alloc 43 [(.str []), (.imm [] [] true), (.imm [] [] true)]), none⟩, ⟨(some 7), (.mov (.t 19)), none⟩, ⟨none, (.store 3 (.t 8) (.t 21)), none⟩]) (.seq (.reg [⟨(some 22), (.mov (.t 1)), none⟩, ⟨(some 23), (.mov (.t 7)), none⟩, ⟨(some 24), (.iadr 3 (.t 22) (.t 23)), none⟩, ⟨(some 25), (.load true 3 (.t 24)), none⟩, ⟨(some 9), (.alloc 43 [(.str []), (.imm [] [] true), (.imm [] [] true)]), none⟩, ⟨none, (.store 3 (.t 9) (.t 25)), none⟩]) (.seq (.reg [⟨(some 26), (.mov (.t 2)), none⟩, ⟨(some 27), (.load true 3 (.t 8)), none⟩, ⟨(some 28), (.load true 3 (.t 9)), none⟩, ⟨(some 29), (.call (.t 26) [(.t 27), (.t 28)]), none⟩, ⟨(some 30), (.not (.t 29)), none⟩]) (.cond (.t 30) (.seq (.reg [⟨(some 6), (.mov (.c (.bool false))), none⟩]) .ret) .skip))))) (.reg [⟨(some 31), (.bin .add (.t 17) (.c (.int .i64 1))), none⟩, ⟨(some 17), (.mov (.t 31)), none⟩]))))))) (.seq (.reg [⟨(some 6), (.mov (.c (.bool true))), none⟩]) .ret))))⟩
theorem fit_slices_EqualFunc_impl_Module_impl_Module_impl_Module_impl_Module : Fit Tryz.prog 129 Tryz.f129 mf_slices_EqualFunc_impl_Module_impl_Module_impl_Module_impl_Module := ⟨by kernel_rfl, Tryz.func129, by kernel_rfl, by kernel_rfl, by kernel_rfl, by kernel_rfl⟩
theorem eqF_Module_ct (x y : Sl LModule) (g : Nat) (p : LModule → LModule → Bool) (hg : ∀ a, a ∈ x.es → ∀ b, Ct Tryz.prog g ([.agg a.C, .agg b.C] ++ []) (.bool (p a b))) : Ct Tryz.prog 129 [x.I LModule.C, y.I LModule.C, .fn g []] (.bool (all2 p x.es y.es)) := by
  refine ct_of_run fit_slices_EqualFunc_impl_Module_impl_Module_impl_Module_impl_Module (by simp [mf_slices_EqualFunc_impl_Module_impl_Module_impl_Module_impl_Module]) (by simp [go_sem]) fun hd => ?_
  simp -implicitDefEqProofs [-List.map_take, -List.map_drop, go_sem, mf_slices_EqualFunc_impl_Module_impl_Module_impl_Module_impl_Module]
  have hm : x.es.length ≤ maxLen := sl_deep hd.1
  have hne := all2_ne p x.es y.es
  repeat' first
    | ((first | refine gv_split (fun h => ?_) (fun h => ?_) | refine cnd_split (fun h => ?_) (fun h => ?_) | refine cgv_split (fun h => ?_) (fun h => ?_)) <;> (try (have hp := h; simp at hp)) <;> simp -implicitDefEqProofs [-List.map_take, -List.map_drop, go_sem, h])
    | (refine And.intro (by first | omega | (simp only [maxLen]; omega) | (simp_all; done) | (simp_all; omega)) ?_; try simp -implicitDefEqProofs [-List.map_take, -List.map_drop, go_sem])
    | (refine run_dreg' (by decide) ?_; simp -implicitDefEqProofs [-List.map_take, -List.map_drop, go_sem])
    | ((first | refine end_tup _ (by simp) (by simp [go_sem]; rfl) (by simp [go_sem]) ?_); first | (simp [go_sem, *]; done) | grind | (simp [go_sem]; grind) | (simp_all [go_sem]; done) | (simp_all [go_sem]; omega))
  have hlen : x.es.length = y.es.length := by omega
  refine run_iter (x.es.length) (eqF_Module_L x y g) (fun i a => all2 p (x.es.drop i) (y.es.drop i) = all2 p x.es y.es) () (gh_auto (by simp [go_sem, eqF_Module_L])) (by first | (simp; done) | (simp []; done) | (simp []; omega) | grind) ?_
  intro i a hi hj
  simp -implicitDefEqProofs [-List.map_take, -List.map_drop, go_sem, eqF_Module_L]
  refine cnd_split (fun hc => ?_) (fun hc => ?_)
  · have hlt : i < x.es.length := by first | (simpa using hc) | (simp at hc; omega)
    rw [List.drop_eq_getElem_cons (l := x.es) (by omega)] at hj
    have hlt_1 : i < y.es.length := by omega
    rw [List.drop_eq_getElem_cons (l := y.es) (by omega)] at hj
    simp only [List.map_cons, all2] at hj
    simp -implicitDefEqProofs [-List.map_take, -List.map_drop, go_sem, hlt, hlt_1]
    repeat' first
      | ((first | refine gv_split (fun h => ?_) (fun h => ?_) | refine cnd_split (fun h => ?_) (fun h => ?_) | refine cgv_split (fun h => ?_) (fun h => ?_)) <;> (try (have hp := h; simp at hp)) <;> simp -implicitDefEqProofs [-List.map_take, -List.map_drop, go_sem, h, hlt, hlt_1])
      | (refine And.intro (by first | omega | (simp only [maxLen]; omega) | (simp_all; done) | (simp_all; omega)) ?_; try simp -implicitDefEqProofs [-List.map_take, -List.map_drop, go_sem, hlt, hlt_1])
      | ((first | refine stp_ct (hg x.es[i] (List.getElem_mem hlt) y.es[i]) (by simp [go_sem, hlt, hlt_1]) ?_ ?_ | refine cstp_ct (hg x.es[i] (List.getElem_mem hlt) y.es[i]) (by simp [go_sem, hlt, hlt_1]) ?_ ?_); (simp [go_sem]); simp -implicitDefEqProofs [-List.map_take, -List.map_drop, go_sem, hlt, hlt_1])
      | (refine run_dreg' (by decide) ?_; simp -implicitDefEqProofs [-List.map_take, -List.map_drop, go_sem, hlt, hlt_1])
      | ((first | refine kx_next () hlt (gh_auto (by simp [go_sem, eqF_Module_L, wrap_succ hlt hm, hlt, hlt_1])) ?_ | refine end_tup _ (by simp) (by simp [go_sem]; rfl) (by simp [go_sem]) ?_); first | (simp [go_sem, *]; done) | grind | (simp [go_sem]; grind) | (simp_all [go_sem]; done) | (simp_all [go_sem]; omega))
  · have hge : x.es.length ≤ i := by first | (simpa using hc) | (simp at hc; omega)
    rw [List.drop_of_length_le (l := x.es) (by omega)] at hj
    rw [List.drop_of_length_le (l := y.es) (by omega)] at hj
    simp only [List.map_nil, all2] at hj
    try simp -implicitDefEqProofs [-List.map_take, -List.map_drop, go_sem]
    repeat' first
      | ((first | refine gv_split (fun h => ?_) (fun h => ?_) | refine cnd_split (fun h => ?_) (fun h => ?_) | refine cgv_split (fun h => ?_) (fun h => ?_)) <;> (try (have hp := h; simp at hp)) <;> simp -implicitDefEqProofs [-List.map_take, -List.map_drop, go_sem, h])
      | (refine And.intro (by first | omega | (simp only [maxLen]; omega) | (simp_all; done) | (simp_all; omega)) ?_; try simp -implicitDefEqProofs [-List.map_take, -List.map_drop, go_sem])
      | ((first | refine stp_ct (hg x.es[i] (List.getElem_mem hlt) y.es[i]) (by simp [go_sem]) ?_ ?_ | refine cstp_ct (hg x.es[i] (List.getElem_mem hlt) y.es[i]) (by simp [go_sem]) ?_ ?_); (simp [go_sem]); simp -implicitDefEqProofs [-List.map_take, -List.map_drop, go_sem])
      | (refine run_dreg' (by decide) ?_; simp -implicitDefEqProofs [-List.map_take, -List.map_drop, go_sem])
      | ((first | refine end_tup _ (by simp) (by simp [go_sem]; rfl) (by simp [go_sem]) ?_); first | (simp [go_sem, *]; done) | grind | (simp [go_sem]; grind) | (simp_all [go_sem]; done) | (simp_all [go_sem]; omega))
def eqF_Decl_L (x y : Sl LDecl) (g : Nat) (i : Nat) (_ : Unit) : St := ⟨lk [(1, y.I LDecl.C), (2, .fn g []), (15, x.I LDecl.C), (16, .int .i64 x.es.length), (17, .int .i64 i)], [], []⟩
def mf_slices_EqualFunc_impl_Decl_impl_Decl_impl_Decl_impl_Decl : MF := ⟨32, [(.t 6)], (.seq (.reg [⟨(some 6), (.mov (.c (.bool false))), none⟩]) (.seq (.seq (.reg [⟨(some 10), (.mov (.t 0)), none⟩, ⟨(some 11), (.lenl (.t 10)), none⟩, ⟨(some 12), (.mov (.t 1)), none⟩, ⟨(some 13), (.lenl (.t 12)), none⟩, ⟨(some 14), (.bin .neq (.t 11) (.t 13)), none⟩]) (.cond (.t 14) (.seq (.reg [⟨(some 6), (.mov (.c (.bool false))), none⟩]) .ret) .skip)) (.seq (.seq (.reg [⟨(some 15), (.mov (.t 0)), none⟩, ⟨(some 16), (.lenl (.t 15)), none⟩, ⟨(some 17), (.mov (.c (.int .i64 0))), none⟩]) (.blk 0 (.loop (.seq (.reg [⟨(some 18), (.bin .lss (.t 17) (.t 16)), none⟩]) (.seq (.cond (.t 18) .skip (.exit 0)) (.seq (.blk 1 (.seq (.reg [⟨(some 19), (.mov (.t 17)), none⟩, ⟨(some 20), (.iadr 8 (.t 15) (.t 17)), none⟩, ⟨(some 21), (.load true 8 (.t 20)), none⟩, ⟨(some 8), (.alloc 46 [(.int .i64 0), (.str []), (.imm [] [] true), (.str []), (.int .i64 0), (.int .i64 0), (.str []), (.imm [] [] true)]), none⟩, ⟨(some 7), (.mov (.t 19)), none⟩, ⟨none, (.store 8 (.t 8) (.t 21)), none⟩]) (.seq (.reg [⟨(some 22), (.mov (.t 1)), none⟩, ⟨(some 23), (.mov (.t 7)), none⟩, ⟨(some 24), (.iadr 8 (.t 22) (.t 23)), none⟩, ⟨(some 25), (.load true 8 (.t 24)), none⟩, ⟨(some 9), (.alloc 46 [(.int .i64 0), (.str []), (.imm [] [] true), (.str []), (.int .i64 0), (.int .i64 0), (.str []), (.imm [] [] true)]), none⟩, ⟨none, (.store 8 (.t 9) (.t 25)), none⟩]) (.seq (.reg [⟨(some 26), (.mov (.t 2)), none⟩, ⟨(some 27), (.load true 8 (.t 8)), none⟩, ⟨(some 28), (.load true 8 (.t 9)), none⟩, ⟨(some 29), (.call (.t 26) [(.t 27), (.t 28)]), none⟩, ⟨(some 30), (.not (.t 29)), none⟩]) (.cond (.t 30) (.seq (.reg [⟨(some 6), (.mov (.c (.bool false))), none⟩]) .ret) .skip))))) (.reg [⟨(some 31), (.bin .add (.t 17) (.c (.int .i64 1))), none⟩, ⟨(some 17), (.mov (.t 31)), none⟩]))))))) (.seq (.reg [⟨(some 6), (.mov (.c (.bool true))), none⟩]) .ret))))⟩
theorem fit_slices_EqualFunc_impl_Decl_impl_Decl_impl_Decl_impl_Decl : Fit Tryz.prog 132 Tryz.f132 mf_slices_EqualFunc_impl_Decl_impl_Decl_impl_Decl_impl_Decl := ⟨by kernel_rfl, Tryz.func132, by kernel_rfl, by kernel_rfl, by kernel_rfl, by kernel_rfl⟩
theorem eqF_Decl_ct (x y : Sl LDecl) (g : Nat) (p : LDecl → LDecl → Bool) (hg : ∀ a, a ∈ x.es → ∀ b, Ct Tryz.prog g ([.agg a.C, .agg b.C] ++ []) (.bool (p a b))) : Ct Tryz.prog 132 [x.I LDecl.C, y.I LDecl.C, .fn g []] (.bool (all2 p x.es y.es)) := by
  refine ct_of_run fit_slices_EqualFunc_impl_Decl_impl_Decl_impl_Decl_impl_Decl (by simp [mf_slices_EqualFunc_impl_Decl_impl_Decl_impl_Decl_impl_Decl]) (by simp [go_sem]) fun hd => ?_
  simp -implicitDefEqProofs [-List.map_take, -List.map_drop, go_sem, mf_slices_EqualFunc_impl_Decl_impl_Decl_impl_Decl_impl_Decl]
  have hm : x.es.length ≤ maxLen := sl_deep hd.1
  have hne := all2_ne p x.es y.es
  repeat' first
    | ((first | refine gv_split (fun h => ?_) (fun h => ?_) | refine cnd_split (fun h => ?_) (fun h => ?_) | refine cgv_split (fun h => ?_) (fun h => ?_)) <;> (try (have hp := h; simp at hp)) <;> simp -implicitDefEqProofs [-List.map_take, -List.map_drop, go_sem, h])
    | (refine And.intro (by first | omega | (simp only [maxLen]; omega) | (simp_all; done) | (simp_all; omega)) ?_; try simp -implicitDefEqProofs [-List.map_take, -List.map_drop, go_sem])
    | (refine run_dreg' (by decide) ?_; simp -implicitDefEqProofs [-List.map_take, -List.map_drop, go_sem])
    | ((first | refine end_tup _ (by simp) (by simp [go_sem]; rfl) (by simp [go_sem]) ?_); first | (simp [go_sem, *]; done) | grind | (simp [go_sem]; grind) | (simp_all [go_sem]; done) | (simp_all [go_sem]; omega))
  have hlen : x.es.length = y.es.length := by omega
  refine run_iter (x.es.length) (eqF_Decl_L x y g) (fun i a => all2 p (x.es.drop i) (y.es.drop i) = all2 p x.es y.es) () (gh_auto (by simp [go_sem, eqF_Decl_L])) (by first | (simp; done) | (simp []; done) | (simp []; omega) | grind) ?_
  intro i a hi hj
  simp -implicitDefEqProofs [-List.map_take, -List.map_drop, go_sem, eqF_Decl_L]
  refine cnd_split (fun hc => ?_) (fun hc => ?_)
  · have hlt : i < x.es.length := by first | (simpa using hc) | (simp at hc; omega)
    rw [List.drop_eq_getElem_cons (l := x.es) (by omega)] at hj
    have hlt_1 : i < y.es.length := by omega
    rw [List.drop_eq_getElem_cons (l := y.es) (by omega)] at hj
    simp only [List.map_cons, all2] at hj
    simp -implicitDefEqProofs [-List.map_take, -List.map_drop, go_sem, hlt, hlt_1]
    repeat' first
      | ((first | refine gv_split (fun h => ?_) (fun h => ?_) | refine cnd_split (fun h => ?_) (fun h => ?_) | refine cgv_split (fun h => ?_) (fun h => ?_)) <;> (try (have hp := h; simp at hp)) <;> simp -implicitDefEqProofs [-List.map_take, -List.map_drop, go_sem, h, hlt, hlt_1])
      | (refine And.intro (by first | omega | (simp only [maxLen]; omega) | (simp_all; done) | (simp_all; omega)) ?_; try simp -implicitDefEqProofs [-List.map_take, -List.map_drop, go_sem, hlt, hlt_1])
      | ((first | refine stp_ct (hg x.es[i] (List.getElem_mem hlt) y.es[i]) (by simp [go_sem, hlt, hlt_1]) ?_ ?_ | refine cstp_ct (hg x.es[i] (List.getElem_mem hlt) y.es[i]) (by simp [go_sem, hlt, hlt_1]) ?_ ?_); (simp [go_sem]); simp -implicitDefEqProofs [-List.map_take, -List.map_drop, go_sem, hlt, hlt_1])
      | (refine run_dreg' (by decide) ?_; simp -implicitDefEqProofs [-List.map_take, -List.map_drop, go_sem, hlt, hlt_1])
      | ((first | refine kx_next () hlt (gh_auto (by simp [go_sem, eqF_Decl_L, wrap_succ hlt hm, hlt, hlt_1])) ?_ | refine end_tup _ (by simp) (by simp [go_sem]; rfl) (by simp [go_sem]) ?_); first | (simp [go_sem, *]; done) | grind | (simp [go_sem]; grind) | (simp_all [go_sem]; done) | (simp_all [go_sem]; omega))
  · have hge : x.es.length ≤ i := by first | (simpa using hc) | (simp at hc; omega)
    rw [List.drop_of_length_le (l := x.es) (by omega)] at hj
    rw [List.drop_of_length_le (l := y.es) (by omega)] at hj
    simp only [List.map_nil, all2] at hj
    try simp -implicitDefEqProofs [-List.map_take, -List.map_drop, go_sem]
    repeat' first
      | ((first | refine gv_split (fun h => ?_) (fun h => ?_) | refine cnd_split (fun h => ?_) (fun h => ?_) | refine cgv_split (fun h => ?_) (fun h => ?_)) <;> (try (have hp := h; simp at hp)) <;> simp -implicitDefEqProofs [-List.map_take, -List.map_drop, go_sem, h])
      | (refine And.intro (by first | omega | (simp only [maxLen]; omega) | (simp_all; done) | (simp_all; omega)) ?_; try simp -implicitDefEqProofs [-List.map_take, -List.map_drop, go_sem])
      | ((first | refine stp_ct (hg x.es[i] (List.getElem_mem hlt) y.es[i]) (by simp [go_sem]) ?_ ?_ | refine cstp_ct (hg x.es[i] (List.getElem_mem hlt) y.es[i]) (by simp [go_sem]) ?_ ?_); (simp [go_sem]); simp -implicitDefEqProofs [-List.map_take, -List.map_drop, go_sem])
      | (refine run_dreg' (by decide) ?_; simp -implicitDefEqProofs [-List.map_take, -List.map_drop, go_sem])
      | ((first | refine end_tup _ (by simp) (by simp [go_sem]; rfl) (by simp [go_sem]) ?_); first | (simp [go_sem, *]; done) | grind | (simp [go_sem]; grind) | (simp_all [go_sem]; done) | (simp_all [go_sem]; omega))
def equal_Use_L (x y : Sl Use) (i : Nat) (_ : Unit) : St := ⟨lk [(0, x.I Use.C), (1, y.I Use.C), (12, .int .i64 x.es.length), (13, .int .i64 i)], [], []⟩
def mf_slices_Equal_impl_Use_impl_Use : MF := ⟨26, [(.t 4)], (.seq (.reg [⟨(some 4), (.mov (.c (.bool false))), none⟩]) (.seq (.seq (.reg [⟨(some 6), (.mov (.t 0)), none⟩, ⟨(some 7), (.lenl (.t 6)), none⟩, ⟨(some 8), (.mov (.t 1)), none⟩, ⟨(some 9), (.lenl (.t 8)), none⟩, ⟨(some 10), (.bin .neq (.t 7) (.t 9)), none⟩]) (.cond (.t 10) (.seq (.reg [⟨(some 4), (.mov (.c (.bool false))), none⟩]) .ret) .skip)) (.seq (.seq (.reg [⟨(some 11), (.mov (.t 0)), none⟩, ⟨(some 12), (.lenl (.t 11)), none⟩, ⟨(some 13), (.mov (.c (.int .i64 0))), none⟩]) (.blk 0 (.loop (.seq (.reg [⟨(some 14), (.bin .lss (.t 13) (.t 12)), none⟩]) (.seq (.cond (.t 14) .skip (.exit 0)) (.seq (.blk 1 (.seq (.reg [⟨(some 15), (.mov (.t 13)), none⟩, ⟨(some 5), (.mov (.t 15)), none⟩]) (.seq (.dreg [(⟨(some 16), (.mov (.t 0)), none⟩, []), (⟨(some 17), (.mov (.t 5)), none⟩, []), (⟨(some 18), (.iadr 2 (.t 16) (.t 17)), none⟩, [0, 1]), (⟨(some 19), (.load true 2 (.t 18)), none⟩, [2]), (⟨(some 20), (.mov (.t 1)), none⟩, []), (⟨(some 21), (.mov (.t 5)), none⟩, []), (⟨(some 22), (.iadr 2 (.t 20) (.t 21)), none⟩, [4, 5]), (⟨(some 23), (.load true 2 (.t 22)), none⟩, [6]), (⟨(some 24), (.eqa true [.s, .s] (.t 19) (.t 23)), none⟩, [3, 7])]) (.cond (.t 24) (.seq (.reg [⟨(some 4), (.mov (.c (.bool false))), none⟩]) .ret) .skip)))) (.reg [⟨(some 25), (.bin .add (.t 13) (.c (.int .i64 1))), none⟩, ⟨(some 13), (.mov (.t 25)), none⟩]))))))) (.seq (.reg [⟨(some 4), (.mov (.c (.bool true))), none⟩]) .ret))))⟩
theorem fit_slices_Equal_impl_Use_impl_Use : Fit Tryz.prog 131 Tryz.f131 mf_slices_Equal_impl_Use_impl_Use := ⟨by kernel_rfl, Tryz.func131, by kernel_rfl, by kernel_rfl, by kernel_rfl, by kernel_rfl⟩
theorem equal_Use_ct (x y : Sl Use) : Ct Tryz.prog 131 [x.I Use.C, y.I Use.C] (.bool (all2 (· == ·) x.es y.es)) := by
  refine ct_of_run fit_slices_Equal_impl_Use_impl_Use (by simp [mf_slices_Equal_impl_Use_impl_Use]) (by simp [go_sem]) fun hd => ?_
  simp -implicitDefEqProofs [-List.map_take, -List.map_drop, go_sem, mf_slices_Equal_impl_Use_impl_Use]
  have hm : x.es.length ≤ maxLen := sl_deep hd.1
  have hne := all2_ne (· == ·) x.es y.es
  repeat' first
    | ((first | refine gv_split (fun h => ?_) (fun h => ?_) | refine cnd_split (fun h => ?_) (fun h => ?_) | refine cgv_split (fun h => ?_) (fun h => ?_)) <;> (try (have hp := h; simp at hp)) <;> simp -implicitDefEqProofs [-List.map_take, -List.map_drop, go_sem, h])
    | (refine And.intro (by first | omega | (simp only [maxLen]; omega) | (simp_all; done) | (simp_all; omega)) ?_; try simp -implicitDefEqProofs [-List.map_take, -List.map_drop, go_sem])
    | (refine run_dreg' (by decide) ?_; simp -implicitDefEqProofs [-List.map_take, -List.map_drop, go_sem])
    | ((first | refine end_tup _ (by simp) (by simp [go_sem]; rfl) (by simp [go_sem]) ?_); first | (simp [go_sem, *]; done) | grind | (simp [go_sem]; grind) | (simp_all [go_sem]; done) | (simp_all [go_sem]; omega))
  have hlen : x.es.length = y.es.length := by omega
  refine run_iter (x.es.length) (equal_Use_L x y) (fun i a => all2 (· == ·) (x.es.drop i) (y.es.drop i) = all2 (· == ·) x.es y.es) () (gh_auto (by simp [go_sem, equal_Use_L])) (by first | (simp; done) | (simp []; done) | (simp []; omega) | grind) ?_
  intro i a hi hj
  simp -implicitDefEqProofs [-List.map_take, -List.map_drop, go_sem, equal_Use_L]
  refine cnd_split (fun hc => ?_) (fun hc => ?_)
  · have hlt : i < x.es.length := by first | (simpa using hc) | (simp at hc; omega)
    rw [List.drop_eq_getElem_cons (l := x.es) (by omega)] at hj
    have hlt_1 : i < y.es.length := by omega
    rw [List.drop_eq_getElem_cons (l := y.es) (by omega)] at hj
    simp only [List.map_cons, all2] at hj
    simp -implicitDefEqProofs [-List.map_take, -List.map_drop, go_sem, hlt, hlt_1]
    repeat' first
      | ((first | refine gv_split (fun h => ?_) (fun h => ?_) | refine cnd_split (fun h => ?_) (fun h => ?_) | refine cgv_split (fun h => ?_) (fun h => ?_)) <;> (try (have hp := h; simp at hp)) <;> simp -implicitDefEqProofs [-List.map_take, -List.map_drop, go_sem, h, hlt, hlt_1])
      | (refine And.intro (by first | omega | (simp only [maxLen]; omega) | (simp_all; done) | (simp_all; omega)) ?_; try simp -implicitDefEqProofs [-List.map_take, -List.map_drop, go_sem, hlt, hlt_1])
      | (refine run_dreg' (by decide) ?_; simp -implicitDefEqProofs [-List.map_take, -List.map_drop, go_sem, hlt, hlt_1])
      | ((first | refine kx_next () hlt (gh_auto (by simp [go_sem, equal_Use_L, wrap_succ hlt hm, hlt, hlt_1])) ?_ | refine end_tup _ (by simp) (by simp [go_sem]; rfl) (by simp [go_sem]) ?_); first | (simp [go_sem, *]; done) | grind | (simp [go_sem]; grind) | (simp_all [go_sem]; done) | (simp_all [go_sem]; omega))
  · have hge : x.es.length ≤ i := by first | (simpa using hc) | (simp at hc; omega)
    rw [List.drop_of_length_le (l := x.es) (by omega)] at hj
    rw [List.drop_of_length_le (l := y.es) (by omega)] at hj
    simp only [List.map_nil, all2] at hj
    try simp -implicitDefEqProofs [-List.map_take, -List.map_drop, go_sem]
    repeat' first
      | ((first | refine gv_split (fun h => ?_) (fun h => ?_) | refine cnd_split (fun h => ?_) (fun h => ?_) | refine cgv_split (fun h => ?_) (fun h => ?_)) <;> (try (have hp := h; simp at hp)) <;> simp -implicitDefEqProofs [-List.map_take, -List.map_drop, go_sem, h])
      | (refine And.intro (by first | omega | (simp only [maxLen]; omega) | (simp_all; done) | (simp_all; omega)) ?_; try simp -implicitDefEqProofs [-List.map_take, -List.map_drop, go_sem])
      | (refine run_dreg' (by decide) ?_; simp -implicitDefEqProofs [-List.map_take, -List.map_drop, go_sem])
      | ((first | refine end_tup _ (by simp) (by simp [go_sem]; rfl) (by simp [go_sem]) ?_); first | (simp [go_sem, *]; done) | grind | (simp [go_sem]; grind) | (simp_all [go_sem]; done) | (simp_all [go_sem]; omega))
def equal_Bind_L (x y : Sl Bind) (i : Nat) (_ : Unit) : St := ⟨lk [(0, x.I Bind.C), (1, y.I Bind.C), (12, .int .i64 x.es.length), (13, .int .i64 i)], [], []⟩
def mf_slices_Equal_impl_Bind_impl_Bind : MF := ⟨26, [(.t 4)], (.seq (.reg [⟨(some 4), (.mov (.c (.bool false))), none⟩]) (.seq (.seq (.reg [⟨(some 6), (.mov (.t 0)), none⟩, ⟨(some 7), (.lenl (.t 6)), none⟩, ⟨(some 8), (.mov (.t 1)), none⟩, ⟨(some 9), (.lenl (.t 8)), none⟩, ⟨(some 10), (.bin .neq (.t 7) (.t 9)), none⟩]) (.cond (.t 10) (.seq (.reg [⟨(some 4), (.mov (.c (.bool false))), none⟩]) .ret) .skip)) (.seq (.seq (.reg [⟨(some 11), (.mov (.t 0)), none⟩, ⟨(some 12), (.lenl (.t 11)), none⟩, ⟨(some 13), (.mov (.c (.int .i64 0))), none⟩]) (.blk 0 (.loop (.seq (.reg [⟨(some 14), (.bin .lss (.t 13) (.t 12)), none⟩]) (.seq (.cond (.t 14) .skip (.exit 0)) (.seq (.blk 1 (.seq (.reg [⟨(some 15), (.mov (.t 13)), none⟩, ⟨(some 5), (.mov (.t 15)), none⟩]) (.seq (.dreg [(⟨(some 16), (.mov (.t 0)), none⟩, []), (⟨(some 17), (.mov (.t 5)), none⟩, []), (⟨(some 18), (.iadr 2 (.t 16) (.t 17)), none⟩, [0, 1]), (⟨(some 19), (.load true 2 (.t 18)), none⟩, [2]), (⟨(some 20), (.mov (.t 1)), none⟩, []), (⟨(some 21), (.mov (.t 5)), none⟩, []), (⟨(some 22), (.iadr 2 (.t 20) (.t 21)), none⟩, [4, 5]), (⟨(some 23), (.load true 2 (.t 22)), none⟩, [6]), (⟨(some 24), (.eqa true [.s, .s] (.t 19) (.t 23)), none⟩, [3, 7])]) (.cond (.t 24) (.seq (.reg [⟨(some 4), (.mov (.c (.bool false))), none⟩]) .ret) .skip)))) (.reg [⟨(some 25), (.bin .add (.t 13) (.c (.int .i64 1))), none⟩, ⟨(some 13), (.mov (.t 25)), none⟩]))))))) (.seq (.reg [⟨(some 4), (.mov (.c (.bool true))), none⟩]) .ret))))⟩
theorem fit_slices_Equal_impl_Bind_impl_Bind : Fit Tryz.prog 215 Tryz.f215 mf_slices_Equal_impl_Bind_impl_Bind := ⟨by kernel_rfl, Tryz.func215, by kernel_rfl, by kernel_rfl, by kernel_rfl, by kernel_rfl⟩
theorem equal_Bind_ct (x y : Sl Bind) : Ct Tryz.prog 215 [x.I Bind.C, y.I Bind.C] (.bool (all2 (· == ·) x.es y.es)) := by
  refine ct_of_run fit_slices_Equal_impl_Bind_impl_Bind (by simp [mf_slices_Equal_impl_Bind_impl_Bind]) (by simp [go_sem]) fun hd => ?_
  simp -implicitDefEqProofs [-List.map_take, -List.map_drop, go_sem, mf_slices_Equal_impl_Bind_impl_Bind]
  have hm : x.es.length ≤ maxLen := sl_deep hd.1
  have hne := all2_ne (· == ·) x.es y.es
  repeat' first
    | ((first | refine gv_split (fun h => ?_) (fun h => ?_) | refine cnd_split (fun h => ?_) (fun h => ?_) | refine cgv_split (fun h => ?_) (fun h => ?_)) <;> (try (have hp := h; simp at hp)) <;> simp -implicitDefEqProofs [-List.map_take, -List.map_drop, go_sem, h])
    | (refine And.intro (by first | omega | (simp only [maxLen]; omega) | (simp_all; done) | (simp_all; omega)) ?_; try simp -implicitDefEqProofs [-List.map_take, -List.map_drop, go_sem])
    | (refine run_dreg' (by decide) ?_; simp -implicitDefEqProofs [-List.map_take, -List.map_drop, go_sem])
    | ((first | refine end_tup _ (by simp) (by simp [go_sem]; rfl) (by simp [go_sem]) ?_); first | (simp [go_sem, *]; done) | grind | (simp [go_sem]; grind) | (simp_all [go_sem]; done) | (simp_all [go_sem]; omega))
  have hlen : x.es.length = y.es.length := by omega
  refine run_iter (x.es.length) (equal_Bind_L x y) (fun i a => all2 (· == ·) (x.es.drop i) (y.es.drop i) = all2 (· == ·) x.es y.es) () (gh_auto (by simp [go_sem, equal_Bind_L])) (by first | (simp; done) | (simp []; done) | (simp []; omega) | grind) ?_
  intro i a hi hj
  simp -implicitDefEqProofs [-List.map_take, -List.map_drop, go_sem, equal_Bind_L]
  refine cnd_split (fun hc => ?_) (fun hc => ?_)
  · have hlt : i < x.es.length := by first | (simpa using hc) | (simp at hc; omega)
    rw [List.drop_eq_getElem_cons (l := x.es) (by omega)] at hj
    have hlt_1 : i < y.es.length := by omega
    rw [List.drop_eq_getElem_cons (l := y.es) (by omega)] at hj
    simp only [List.map_cons, all2] at hj
    simp -implicitDefEqProofs [-List.map_take, -List.map_drop, go_sem, hlt, hlt_1]
    repeat' first
      | ((first | refine gv_split (fun h => ?_) (fun h => ?_) | refine cnd_split (fun h => ?_) (fun h => ?_) | refine cgv_split (fun h => ?_) (fun h => ?_)) <;> (try (have hp := h; simp at hp)) <;> simp -implicitDefEqProofs [-List.map_take, -List.map_drop, go_sem, h, hlt, hlt_1])
      | (refine And.intro (by first | omega | (simp only [maxLen]; omega) | (simp_all; done) | (simp_all; omega)) ?_; try simp -implicitDefEqProofs [-List.map_take, -List.map_drop, go_sem, hlt, hlt_1])
      | (refine run_dreg' (by decide) ?_; simp -implicitDefEqProofs [-List.map_take, -List.map_drop, go_sem, hlt, hlt_1])
      | ((first | refine kx_next () hlt (gh_auto (by simp [go_sem, equal_Bind_L, wrap_succ hlt hm, hlt, hlt_1])) ?_ | refine end_tup _ (by simp) (by simp [go_sem]; rfl) (by simp [go_sem]) ?_); first | (simp [go_sem, *]; done) | grind | (simp [go_sem]; grind) | (simp_all [go_sem]; done) | (simp_all [go_sem]; omega))
  · have hge : x.es.length ≤ i := by first | (simpa using hc) | (simp at hc; omega)
    rw [List.drop_of_length_le (l := x.es) (by omega)] at hj
    rw [List.drop_of_length_le (l := y.es) (by omega)] at hj
    simp only [List.map_nil, all2] at hj
    try simp -implicitDefEqProofs [-List.map_take, -List.map_drop, go_sem]
    repeat' first
      | ((first | refine gv_split (fun h => ?_) (fun h => ?_) | refine cnd_split (fun h => ?_) (fun h => ?_) | refine cgv_split (fun h => ?_) (fun h => ?_)) <;> (try (have hp := h; simp at hp)) <;> simp -implicitDefEqProofs [-List.map_take, -List.map_drop, go_sem, h])
      | (refine And.intro (by first | omega | (simp only [maxLen]; omega) | (simp_all; done) | (simp_all; omega)) ?_; try simp -implicitDefEqProofs [-List.map_take, -List.map_drop, go_sem])
      | (refine run_dreg' (by decide) ?_; simp -implicitDefEqProofs [-List.map_take, -List.map_drop, go_sem])
      | ((first | refine end_tup _ (by simp) (by simp [go_sem]; rfl) (by simp [go_sem]) ?_); first | (simp [go_sem, *]; done) | grind | (simp [go_sem]; grind) | (simp_all [go_sem]; done) | (simp_all [go_sem]; omega))
def idxF_Module_L (x : Sl LModule) (g : Nat) (cs : List PV) (i : Nat) (_ : Unit) : St := ⟨lk [(0, x.I LModule.C), (1, .fn g cs), (7, .int .i64 x.es.length), (8, .int .i64 i)], [], []⟩
def mf_slices_IndexFunc_impl_Module_impl_Module : MF := ⟨19, [(.t 4)], (.seq (.reg [⟨(some 4), (.mov (.c (.int .i64 0))), none⟩]) (.seq (.seq (.reg [⟨(some 6), (.mov (.t 0)), none⟩, ⟨(some 7), (.lenl (.t 6)), none⟩, ⟨(some 8), (.mov (.c (.int .i64 0))), none⟩]) (.blk 0 (.loop (.seq (.reg [⟨(some 9), (.bin .lss (.t 8) (.t 7)), none⟩]) (.seq (.cond (.t 9) .skip (.exit 0)) (.seq (.blk 1 (.seq (.reg [⟨(some 10), (.mov (.t 8)), none⟩, ⟨(some 5), (.mov (.t 10)), none⟩]) (.seq (.reg [⟨(some 11), (.mov (.t 1)), none⟩, ⟨(some 12), (.mov (.t 0)), none⟩, ⟨(some 13), (.mov (.t 5)), none⟩, ⟨(some 14), (.iadr 3 (.t 12) (.t 13)), none⟩, ⟨(some 15), (.load true 3 (.t 14)), none⟩, ⟨(some 16), (.call (.t 11) [(.t 15)]), none⟩]) (.cond (.t 16) (.seq (.reg [⟨(some 17), (.mov (.t 5)), none⟩, ⟨(some 4), (.mov (.t 17)), none⟩]) .ret) .skip)))) (.reg [⟨(some 18), (.bin .add (.t 8) (.c (.int .i64 1))), none⟩, ⟨(some 8), (.mov (.t 18)), none⟩]))))))) (.seq (.reg [⟨(some 4), (.mov (.c (.int .i64 (-1)))), none⟩]) .ret)))⟩
theorem fit_slices_IndexFunc_impl_Module_impl_Module : Fit Tryz.prog 165 Tryz.f165 mf_slices_IndexFunc_impl_Module_impl_Module := ⟨by kernel_rfl, Tryz.func165, by kernel_rfl, by kernel_rfl, by kernel_rfl, by kernel_rfl⟩
theorem idxF_Module_ct (x : Sl LModule) (g : Nat) (cs : List PV) (hcs : pureL cs = true) (p : LModule → Bool) (hg : ∀ a, a ∈ x.es → Ct Tryz.prog g ([.agg a.C] ++ cs) (.bool (p a))) : Ct Tryz.prog 165 [x.I LModule.C, .fn g cs] (.int .i64 (idxFrom p x.es 0)) := by
  have hw1 : noOwnL cs = true := pureL_noOwn cs hcs
  have hw2 : ∀ m, bdL m cs = true := fun m => bdL_pure cs hcs
  refine ct_of_run fit_slices_IndexFunc_impl_Module_impl_Module (by simp [mf_slices_IndexFunc_impl_Module_impl_Module]) (by simp [go_sem, hw1]) fun hd => ?_
  simp -implicitDefEqProofs [-List.map_take, -List.map_drop, go_sem, mf_slices_IndexFunc_impl_Module_impl_Module]
  have hm : x.es.length ≤ maxLen := sl_deep hd.1
  refine run_iter (x.es.length) (idxF_Module_L x g cs) (fun i a => idxFrom p (x.es.drop i) i = idxFrom p x.es 0) () (gh_auto (by simp [go_sem, idxF_Module_L, hw2, hcs])) (by first | (simp; done) | (simp []; done) | (simp []; omega) | grind) ?_
  intro i a hi hj
  simp -implicitDefEqProofs [-List.map_take, -List.map_drop, go_sem, idxF_Module_L, hw2, hcs]
  refine cnd_split (fun hc => ?_) (fun hc => ?_)
  · have hlt : i < x.es.length := by first | (simpa using hc) | (simp at hc; omega)
    rw [List.drop_eq_getElem_cons (l := x.es) (by omega)] at hj
    simp only [List.map_cons, idxFrom] at hj
    simp -implicitDefEqProofs [-List.map_take, -List.map_drop, go_sem, hlt, hw2, hcs]
    repeat' first
      | ((first | refine gv_split (fun h => ?_) (fun h => ?_) | refine cnd_split (fun h => ?_) (fun h => ?_) | refine cgv_split (fun h => ?_) (fun h => ?_)) <;> (try (have hp := h; simp at hp)) <;> simp -implicitDefEqProofs [-List.map_take, -List.map_drop, go_sem, h, hlt, hw2, hcs])
      | (refine And.intro (by first | omega | (simp only [maxLen]; omega) | (simp_all; done) | (simp_all; omega)) ?_; try simp -implicitDefEqProofs [-List.map_take, -List.map_drop, go_sem, hlt, hw2, hcs])
      | ((first | refine stp_ct (hg x.es[i] (List.getElem_mem hlt)) (by simp [go_sem, hlt, hw2, hcs]) ?_ ?_ | refine cstp_ct (hg x.es[i] (List.getElem_mem hlt)) (by simp [go_sem, hlt, hw2, hcs]) ?_ ?_); (simp [go_sem]); simp -implicitDefEqProofs [-List.map_take, -List.map_drop, go_sem, hlt, hw2, hcs])
      | (refine run_dreg' (by decide) ?_; simp -implicitDefEqProofs [-List.map_take, -List.map_drop, go_sem, hlt, hw2, hcs])
      | ((first | refine kx_next () hlt (gh_auto (by simp [go_sem, idxF_Module_L, wrap_succ hlt hm, hlt, hw2, hcs])) ?_ | refine end_tup _ (by simp) (by simp [go_sem]; rfl) (by simp [go_sem]) ?_); first | (simp [go_sem, *]; done) | grind | (simp [go_sem]; grind) | (simp_all [go_sem]; done) | (simp_all [go_sem]; omega))
  · have hge : x.es.length ≤ i := by first | (simpa using hc) | (simp at hc; omega)
    rw [List.drop_of_length_le (l := x.es) (by omega)] at hj
    simp only [List.map_nil, idxFrom] at hj
    try simp -implicitDefEqProofs [-List.map_take, -List.map_drop, go_sem, hw2, hcs]
    repeat' first
      | ((first | refine gv_split (fun h => ?_) (fun h => ?_) | refine cnd_split (fun h => ?_) (fun h => ?_) | refine cgv_split (fun h => ?_) (fun h => ?_)) <;> (try (have hp := h; simp at hp)) <;> simp -implicitDefEqProofs [-List.map_take, -List.map_drop, go_sem, h, hw2, hcs])
      | (refine And.intro (by first | omega | (simp only [maxLen]; omega) | (simp_all; done) | (simp_all; omega)) ?_; try simp -implicitDefEqProofs [-List.map_take, -List.map_drop, go_sem, hw2, hcs])
      | ((first | refine stp_ct (hg x.es[i] (List.getElem_mem hlt)) (by simp [go_sem, hw2, hcs]) ?_ ?_ | refine cstp_ct (hg x.es[i] (List.getElem_mem hlt)) (by simp [go_sem, hw2, hcs]) ?_ ?_); (simp [go_sem]); simp -implicitDefEqProofs [-List.map_take, -List.map_drop, go_sem, hw2, hcs])
      | (refine run_dreg' (by decide) ?_; simp -implicitDefEqProofs [-List.map_take, -List.map_drop, go_sem, hw2, hcs])
      | ((first | refine end_tup _ (by simp) (by simp [go_sem]; rfl) (by simp [go_sem]) ?_); first | (simp [go_sem, *]; done) | grind | (simp [go_sem]; grind) | (simp_all [go_sem]; done) | (simp_all [go_sem]; omega))
def idxF_Decl_L (x : Sl LDecl) (g : Nat) (cs : List PV) (i : Nat) (_ : Unit) : St := ⟨lk [(0, x.I LDecl.C), (1, .fn g cs), (7, .int .i64 x.es.length), (8, .int .i64 i)], [], []⟩
def mf_slices_IndexFunc_impl_Decl_impl_Decl : MF := ⟨19, [(.t 4)], (.seq (.reg [⟨(some 4), (.mov (.c (.int .i64 0))), none⟩]) (.seq (.seq (.reg [⟨(some 6), (.mov (.t 0)), none⟩, ⟨(some 7), (.lenl (.t 6)), none⟩, ⟨(some 8), (.mov (.c (.int .i64 0))), none⟩]) (.blk 0 (.loop (.seq (.reg [⟨(some 9), (.bin .lss (.t 8) (.t 7)), none⟩]) (.seq (.cond (.t 9) .skip (.exit 0)) (.seq (.blk 1 (.seq (.reg [⟨(some 10), (.mov (.t 8)), none⟩, ⟨(some 5), (.mov (.t 10)), none⟩]) (.seq (.reg [⟨(some 11), (.mov (.t 1)), none⟩, ⟨(some 12), (.mov (.t 0)), none⟩, ⟨(some 13), (.mov (.t 5)), none⟩, ⟨(some 14), (.iadr 8 (.t 12) (.t 13)), none⟩, ⟨(some 15), (.load true 8 (.t 14)), none⟩, ⟨(some 16), (.call (.t 11) [(.t 15)]), none⟩]) (.cond (.t 16) (.seq (.reg [⟨(some 17), (.mov (.t 5)), none⟩, ⟨(some 4), (.mov (.t 17)), none⟩]) .ret) .skip)))) (.reg [⟨(some 18), (.bin .add (.t 8) (.c (.int .i64 1))), none⟩, ⟨(some 8), (.mov (.t 18)), none⟩]))))))) (.seq (.reg [⟨(some 4), (.mov (.c (.int .i64 (-1)))), none⟩]) .ret)))⟩
theorem fit_slices_IndexFunc_impl_Decl_impl_Decl : Fit Tryz.prog 170 Tryz.f170 mf_slices_IndexFunc_impl_Decl_impl_Decl := ⟨by kernel_rfl, Tryz.func170, by kernel_rfl, by kernel_rfl, by kernel_rfl, by kernel_rfl⟩
theorem idxF_Decl_ct (x : Sl LDecl) (g : Nat) (cs : List PV) (hcs : pureL cs = true) (p : LDecl → Bool) (hg : ∀ a, a ∈ x.es → Ct Tryz.prog g ([.agg a.C] ++ cs) (.bool (p a))) : Ct Tryz.prog 170 [x.I LDecl.C, .fn g cs] (.int .i64 (idxFrom p x.es 0)) := by
  have hw1 : noOwnL cs = true := pureL_noOwn cs hcs
  have hw2 : ∀ m, bdL m cs = true := fun m => bdL_pure cs hcs
  refine ct_of_run fit_slices_IndexFunc_impl_Decl_impl_Decl (by simp [mf_slices_IndexFunc_impl_Decl_impl_Decl]) (by simp [go_sem, hw1]) fun hd => ?_
  simp -implicitDefEqProofs [-List.map_take, -List.map_drop, go_sem, mf_slices_IndexFunc_impl_Decl_impl_Decl]
  have hm : x.es.length ≤ maxLen := sl_deep hd.1
  refine run_iter (x.es.length) (idxF_Decl_L x g cs) (fun i a => idxFrom p (x.es.drop i) i = idxFrom p x.es 0) () (gh_auto (by simp [go_sem, idxF_Decl_L, hw2, hcs])) (by first | (simp; done) | (simp []; done) | (simp []; omega) | grind) ?_
  intro i a hi hj
  simp -implicitDefEqProofs [-List.map_take, -List.map_drop, go_sem, idxF_Decl_L, hw2, hcs]
  refine cnd_split (fun hc => ?_) (fun hc => ?_)
  · have hlt : i < x.es.length := by first | (simpa using hc) | (simp at hc; omega)
    rw [List.drop_eq_getElem_cons (l := x.es) (by omega)] at hj
    simp only [List.map_cons, idxFrom] at hj
    simp -implicitDefEqProofs [-List.map_take, -List.map_drop, go_sem, hlt, hw2, hcs]
    repeat' first
      | ((first | refine gv_split (fun h => ?_) (fun h => ?_) | refine cnd_split (fun h => ?_) (fun h => ?_) | refine cgv_split (fun h => ?_) (fun h => ?_)) <;> (try (have hp := h; simp at hp)) <;> simp -implicitDefEqProofs [-List.map_take, -List.map_drop, go_sem, h, hlt, hw2, hcs])
      | (refine And.intro (by first | omega | (simp only [maxLen]; omega) | (simp_all; done) | (simp_all; omega)) ?_; try simp -implicitDefEqProofs [-List.map_take, -List.map_drop, go_sem, hlt, hw2, hcs])
      | ((first | refine stp_ct (hg x.es[i] (List.getElem_mem hlt)) (by simp [go_sem, hlt, hw2, hcs]) ?_ ?_ | refine cstp_ct (hg x.es[i] (List.getElem_mem hlt)) (by simp [go_sem, hlt, hw2, hcs]) ?_ ?_); (simp [go_sem]); simp -implicitDefEqProofs [-List.map_take, -List.map_drop, go_sem, hlt, hw2, hcs])
      | (refine run_dreg' (by decide) ?_; simp -implicitDefEqProofs [-List.map_take, -List.map_drop, go_sem, hlt, hw2, hcs])
      | ((first | refine kx_next () hlt (gh_auto (by simp [go_sem, idxF_Decl_L, wrap_succ hlt hm, hlt, hw2, hcs])) ?_ | refine end_tup _ (by simp) (by simp [go_sem]; rfl) (by simp [go_sem]) ?_); first | (simp [go_sem, *]; done) | grind | (simp [go_sem]; grind) | (simp_all [go_sem]; done) | (simp_all [go_sem]; omega))
  · have hge : x.es.length ≤ i := by first | (simpa using hc) | (simp at hc; omega)
    rw [List.drop_of_length_le (l := x.es) (by omega)] at hj
    simp only [List.map_nil, idxFrom] at hj
    try simp -implicitDefEqProofs [-List.map_take, -List.map_drop, go_sem, hw2, hcs]
    repeat' first
      | ((first | refine gv_split (fun h => ?_) (fun h => ?_) | refine cnd_split (fun h => ?_) (fun h => ?_) | refine cgv_split (fun h => ?_) (fun h => ?_)) <;> (try (have hp := h; simp at hp)) <;> simp -implicitDefEqProofs [-List.map_take, -List.map_drop, go_sem, h, hw2, hcs])
      | (refine And.intro (by first | omega | (simp only [maxLen]; omega) | (simp_all; done) | (simp_all; omega)) ?_; try simp -implicitDefEqProofs [-List.map_take, -List.map_drop, go_sem, hw2, hcs])
      | ((first | refine stp_ct (hg x.es[i] (List.getElem_mem hlt)) (by simp [go_sem, hw2, hcs]) ?_ ?_ | refine cstp_ct (hg x.es[i] (List.getElem_mem hlt)) (by simp [go_sem, hw2, hcs]) ?_ ?_); (simp [go_sem]); simp -implicitDefEqProofs [-List.map_take, -List.map_drop, go_sem, hw2, hcs])
      | (refine run_dreg' (by decide) ?_; simp -implicitDefEqProofs [-List.map_take, -List.map_drop, go_sem, hw2, hcs])
      | ((first | refine end_tup _ (by simp) (by simp [go_sem]; rfl) (by simp [go_sem]) ?_); first | (simp [go_sem, *]; done) | grind | (simp [go_sem]; grind) | (simp_all [go_sem]; done) | (simp_all [go_sem]; omega))
def idxF_Use_L (x : Sl Use) (g : Nat) (cs : List PV) (i : Nat) (_ : Unit) : St := ⟨lk [(0, x.I Use.C), (1, .fn g cs), (7, .int .i64 x.es.length), (8, .int .i64 i)], [], []⟩
def mf_slices_IndexFunc_impl_Use_impl_Use : MF := ⟨19, [(.t 4)], (.seq (.reg [⟨(some 4), (.mov (.c (.int .i64 0))), none⟩]) (.seq (.seq (.reg [⟨(some 6), (.mov (.t 0)), none⟩, ⟨(some 7), (.lenl (.t 6)), none⟩, ⟨(some 8), (.mov (.c (.int .i64 0))), none⟩]) (.blk 0 (.loop (.seq (.reg [⟨(some 9), (.bin .lss (.t 8) (.t 7)), none⟩]) (.seq (.cond (.t 9) .skip (.exit 0)) (.seq (.blk 1 (.seq (.reg [⟨(some 10), (.mov (.t 8)), none⟩, ⟨(some 5), (.mov (.t 10)), none⟩]) (.seq (.reg [⟨(some 11), (.mov (.t 1)), none⟩, ⟨(some 12), (.mov (.t 0)), none⟩, ⟨(some 13), (.mov (.t 5)), none⟩, ⟨(some 14), (.iadr 2 (.t 12) (.t 13)), none⟩, ⟨(some 15), (.load true 2 (.t 14)), none⟩, ⟨(some 16), (.call (.t 11) [(.t 15)]), none⟩]) (.cond (.t 16) (.seq (.reg [⟨(some 17), (.mov (.t 5)), none⟩, ⟨(some 4), (.mov (.t 17)), none⟩]) .ret) .skip)))) (.reg [⟨(some 18), (.bin .add (.t 8) (.c (.int .i64 1))), none⟩, ⟨(some 8), (.mov (.t 18)), none⟩]))))))) (.seq (.reg [⟨(some 4), (.mov (.c (.int .i64 (-1)))), none⟩]) .ret)))⟩
theorem fit_slices_IndexFunc_impl_Use_impl_Use : Fit Tryz.prog 168 Tryz.f168 mf_slices_IndexFunc_impl_Use_impl_Use := ⟨by kernel_rfl, Tryz.func168, by kernel_rfl, by kernel_rfl, by kernel_rfl, by kernel_rfl⟩
theorem idxF_Use_ct (x : Sl Use) (g : Nat) (cs : List PV) (hcs : pureL cs = true) (p : Use → Bool) (hg : ∀ a, a ∈ x.es → Ct Tryz.prog g ([.agg a.C] ++ cs) (.bool (p a))) : Ct Tryz.prog 168 [x.I Use.C, .fn g cs] (.int .i64 (idxFrom p x.es 0)) := by
  have hw1 : noOwnL cs = true := pureL_noOwn cs hcs
  have hw2 : ∀ m, bdL m cs = true := fun m => bdL_pure cs hcs
  refine ct_of_run fit_slices_IndexFunc_impl_Use_impl_Use (by simp [mf_slices_IndexFunc_impl_Use_impl_Use]) (by simp [go_sem, hw1]) fun hd => ?_
  simp -implicitDefEqProofs [-List.map_take, -List.map_drop, go_sem, mf_slices_IndexFunc_impl_Use_impl_Use]
  have hm : x.es.length ≤ maxLen := sl_deep hd.1
  refine run_iter (x.es.length) (idxF_Use_L x g cs) (fun i a => idxFrom p (x.es.drop i) i = idxFrom p x.es 0) () (gh_auto (by simp [go_sem, idxF_Use_L, hw2, hcs])) (by first | (simp; done) | (simp []; done) | (simp []; omega) | grind) ?_
  intro i a hi hj
  simp -implicitDefEqProofs [-List.map_take, -List.map_drop, go_sem, idxF_Use_L, hw2, hcs]
  refine cnd_split (fun hc => ?_) (fun hc => ?_)
  · have hlt : i < x.es.length := by first | (simpa using hc) | (simp at hc; omega)
    rw [List.drop_eq_getElem_cons (l := x.es) (by omega)] at hj
    simp only [List.map_cons, idxFrom] at hj
    simp -implicitDefEqProofs [-List.map_take, -List.map_drop, go_sem, hlt, hw2, hcs]
    repeat' first
      | ((first | refine gv_split (fun h => ?_) (fun h => ?_) | refine cnd_split (fun h => ?_) (fun h => ?_) | refine cgv_split (fun h => ?_) (fun h => ?_)) <;> (try (have hp := h; simp at hp)) <;> simp -implicitDefEqProofs [-List.map_take, -List.map_drop, go_sem, h, hlt, hw2, hcs])
      | (refine And.intro (by first | omega | (simp only [maxLen]; omega) | (simp_all; done) | (simp_all; omega)) ?_; try simp -implicitDefEqProofs [-List.map_take, -List.map_drop, go_sem, hlt, hw2, hcs])
      | ((first | refine stp_ct (hg x.es[i] (List.getElem_mem hlt)) (by simp [go_sem, hlt, hw2, hcs]) ?_ ?_ | refine cstp_ct (hg x.es[i] (List.getElem_mem hlt)) (by simp [go_sem, hlt, hw2, hcs]) ?_ ?_); (simp [go_sem]); simp -implicitDefEqProofs [-List.map_take, -List.map_drop, go_sem, hlt, hw2, hcs])
      | (refine run_dreg' (by decide) ?_; simp -implicitDefEqProofs [-List.map_take, -List.map_drop, go_sem, hlt, hw2, hcs])
      | ((first | refine kx_next () hlt (gh_auto (by simp [go_sem, idxF_Use_L, wrap_succ hlt hm, hlt, hw2, hcs])) ?_ | refine end_tup _ (by simp) (by simp [go_sem]; rfl) (by simp [go_sem]) ?_); first | (simp [go_sem, *]; done) | grind | (simp [go_sem]; grind) | (simp_all [go_sem]; done) | (simp_all [go_sem]; omega))
  · have hge : x.es.length ≤ i := by first | (simpa using hc) | (simp at hc; omega)
    rw [List.drop_of_length_le (l := x.es) (by omega)] at hj
    simp only [List.map_nil, idxFrom] at hj
    try simp -implicitDefEqProofs [-List.map_take, -List.map_drop, go_sem, hw2, hcs]
    repeat' first
      | ((first | refine gv_split (fun h => ?_) (fun h => ?_) | refine cnd_split (fun h => ?_) (fun h => ?_) | refine cgv_split (fun h => ?_) (fun h => ?_)) <;> (try (have hp := h; simp at hp)) <;> simp -implicitDefEqProofs [-List.map_take, -List.map_drop, go_sem, h, hw2, hcs])
      | (refine And.intro (by first | omega | (simp only [maxLen]; omega) | (simp_all; done) | (simp_all; omega)) ?_; try simp -implicitDefEqProofs [-List.map_take, -List.map_drop, go_sem, hw2, hcs])
      | ((first | refine stp_ct (hg x.es[i] (List.getElem_mem hlt)) (by simp [go_sem, hw2, hcs]) ?_ ?_ | refine cstp_ct (hg x.es[i] (List.getElem_mem hlt)) (by simp [go_sem, hw2, hcs]) ?_ ?_); (simp [go_sem]); simp -implicitDefEqProofs [-List.map_take, -List.map_drop, go_sem, hw2, hcs])
      | (refine run_dreg' (by decide) ?_; simp -implicitDefEqProofs [-List.map_take, -List.map_drop, go_sem, hw2, hcs])
      | ((first | refine end_tup _ (by simp) (by simp [go_sem]; rfl) (by simp [go_sem]) ?_); first | (simp [go_sem, *]; done) | grind | (simp [go_sem]; grind) | (simp_all [go_sem]; done) | (simp_all [go_sem]; omega))
def idxF_Bind_L (x : Sl Bind) (g : Nat) (cs : List PV) (i : Nat) (_ : Unit) : St := ⟨lk [(0, x.I Bind.C), (1, .fn g cs), (7, .int .i64 x.es.length), (8, .int .i64 i)], [], []⟩
def mf_slices_IndexFunc_impl_Bind_impl_Bind : MF := ⟨19, [(.t 4)], (.seq (.reg [⟨(some 4), (.mov (.c (.int .i64 0))), none⟩]) (.seq (.seq (.reg [⟨(some 6), (.mov (.t 0)), none⟩, ⟨(some 7), (.lenl (.t 6)), none⟩, ⟨(some 8), (.mov (.c (.int .i64 0))), none⟩]) (.blk 0 (.loop (.seq (.reg [⟨(some 9), (.bin .lss (.t 8) (.t 7)), none⟩]) (.seq (.cond (.t 9) .skip (.exit 0)) (.seq (.blk 1 (.seq (.reg [⟨(some 10), (.mov (.t 8)), none⟩, ⟨(some 5), (.mov (.t 10)), none⟩]) (.seq (.reg [⟨(some 11), (.mov (.t 1)), none⟩, ⟨(some 12), (.mov (.t 0)), none⟩, ⟨(some 13), (.mov (.t 5)), none⟩, ⟨(some 14), (.iadr 2 (.t 12) (.t 13)), none⟩, ⟨(some 15), (.load true 2 (.t 14)), none⟩, ⟨(some 16), (.call (.t 11) [(.t 15)]), none⟩]) (.cond (.t 16) (.seq (.reg [⟨(some 17), (.mov (.t 5)), none⟩, ⟨(some 4), (.mov (.t 17)), none⟩]) .ret) .skip)))) (.reg [⟨(some 18), (.bin .add (.t 8) (.c (.int .i64 1))), none⟩, ⟨(some 8), (.mov (.t 18)), none⟩]))))))) (.seq (.reg [⟨(some 4), (.mov (.c (.int .i64 (-1)))), none⟩]) .ret)))⟩
theorem fit_slices_IndexFunc_impl_Bind_impl_Bind : Fit Tryz.prog 263 Tryz.f263 mf_slices_IndexFunc_impl_Bind_impl_Bind := ⟨by kernel_rfl, Tryz.func263, by kernel_rfl, by kernel_rfl, by kernel_rfl, by kernel_rfl⟩
theorem idxF_Bind_ct (x : Sl Bind) (g : Nat) (cs : List PV) (hcs : pureL cs = true) (p : Bind → Bool) (hg : ∀ a, a ∈ x.es → Ct Tryz.prog g ([.agg a.C] ++ cs) (.bool (p a))) : Ct Tryz.prog 263 [x.I Bind.C, .fn g cs] (.int .i64 (idxFrom p x.es 0)) := by
  have hw1 : noOwnL cs = true := pureL_noOwn cs hcs
  have hw2 : ∀ m, bdL m cs = true := fun m => bdL_pure cs hcs
  refine ct_of_run fit_slices_IndexFunc_impl_Bind_impl_Bind (by simp [mf_slices_IndexFunc_impl_Bind_impl_Bind]) (by simp [go_sem, hw1]) fun hd => ?_
  simp -implicitDefEqProofs [-List.map_take, -List.map_drop, go_sem, mf_slices_IndexFunc_impl_Bind_impl_Bind]
  have hm : x.es.length ≤ maxLen := sl_deep hd.1
  refine run_iter (x.es.length) (idxF_Bind_L x g cs) (fun i a => idxFrom p (x.es.drop i) i = idxFrom p x.es 0) () (gh_auto (by simp [go_sem, idxF_Bind_L, hw2, hcs])) (by first | (simp; done) | (simp []; done) | (simp []; omega) | grind) ?_
  intro i a hi hj
  simp -implicitDefEqProofs [-List.map_take, -List.map_drop, go_sem, idxF_Bind_L, hw2, hcs]
  refine cnd_split (fun hc => ?_) (fun hc => ?_)
  · have hlt : i < x.es.length := by first | (simpa using hc) | (simp at hc; omega)
    rw [List.drop_eq_getElem_cons (l := x.es) (by omega)] at hj
    simp only [List.map_cons, idxFrom] at hj
    simp -implicitDefEqProofs [-List.map_take, -List.map_drop, go_sem, hlt, hw2, hcs]
    repeat' first
      | ((first | refine gv_split (fun h => ?_) (fun h => ?_) | refine cnd_split (fun h => ?_) (fun h => ?_) | refine cgv_split (fun h => ?_) (fun h => ?_)) <;> (try (have hp := h; simp at hp)) <;> simp -implicitDefEqProofs [-List.map_take, -List.map_drop, go_sem, h, hlt, hw2, hcs])
      | (refine And.intro (by first | omega | (simp only [maxLen]; omega) | (simp_all; done) | (simp_all; omega)) ?_; try simp -implicitDefEqProofs [-List.map_take, -List.map_drop, go_sem, hlt, hw2, hcs])
      | ((first | refine stp_ct (hg x.es[i] (List.getElem_mem hlt)) (by simp [go_sem, hlt, hw2, hcs]) ?_ ?_ | refine cstp_ct (hg x.es[i] (List.getElem_mem hlt)) (by simp [go_sem, hlt, hw2, hcs]) ?_ ?_); (simp [go_sem]); simp -implicitDefEqProofs [-List.map_take, -List.map_drop, go_sem, hlt, hw2, hcs])
      | (refine run_dreg' (by decide) ?_; simp -implicitDefEqProofs [-List.map_take, -List.map_drop, go_sem, hlt, hw2, hcs])
      | ((first | refine kx_next () hlt (gh_auto (by simp [go_sem, idxF_Bind_L, wrap_succ hlt hm, hlt, hw2, hcs])) ?_ | refine end_tup _ (by simp) (by simp [go_sem]; rfl) (by simp [go_sem]) ?_); first | (simp [go_sem, *]; done) | grind | (simp [go_sem]; grind) | (simp_all [go_sem]; done) | (simp_all [go_sem]; omega))
  · have hge : x.es.length ≤ i := by first | (simpa using hc) | (simp at hc; omega)
    rw [List.drop_of_length_le (l := x.es) (by omega)] at hj
    simp only [List.map_nil, idxFrom] at hj
    try simp -implicitDefEqProofs [-List.map_take, -List.map_drop, go_sem, hw2, hcs]
    repeat' first
      | ((first | refine gv_split (fun h => ?_) (fun h => ?_) | refine cnd_split (fun h => ?_) (fun h => ?_) | refine cgv_split (fun h => ?_) (fun h => ?_)) <;> (try (have hp := h; simp at hp)) <;> simp -implicitDefEqProofs [-List.map_take, -List.map_drop, go_sem, h, hw2, hcs])
      | (refine And.intro (by first | omega | (simp only [maxLen]; omega) | (simp_all; done) | (simp_all; omega)) ?_; try simp -implicitDefEqProofs [-List.map_take, -List.map_drop, go_sem, hw2, hcs])
      | ((first | refine stp_ct (hg x.es[i] (List.getElem_mem hlt)) (by simp [go_sem, hw2, hcs]) ?_ ?_ | refine cstp_ct (hg x.es[i] (List.getElem_mem hlt)) (by simp [go_sem, hw2, hcs]) ?_ ?_); (simp [go_sem]); simp -implicitDefEqProofs [-List.map_take, -List.map_drop, go_sem, hw2, hcs])
      | (refine run_dreg' (by decide) ?_; simp -implicitDefEqProofs [-List.map_take, -List.map_drop, go_sem, hw2, hcs])
      | ((first | refine end_tup _ (by simp) (by simp [go_sem]; rfl) (by simp [go_sem]) ?_); first | (simp [go_sem, *]; done) | grind | (simp [go_sem]; grind) | (simp_all [go_sem]; done) | (simp_all [go_sem]; omega))
end Go.Mach
