import Derived.Test.YtgkpfkfomonmgaaGreatWa
import Derived.Test.YtgkpfkfomonmgaaGreatDa
/- Programs of the reference, walked. -/
set_option maxHeartbeats 4000000
namespace Go.Mach
open Go Go.Proofs
set_option linter.unusedVariables false
set_option linter.unusedSimpArgs false
attribute [local go_sem] run_seq run_skip run_reg run_blk run_exit run_ret run_cond cnd_true cnd_false kx_seq_normal kx_seq_exit kx_seq_ret kx_blk_normal kx_blk_same kx_blk_other kx_blk_ret kx_loop_exit kx_loop_ret kx_done ops_nil ops_plain ops_grd gv_tt gv_ff gv_tf gv_ft gv_tup stp_ok stp_ob stp_hp stp_bad stp_if get_t get_c putO_some putO_none put_same put_ne put_σ put_base withσ_τ withσ_σ withσ_base withσ_put withσ_withσ mk_τ mk_σ mk_base mk_withσ entry_τ entry_σ entry_base calm_nil calm_plain calm_grd cgv_tt cgv_ff cgv_tf cgv_ft cgv_tup cstp_ok cstp_ob cstp_if
attribute [local irreducible] Ct Co Cs
attribute [local go_sem] evalOp notV negV pickV binV intB seqV beqV catV lensV lenlV boxV_eq newV cellsOf cellV fadrV fldV fldC loadV loadC_ag loadC_one plainV isOwn iadrV storeV lk bdV bdL renO renL renV pureV pureL noOwnV noOwnL idxV slsV optI extV resL resV ret1 mmV cnviV cnvsV nilcV eqnV bslV bslGo appV elems okE appE getD_map okO_none okO_some strC intC Sl.I
attribute [local simp] Bind.eqa Use.eqa loadC_str loadC_int Bind.C_len Bind.C_pure Bind.C_noOwn Bind.C_cell Bind.C_bd Bind.C_bdL Bind.C_ren Bind.C_any Bind.C_any0 Bind.C_any1 Bind.C_anyt Bind.C_take Bind.C_load Bind.C_load0 Bind.C_load1 Bind.C_fld Bind.C_box Bind.C_fold Use.C_len Use.C_pure Use.C_noOwn Use.C_cell Use.C_bd Use.C_bdL Use.C_ren Use.C_any Use.C_any0 Use.C_any1 Use.C_anyt Use.C_take Use.C_load Use.C_load0 Use.C_load1 Use.C_fld Use.C_box Use.C_fold LExpr.C_len LExpr.C_pure LExpr.C_noOwn LExpr.C_cell LExpr.C_bd LExpr.C_bdL LExpr.C_ren LExpr.C_any LExpr.C_any0 LExpr.C_any1 LExpr.C_anyt LExpr.C_take LExpr.C_load LExpr.C_load0 LExpr.C_load1 LExpr.C_fld LExpr.C_box LExpr.C_fold LDecl.C_len LDecl.C_pure LDecl.C_noOwn LDecl.C_cell LDecl.C_bd LDecl.C_bdL LDecl.C_ren LDecl.C_any LDecl.C_any0 LDecl.C_any1 LDecl.C_anyt LDecl.C_take LDecl.C_load LDecl.C_load0 LDecl.C_load1 LDecl.C_fld LDecl.C_box LDecl.C_fold LModule.C_len LModule.C_pure LModule.C_noOwn LModule.C_cell LModule.C_bd LModule.C_bdL LModule.C_ren LModule.C_any LModule.C_any0 LModule.C_any1 LModule.C_anyt LModule.C_take LModule.C_load LModule.C_load0 LModule.C_load1 LModule.C_fld LModule.C_box LModule.C_fold

def same_L (a b : LExpr) (i : Nat) (_ : Unit) : St := ⟨lk [(2, .ptr 0 1 0 0), (3, .ptr 1 1 0 0), (5, .int .i64 i)], [some ⟨[[.int .i64 a.kind, .int .i64 a.num, .str a.text, .imm (a.kids.map LExpr.C) a.sp a.lim]], 4, 31, false, false⟩, some ⟨[[.int .i64 b.kind, .int .i64 b.num, .str b.text, .imm (b.kids.map LExpr.C) b.sp b.lim]], 4, 31, false, false⟩], []⟩
def mf_spec_same : MF := ⟨53, [(.t 4)], (.seq (.reg [⟨(some 2), (.box 31 (.t 0)), none⟩, ⟨(some 3), (.box 31 (.t 1)), none⟩, ⟨(some 4), (.mov (.c (.bool false))), none⟩]) (.seq (.seq (.reg [⟨(some 6), (.fadr 0 (.t 2)), none⟩, ⟨(some 7), (.load false 1 (.t 6)), none⟩, ⟨(some 8), (.fadr 0 (.t 3)), none⟩, ⟨(some 9), (.load false 1 (.t 8)), none⟩, ⟨(some 10), (.bin .neq (.t 7) (.t 9)), none⟩, ⟨(some 11), (.mov (.t 10)), none⟩, ⟨(some 12), (.fadr 1 (.t 2)), (some (11, false))⟩, ⟨(some 13), (.load false 1 (.t 12)), (some (11, false))⟩, ⟨(some 14), (.fadr 1 (.t 3)), (some (11, false))⟩, ⟨(some 15), (.load false 1 (.t 14)), (some (11, false))⟩, ⟨(some 16), (.bin .neq (.t 13) (.t 15)), (some (11, false))⟩, ⟨(some 17), (.pick (.t 11) (.c (.bool true)) (.t 16)), none⟩, ⟨(some 18), (.mov (.t 17)), none⟩, ⟨(some 19), (.fadr 2 (.t 2)), (some (18, false))⟩, ⟨(some 20), (.load false 1 (.t 19)), (some (18, false))⟩, ⟨(some 21), (.fadr 2 (.t 3)), (some (18, false))⟩, ⟨(some 22), (.load false 1 (.t 21)), (some (18, false))⟩, ⟨(some 23), (.seq true (.t 20) (.t 22)), (some (18, false))⟩, ⟨(some 24), (.pick (.t 18) (.c (.bool true)) (.t 23)), none⟩, ⟨(some 25), (.mov (.t 24)), none⟩, ⟨(some 26), (.fadr 3 (.t 2)), (some (25, false))⟩, ⟨(some 27), (.load false 1 (.t 26)), (some (25, false))⟩, ⟨(some 28), (.lenl (.t 27)), (some (25, false))⟩, ⟨(some 29), (.fadr 3 (.t 3)), (some (25, false))⟩, ⟨(some 30), (.load false 1 (.t 29)), (some (25, false))⟩, ⟨(some 31), (.lenl (.t 30)), (some (25, false))⟩, ⟨(some 32), (.bin .neq (.t 28) (.t 31)), (some (25, false))⟩, ⟨(some 33), (.pick (.t 25) (.c (.bool true)) (.t 32)), none⟩]) (.cond (.t 33) (.seq (.reg [⟨(some 4), (.mov (.c (.bool false))), none⟩]) .ret) .skip)) (.seq (.seq (.reg [⟨(some 5), (.mov (.c (.int .i64 0))), none⟩]) (.blk 0 (.loop (.seq (.seq (.reg [⟨(some 34), (.mov (.t 5)), none⟩, ⟨(some 35), (.fadr 3 (.t 2)), none⟩, ⟨(some 36), (.load false 1 (.t 35)), none⟩, ⟨(some 37), (.lenl (.t 36)), none⟩, ⟨(some 38), (.bin .lss (.t 34) (.t 37)), none⟩]) (.cond (.t 38) .skip (.exit 0))) (.seq (.blk 1 (.seq (.dreg [(⟨(some 41), (.fadr 3 (.t 2)), none⟩, []), (⟨(some 42), (.load false 1 (.t 41)), none⟩, [0]), (⟨(some 43), (.mov (.t 5)), none⟩, []), (⟨(some 44), (.iadr 4 (.t 42) (.t 43)), none⟩, [1, 2]), (⟨(some 45), (.load true 4 (.t 44)), none⟩, [3]), (⟨(some 46), (.fadr 3 (.t 3)), none⟩, []), (⟨(some 47), (.load false 1 (.t 46)), none⟩, [5]), (⟨(some 48), (.mov (.t 5)), none⟩, []), (⟨(some 49), (.iadr 4 (.t 47) (.t 48)), none⟩, [6, 7]), (⟨(some 50), (.load true 4 (.t 49)), none⟩, [8]), (⟨(some 51), (.call (.c (.fn 61 [])) [(.t 45), (.t 50)]), none⟩, [4, 9]), (⟨(some 52), (.not (.t 51)), none⟩, [10])]) (.cond (.t 52) (.seq (.reg [⟨(some 4), (.mov (.c (.bool false))), none⟩]) .ret) .skip))) (.reg [⟨(some 39), (.mov (.t 5)), none⟩, ⟨(some 40), (.bin .add (.t 39) (.c (.int .i64 1))), none⟩, ⟨(some 5), (.mov (.t 40)), none⟩])))))) (.seq (.reg [⟨(some 4), (.mov (.c (.bool true))), none⟩]) .ret))))⟩
theorem fit_spec_same : Fit Tryz.prog 61 Tryz.f61 mf_spec_same := ⟨by kernel_rfl, Tryz.func61, by kernel_rfl, by kernel_rfl, by kernel_rfl, by kernel_rfl⟩
theorem same_ct (x y : LExpr) : Ct Tryz.prog 61 [.agg x.C, .agg y.C] (.bool (Expr.same x.core y.core)) := by
  refine ct_of_run fit_spec_same (by simp [mf_spec_same]) (by simp [go_sem]) fun hd => ?_
  simp -implicitDefEqProofs [-List.map_take, -List.map_drop, go_sem, mf_spec_same]
  have hm : x.kids.length ≤ maxLen := by have := LExpr.deep hd.1; omega
  rw [Expr.same_eq, LExpr.core_kind, LExpr.core_num, LExpr.core_text, LExpr.core_kids, LExpr.core_kind, LExpr.core_num, LExpr.core_text, LExpr.core_kids]
  have hne := Expr.sames_ne (x.kids.map LExpr.core) (y.kids.map LExpr.core)
  simp only [List.length_map] at hne
  repeat' first
    | ((first | refine gv_split (fun h => ?_) (fun h => ?_) | refine cnd_split (fun h => ?_) (fun h => ?_) | refine cgv_split (fun h => ?_) (fun h => ?_)) <;> (try (have hp := h; simp at hp)) <;> simp -implicitDefEqProofs [-List.map_take, -List.map_drop, go_sem, h])
    | (refine And.intro (by first | omega | (simp only [maxLen]; omega) | (simp_all; done) | (simp_all; omega)) ?_; try simp -implicitDefEqProofs [-List.map_take, -List.map_drop, go_sem])
    | (refine run_dreg' (by decide) ?_; simp -implicitDefEqProofs [-List.map_take, -List.map_drop, go_sem])
    | ((first | refine end_tup _ (by simp) (by simp [go_sem]; rfl) (by simp [go_sem]) ?_); first | (simp [go_sem, *]; done) | grind | (simp [go_sem]; grind) | (simp_all [go_sem]; done) | (simp_all [go_sem]; omega))
  have hlen : x.kids.length = y.kids.length := by omega
  refine run_iter (x.kids.length) (same_L x y) (fun i a => Expr.sames ((x.kids.drop i).map LExpr.core) ((y.kids.drop i).map LExpr.core) = Expr.sames (x.kids.map LExpr.core) (y.kids.map LExpr.core)) () (gh_auto (by simp [go_sem, same_L])) (by first | (simp; done) | (simp []; done) | (simp []; omega) | grind) ?_
  intro i a hi hj
  simp -implicitDefEqProofs [-List.map_take, -List.map_drop, go_sem, same_L]
  refine cnd_split (fun hc => ?_) (fun hc => ?_)
  · have hlt : i < x.kids.length := by first | (simpa using hc) | (simp at hc; omega)
    rw [List.drop_eq_getElem_cons (l := x.kids) (by omega)] at hj
    have hlt_1 : i < y.kids.length := by omega
    rw [List.drop_eq_getElem_cons (l := y.kids) (by omega)] at hj
    simp only [List.map_cons, Expr.sames] at hj
    simp -implicitDefEqProofs [-List.map_take, -List.map_drop, go_sem, hlt, hlt_1]
    repeat' first
      | ((first | refine gv_split (fun h => ?_) (fun h => ?_) | refine cnd_split (fun h => ?_) (fun h => ?_) | refine cgv_split (fun h => ?_) (fun h => ?_)) <;> (try (have hp := h; simp at hp)) <;> simp -implicitDefEqProofs [-List.map_take, -List.map_drop, go_sem, h, hlt, hlt_1])
      | (refine And.intro (by first | omega | (simp only [maxLen]; omega) | (simp_all; done) | (simp_all; omega)) ?_; try simp -implicitDefEqProofs [-List.map_take, -List.map_drop, go_sem, hlt, hlt_1])
      | ((first | refine stp_ct (same_ct x.kids[i] y.kids[i]) (by simp [go_sem, hlt, hlt_1]) ?_ ?_ | refine cstp_ct (same_ct x.kids[i] y.kids[i]) (by simp [go_sem, hlt, hlt_1]) ?_ ?_); (simp [go_sem]); simp -implicitDefEqProofs [-List.map_take, -List.map_drop, go_sem, hlt, hlt_1])
      | (refine run_dreg' (by decide) ?_; simp -implicitDefEqProofs [-List.map_take, -List.map_drop, go_sem, hlt, hlt_1])
      | ((first | refine kx_next () hlt (gh_auto (by simp [go_sem, same_L, wrap_succ hlt hm, hlt, hlt_1])) ?_ | refine end_tup _ (by simp) (by simp [go_sem]; rfl) (by simp [go_sem]) ?_); first | (simp [go_sem, *]; done) | grind | (simp [go_sem]; grind) | (simp_all [go_sem]; done) | (simp_all [go_sem]; omega))
  · have hge : x.kids.length ≤ i := by first | (simpa using hc) | (simp at hc; omega)
    rw [List.drop_of_length_le (l := x.kids) (by omega)] at hj
    rw [List.drop_of_length_le (l := y.kids) (by omega)] at hj
    simp only [List.map_nil, Expr.sames] at hj
    try simp -implicitDefEqProofs [-List.map_take, -List.map_drop, go_sem]
    repeat' first
      | ((first | refine gv_split (fun h => ?_) (fun h => ?_) | refine cnd_split (fun h => ?_) (fun h => ?_) | refine cgv_split (fun h => ?_) (fun h => ?_)) <;> (try (have hp := h; simp at hp)) <;> simp -implicitDefEqProofs [-List.map_take, -List.map_drop, go_sem, h])
      | (refine And.intro (by first | omega | (simp only [maxLen]; omega) | (simp_all; done) | (simp_all; omega)) ?_; try simp -implicitDefEqProofs [-List.map_take, -List.map_drop, go_sem])
      | ((first | refine stp_ct (same_ct x.kids[i] y.kids[i]) (by simp [go_sem]) ?_ ?_ | refine cstp_ct (same_ct x.kids[i] y.kids[i]) (by simp [go_sem]) ?_ ?_); (simp [go_sem]); simp -implicitDefEqProofs [-List.map_take, -List.map_drop, go_sem])
      | (refine run_dreg' (by decide) ?_; simp -implicitDefEqProofs [-List.map_take, -List.map_drop, go_sem])
      | ((first | refine end_tup _ (by simp) (by simp [go_sem]; rfl) (by simp [go_sem]) ?_); first | (simp [go_sem, *]; done) | grind | (simp [go_sem]; grind) | (simp_all [go_sem]; done) | (simp_all [go_sem]; omega))
termination_by SizeOf.sizeOf x
decreasing_by all_goals exact LExpr.kid_lt (List.getElem_mem hlt)
def zeroL : LExpr := .mk 0 0 [] [] [] true
theorem zeroL_core : zeroL.core = zeroE := rfl
theorem zeroL_C : [PV.int .i64 0, .int .i64 0, .str [], .imm [] [] true] = zeroL.C := rfl
def mf_spec_zeroExpr : MF := ⟨6, [(.t 2)], (.seq (.reg [⟨(some 1), (.box 31 (.t 0)), none⟩, ⟨(some 2), (.mov (.c (.bool false))), none⟩]) (.seq (.reg [⟨(some 3), (.load true 4 (.t 1)), none⟩, ⟨(some 4), (.build [(.int .i64 0), (.int .i64 0), (.str []), (.imm [] [] true)] []), none⟩, ⟨(some 5), (.call (.c (.fn 61 [])) [(.t 3), (.t 4)]), none⟩, ⟨(some 2), (.mov (.t 5)), none⟩]) .ret))⟩
theorem fit_spec_zeroExpr : Fit Tryz.prog 259 Tryz.f259 mf_spec_zeroExpr := ⟨by kernel_rfl, Tryz.func259, by kernel_rfl, by kernel_rfl, by kernel_rfl, by kernel_rfl⟩
theorem zeroExpr_ct (e : LExpr) : Ct Tryz.prog 259 [.agg e.C] (.bool (Expr.same e.core zeroE)) := by
  refine ct_of_run fit_spec_zeroExpr (by simp [mf_spec_zeroExpr]) (by simp [go_sem]) fun hd => ?_
  simp -implicitDefEqProofs [-List.map_take, -List.map_drop, go_sem, mf_spec_zeroExpr]
  simp -implicitDefEqProofs [-List.map_take, -List.map_drop, go_sem, buildV, fillC]
  rw [zeroL_C]
  repeat' first
    | ((first | refine gv_split (fun h => ?_) (fun h => ?_) | refine cnd_split (fun h => ?_) (fun h => ?_) | refine cgv_split (fun h => ?_) (fun h => ?_)) <;> (try (have hp := h; simp at hp)) <;> simp -implicitDefEqProofs [-List.map_take, -List.map_drop, go_sem, h])
    | (refine And.intro (by first | omega | (simp only [maxLen]; omega) | (simp_all; done) | (simp_all; omega)) ?_; try simp -implicitDefEqProofs [-List.map_take, -List.map_drop, go_sem])
    | ((first | refine stp_ct (same_ct e zeroL) (by simp [go_sem]) ?_ ?_ | refine cstp_ct (same_ct e zeroL) (by simp [go_sem]) ?_ ?_); (simp [go_sem]); simp -implicitDefEqProofs [-List.map_take, -List.map_drop, go_sem])
    | (refine run_dreg' (by decide) ?_; simp -implicitDefEqProofs [-List.map_take, -List.map_drop, go_sem])
    | ((first | refine end_tup _ (by simp) (by simp [go_sem]; rfl) (by simp [go_sem]) ?_); first | (simp [go_sem, *, zeroL_core]; done) | grind [zeroL_core] | (simp [go_sem, zeroL_core]; grind [zeroL_core]) | (simp_all [go_sem, zeroL_core]; done) | (simp_all [go_sem, zeroL_core]; omega))
def bindAt_L (l : Sl Bind) (name : Str) (a : Nat) : St := ⟨lk [(0, l.I Bind.C), (1, .str name), (5, .int .i64 ((a : Int) - 1))], [], []⟩
def mf_spec_bindAt : MF := ⟨21, [(.t 4)], (.seq (.reg [⟨(some 4), (.mov (.c (.int .i64 0))), none⟩]) (.seq (.seq (.reg [⟨(some 6), (.mov (.t 0)), none⟩, ⟨(some 7), (.lenl (.t 6)), none⟩, ⟨(some 8), (.bin .sub (.t 7) (.c (.int .i64 1))), none⟩, ⟨(some 5), (.mov (.t 8)), none⟩]) (.blk 0 (.loop (.seq (.seq (.reg [⟨(some 9), (.mov (.t 5)), none⟩, ⟨(some 10), (.bin .geq (.t 9) (.c (.int .i64 0))), none⟩]) (.cond (.t 10) .skip (.exit 0))) (.seq (.blk 1 (.seq (.reg [⟨(some 13), (.mov (.t 0)), none⟩, ⟨(some 14), (.mov (.t 5)), none⟩, ⟨(some 15), (.iadr 2 (.t 13) (.t 14)), none⟩, ⟨(some 16), (.fadr 0 (.t 15)), none⟩, ⟨(some 17), (.load false 1 (.t 16)), none⟩, ⟨(some 18), (.mov (.t 1)), none⟩, ⟨(some 19), (.seq false (.t 17) (.t 18)), none⟩]) (.cond (.t 19) (.seq (.reg [⟨(some 20), (.mov (.t 5)), none⟩, ⟨(some 4), (.mov (.t 20)), none⟩]) .ret) .skip))) (.reg [⟨(some 11), (.mov (.t 5)), none⟩, ⟨(some 12), (.bin .sub (.t 11) (.c (.int .i64 1))), none⟩, ⟨(some 5), (.mov (.t 12)), none⟩])))))) (.seq (.reg [⟨(some 4), (.mov (.c (.int .i64 (-1)))), none⟩]) .ret)))⟩
theorem fit_spec_bindAt : Fit Tryz.prog 250 Tryz.f250 mf_spec_bindAt := ⟨by kernel_rfl, Tryz.func250, by kernel_rfl, by kernel_rfl, by kernel_rfl, by kernel_rfl⟩
theorem bindAt_ct (l : Sl Bind) (name : Str) : Ct Tryz.prog 250 [l.I Bind.C, .str name] (.int .i64 (bindAt l.es name)) := by
  refine ct_of_run fit_spec_bindAt (by simp [mf_spec_bindAt]) (by simp [go_sem]) fun hd => ?_
  simp -implicitDefEqProofs [-List.map_take, -List.map_drop, go_sem, mf_spec_bindAt]
  have hm : l.es.length ≤ maxLen := by simp [deepL, deepV, Sl.I] at hd; omega
  simp only [maxLen] at hm
  have hw0 : IntKind.i64.wrap ((l.es.length : Int) - 1) = (l.es.length : Int) - 1 := wrap_small (by omega) (by omega)
  simp -implicitDefEqProofs [-List.map_take, -List.map_drop, go_sem, hw0]
  refine run_while (bindAt_L l name) (fun a => a) (fun a => bindAtTo name l.es a = bindAt l.es name ∧ a ≤ l.es.length) l.es.length (gh_auto (by simp [go_sem, bindAt_L, hw0])) ⟨rfl, Nat.le_refl _⟩ ?_
  rintro j ⟨hj, hjl⟩
  simp -implicitDefEqProofs [-List.map_take, -List.map_drop, go_sem, bindAt_L]
  cases j with
  | zero =>
    simp only [bindAtTo] at hj
    simp -implicitDefEqProofs [-List.map_take, -List.map_drop, go_sem]
    repeat' first
      | ((first | refine gv_split (fun h => ?_) (fun h => ?_) | refine cnd_split (fun h => ?_) (fun h => ?_) | refine cgv_split (fun h => ?_) (fun h => ?_)) <;> (try (have hp := h; simp at hp)) <;> simp -implicitDefEqProofs [-List.map_take, -List.map_drop, go_sem, h])
      | (refine And.intro (by first | omega | (simp only [maxLen]; omega) | (simp_all; done) | (simp_all; omega)) ?_; try simp -implicitDefEqProofs [-List.map_take, -List.map_drop, go_sem])
      | (refine run_dreg' (by decide) ?_; simp -implicitDefEqProofs [-List.map_take, -List.map_drop, go_sem])
      | ((first | refine end_tup _ (by simp) (by simp [go_sem]; rfl) (by simp [go_sem]) ?_); first | (simp [go_sem, *]; done) | grind | (simp [go_sem]; grind) | (simp_all [go_sem]; done) | (simp_all [go_sem]; omega))
  | succ j =>
    have hlt : j < l.es.length := hjl
    have hlt' : ((j + 1 : Nat) : Int) - 1 = j := by omega
    have hw : IntKind.i64.wrap ((j : Int) - 1) = (j : Int) - 1 := wrap_small (by omega) (by omega)
    simp only [bindAtTo, nameIs, List.getElem?_eq_getElem hlt] at hj
    rw [hlt']
    simp -implicitDefEqProofs [-List.map_take, -List.map_drop, go_sem, hlt]
    repeat' first
      | ((first | refine gv_split (fun h => ?_) (fun h => ?_) | refine cnd_split (fun h => ?_) (fun h => ?_) | refine cgv_split (fun h => ?_) (fun h => ?_)) <;> (try (have hp := h; simp at hp)) <;> simp -implicitDefEqProofs [-List.map_take, -List.map_drop, go_sem, h, hlt])
      | (refine And.intro (by first | omega | (simp only [maxLen]; omega) | (simp_all; done) | (simp_all; omega)) ?_; try simp -implicitDefEqProofs [-List.map_take, -List.map_drop, go_sem, hlt])
      | (refine run_dreg' (by decide) ?_; simp -implicitDefEqProofs [-List.map_take, -List.map_drop, go_sem, hlt])
      | ((first | refine end_tup _ (by simp) (by simp [go_sem]; rfl) (by simp [go_sem]) ?_); first | (simp [go_sem, *]; done) | grind | (simp [go_sem]; grind) | (simp_all [go_sem]; done) | (simp_all [go_sem]; omega))
    refine kx_more j (by simp) (gh_auto (by simp [go_sem, bindAt_L, hw])) ?_
    refine ⟨?_, by omega⟩
    rw [← hj, if_neg (by simpa using hp)]
def validBinds_L (l : Sl Bind) (i : Nat) (_ : Unit) : St := ⟨lk [(0, l.I Bind.C), (3, .int .i64 i)], [], []⟩
def mf_spec_validBinds : MF := ⟨41, [(.t 2)], (.seq (.reg [⟨(some 2), (.mov (.c (.bool false))), none⟩]) (.seq (.seq (.reg [⟨(some 3), (.mov (.c (.int .i64 0))), none⟩]) (.blk 0 (.loop (.seq (.seq (.reg [⟨(some 4), (.mov (.t 3)), none⟩, ⟨(some 5), (.mov (.t 0)), none⟩, ⟨(some 6), (.lenl (.t 5)), none⟩, ⟨(some 7), (.bin .lss (.t 4) (.t 6)), none⟩]) (.cond (.t 7) .skip (.exit 0))) (.seq (.blk 1 (.seq (.dreg [(⟨(some 10), (.mov (.t 0)), none⟩, []), (⟨(some 11), (.mov (.t 3)), none⟩, []), (⟨(some 12), (.iadr 2 (.t 10) (.t 11)), none⟩, [0, 1]), (⟨(some 13), (.fadr 0 (.t 12)), none⟩, [2]), (⟨(some 14), (.load false 1 (.t 13)), none⟩, [3]), (⟨(some 15), (.call (.c (.fn 202 [])) [(.t 14)]), none⟩, [4]), (⟨(some 16), (.not (.t 15)), none⟩, [5]), (⟨(some 17), (.mov (.t 16)), none⟩, [6, 5]), (⟨(some 18), (.mov (.t 0)), (some (17, false))⟩, [7]), (⟨(some 19), (.mov (.t 3)), (some (17, false))⟩, [7]), (⟨(some 20), (.iadr 2 (.t 18) (.t 19)), (some (17, false))⟩, [8, 9, 7]), (⟨(some 21), (.fadr 1 (.t 20)), (some (17, false))⟩, [10, 7]), (⟨(some 22), (.load false 1 (.t 21)), (some (17, false))⟩, [11, 7]), (⟨(some 23), (.call (.c (.fn 114 [])) [(.t 22)]), (some (17, false))⟩, [12, 7, 7]), (⟨(some 24), (.not (.t 23)), (some (17, false))⟩, [13, 7]), (⟨(some 25), (.pick (.t 17) (.c (.bool true)) (.t 24)), none⟩, [7, 14]), (⟨(some 26), (.mov (.t 25)), none⟩, [15, 13]), (⟨(some 27), (.mov (.t 0)), (some (26, false))⟩, [16]), (⟨(some 28), (.mov (.t 3)), (some (26, false))⟩, [16]), (⟨(some 29), (.sl 2 (.t 27) none (some (.t 28)) none), (some (26, false))⟩, [17, 18, 16]), (⟨(some 30), (.mov (.t 0)), (some (26, false))⟩, [16]), (⟨(some 31), (.mov (.t 3)), (some (26, false))⟩, [16]), (⟨(some 32), (.iadr 2 (.t 30) (.t 31)), (some (26, false))⟩, [20, 21, 16]), (⟨(some 33), (.fadr 0 (.t 32)), (some (26, false))⟩, [22, 16]), (⟨(some 34), (.load false 1 (.t 33)), (some (26, false))⟩, [23, 16]), (⟨(some 35), (.call (.c (.fn 250 [])) [(.t 29), (.t 34)]), (some (26, false))⟩, [19, 24, 16, 16]), (⟨(some 36), (.bin .geq (.t 35) (.c (.int .i64 0))), (some (26, false))⟩, [25, 16]), (⟨(some 37), (.pick (.t 26) (.c (.bool true)) (.t 36)), none⟩, [16, 26])]) (.cond (.t 37) (.seq (.reg [⟨(some 2), (.mov (.c (.bool false))), none⟩]) .ret) .skip))) (.reg [⟨(some 8), (.mov (.t 3)), none⟩, ⟨(some 9), (.bin .add (.t 8) (.c (.int .i64 1))), none⟩, ⟨(some 3), (.mov (.t 9)), none⟩])))))) (.seq (.reg [⟨(some 38), (.mov (.t 0)), none⟩, ⟨(some 39), (.lenl (.t 38)), none⟩, ⟨(some 40), (.bin .leq (.t 39) (.c (.int .i64 4))), none⟩, ⟨(some 2), (.mov (.t 40)), none⟩]) .ret)))⟩
theorem fit_spec_validBinds : Fit Tryz.prog 258 Tryz.f258 mf_spec_validBinds := ⟨by kernel_rfl, Tryz.func258, by kernel_rfl, by kernel_rfl, by kernel_rfl, by kernel_rfl⟩
theorem validBinds_ct (l : Sl Bind) : Ct Tryz.prog 258 [l.I Bind.C] (.bool (validBinds l.es)) := by
  refine ct_of_run fit_spec_validBinds (by simp [mf_spec_validBinds]) (by simp [go_sem]) fun hd => ?_
  simp -implicitDefEqProofs [-List.map_take, -List.map_drop, go_sem, mf_spec_validBinds]
  have hm : l.es.length ≤ maxLen := by simp [deepL, deepV, Sl.I] at hd; omega
  refine run_iter (l.es.length) (validBinds_L l) (fun i a => bindsOk (l.es.take i) (l.es.drop i) = bindsOk [] l.es) () (gh_auto (by simp [go_sem, validBinds_L])) (by first | (simp; done) | (simp [validBinds]; done) | (simp [validBinds]; omega) | grind) ?_
  intro i a hi hj
  simp -implicitDefEqProofs [-List.map_take, -List.map_drop, go_sem, validBinds_L]
  refine cnd_split (fun hc => ?_) (fun hc => ?_)
  · have hlt : i < l.es.length := by first | (simpa using hc) | (simp at hc; omega)
    rw [List.drop_eq_getElem_cons (l := l.es) (by omega)] at hj
    simp only [List.map_cons, bindsOk] at hj
    have hww : ∀ e, e ∈ l.sp → e.length = 2 := fun e he => wide_of_deep hd.1 _ (List.mem_map_of_mem (List.getElem_mem hlt)) (Bind.C_len _) e (.inr he)
    have hwsl := fun (σ : Heap) => slV_pre (σ := σ) (k := .i64) (f := Bind.C) (l := l.es) (lim := l.lim) (Nat.le_of_lt hlt) hww Bind.C_len
    rw [List.take_append_getElem hlt, ← bindAt_nn] at hj
    simp -implicitDefEqProofs [-List.map_take, -List.map_drop, go_sem, hlt, hww, hwsl]
    repeat' first
      | ((first | refine gv_split (fun h => ?_) (fun h => ?_) | refine cnd_split (fun h => ?_) (fun h => ?_) | refine cgv_split (fun h => ?_) (fun h => ?_)) <;> (try (have hp := h; simp at hp)) <;> simp -implicitDefEqProofs [-List.map_take, -List.map_drop, go_sem, h, hlt, hww, hwsl])
      | (refine And.intro (by first | omega | (simp only [maxLen]; omega) | (simp_all; done) | (simp_all; omega)) ?_; try simp -implicitDefEqProofs [-List.map_take, -List.map_drop, go_sem, hlt, hww, hwsl])
      | ((first | refine stp_ct (isName_ct _) (by simp [go_sem, hlt, hww, hwsl]) ?_ ?_ | refine cstp_ct (isName_ct _) (by simp [go_sem, hlt, hww, hwsl]) ?_ ?_ | refine stp_ct (typeOk_ct _) (by simp [go_sem, hlt, hww, hwsl]) ?_ ?_ | refine cstp_ct (typeOk_ct _) (by simp [go_sem, hlt, hww, hwsl]) ?_ ?_ | refine stp_ct (bindAt_ct ⟨l.es.take i, (l.es.map Bind.C).drop i ++ l.sp, l.lim⟩ _) (by simp [go_sem, hlt, hww, hwsl]) ?_ ?_ | refine cstp_ct (bindAt_ct ⟨l.es.take i, (l.es.map Bind.C).drop i ++ l.sp, l.lim⟩ _) (by simp [go_sem, hlt, hww, hwsl]) ?_ ?_); (simp [go_sem]); simp -implicitDefEqProofs [-List.map_take, -List.map_drop, go_sem, hlt, hww, hwsl])
      | (refine run_dreg' (by decide) ?_; simp -implicitDefEqProofs [-List.map_take, -List.map_drop, go_sem, hlt, hww, hwsl])
      | ((first | refine kx_next () hlt (gh_auto (by simp [go_sem, validBinds_L, wrap_succ hlt hm, hlt, hww, hwsl])) ?_ | refine end_tup _ (by simp) (by simp [go_sem]; rfl) (by simp [go_sem]) ?_); first | (simp [go_sem, *, validBinds]; done) | grind [validBinds] | (simp [go_sem, validBinds]; grind [validBinds]) | (simp_all [go_sem, validBinds]; done) | (simp_all [go_sem, validBinds]; omega))
  · have hge : l.es.length ≤ i := by first | (simpa using hc) | (simp at hc; omega)
    rw [List.drop_of_length_le (l := l.es) (by omega)] at hj
    simp only [List.map_nil, bindsOk] at hj
    try simp -implicitDefEqProofs [-List.map_take, -List.map_drop, go_sem]
    repeat' first
      | ((first | refine gv_split (fun h => ?_) (fun h => ?_) | refine cnd_split (fun h => ?_) (fun h => ?_) | refine cgv_split (fun h => ?_) (fun h => ?_)) <;> (try (have hp := h; simp at hp)) <;> simp -implicitDefEqProofs [-List.map_take, -List.map_drop, go_sem, h])
      | (refine And.intro (by first | omega | (simp only [maxLen]; omega) | (simp_all; done) | (simp_all; omega)) ?_; try simp -implicitDefEqProofs [-List.map_take, -List.map_drop, go_sem])
      | ((first | refine stp_ct (isName_ct _) (by simp [go_sem]) ?_ ?_ | refine cstp_ct (isName_ct _) (by simp [go_sem]) ?_ ?_ | refine stp_ct (typeOk_ct _) (by simp [go_sem]) ?_ ?_ | refine cstp_ct (typeOk_ct _) (by simp [go_sem]) ?_ ?_ | refine stp_ct (bindAt_ct ⟨l.es.take i, (l.es.map Bind.C).drop i ++ l.sp, l.lim⟩ _) (by simp [go_sem]) ?_ ?_ | refine cstp_ct (bindAt_ct ⟨l.es.take i, (l.es.map Bind.C).drop i ++ l.sp, l.lim⟩ _) (by simp [go_sem]) ?_ ?_); (simp [go_sem]); simp -implicitDefEqProofs [-List.map_take, -List.map_drop, go_sem])
      | (refine run_dreg' (by decide) ?_; simp -implicitDefEqProofs [-List.map_take, -List.map_drop, go_sem])
      | ((first | refine end_tup _ (by simp) (by simp [go_sem]; rfl) (by simp [go_sem]) ?_); first | (simp [go_sem, *, validBinds]; done) | grind [validBinds] | (simp [go_sem, validBinds]; grind [validBinds]) | (simp_all [go_sem, validBinds]; done) | (simp_all [go_sem, validBinds]; omega))
def validDecl_L (d : LDecl) (i : Nat) (_ : Unit) : St := ⟨lk [(1, .ptr 0 1 0 0), (3, .int .i64 i)], [some ⟨[[.int .i64 d.kind, .str d.name, .imm (d.binds.es.map Bind.C) d.binds.sp d.binds.lim, .str d.type, .int .i64 d.body.kind, .int .i64 d.body.num, .str d.body.text, .imm (d.body.kids.map LExpr.C) d.body.sp d.body.lim]], 8, 46, false, false⟩], []⟩
theorem binds_deep {d : LDecl} (h : deepL d.C) : d.binds.es.length ≤ maxLen := by
  simp [LDecl.C, deepL, deepV] at h
  omega
def mf_spec_validDecl : MF := ⟨66, [(.t 2)], (.seq (.reg [⟨(some 1), (.box 46 (.t 0)), none⟩, ⟨(some 2), (.mov (.c (.bool false))), none⟩]) (.seq (.seq (.reg [⟨(some 6), (.fadr 1 (.t 1)), none⟩, ⟨(some 7), (.load false 1 (.t 6)), none⟩, ⟨(some 8), (.call (.c (.fn 202 [])) [(.t 7)]), none⟩, ⟨(some 9), (.not (.t 8)), none⟩, ⟨(some 10), (.mov (.t 9)), none⟩, ⟨(some 11), (.fadr 2 (.t 1)), (some (10, false))⟩, ⟨(some 12), (.load false 1 (.t 11)), (some (10, false))⟩, ⟨(some 13), (.call (.c (.fn 258 [])) [(.t 12)]), (some (10, false))⟩, ⟨(some 14), (.not (.t 13)), (some (10, false))⟩, ⟨(some 15), (.pick (.t 10) (.c (.bool true)) (.t 14)), none⟩]) (.cond (.t 15) (.seq (.reg [⟨(some 2), (.mov (.c (.bool false))), none⟩]) .ret) .skip)) (.seq (.seq (.reg [⟨(some 16), (.fadr 0 (.t 1)), none⟩, ⟨(some 17), (.load false 1 (.t 16)), none⟩, ⟨(some 18), (.bin .eql (.t 17) (.c (.int .i64 0))), none⟩]) (.cond (.t 18) (.seq (.reg [⟨(some 19), (.fadr 3 (.t 1)), none⟩, ⟨(some 20), (.load false 1 (.t 19)), none⟩, ⟨(some 21), (.call (.c (.fn 114 [])) [(.t 20)]), none⟩, ⟨(some 22), (.mov (.t 21)), none⟩, ⟨(some 23), (.fadr 4 (.t 1)), (some (22, true))⟩, ⟨(some 24), (.load true 4 (.t 23)), (some (22, true))⟩, ⟨(some 25), (.call (.c (.fn 58 [])) [(.t 24)]), (some (22, true))⟩, ⟨(some 26), (.pick (.t 22) (.t 25) (.c (.bool false))), none⟩, ⟨(some 2), (.mov (.t 26)), none⟩]) .ret) .skip)) (.seq (.seq (.reg [⟨(some 3), (.mov (.c (.int .i64 0))), none⟩]) (.blk 0 (.loop (.seq (.seq (.reg [⟨(some 27), (.mov (.t 3)), none⟩, ⟨(some 28), (.fadr 2 (.t 1)), none⟩, ⟨(some 29), (.load false 1 (.t 28)), none⟩, ⟨(some 30), (.lenl (.t 29)), none⟩, ⟨(some 31), (.bin .lss (.t 27) (.t 30)), none⟩]) (.cond (.t 31) .skip (.exit 0))) (.seq (.blk 1 (.seq (.reg [⟨(some 35), (.fadr 2 (.t 1)), none⟩, ⟨(some 36), (.load false 1 (.t 35)), none⟩, ⟨(some 37), (.mov (.t 3)), none⟩, ⟨(some 38), (.iadr 2 (.t 36) (.t 37)), none⟩, ⟨(some 39), (.fadr 1 (.t 38)), none⟩, ⟨(some 40), (.load false 1 (.t 39)), none⟩, ⟨(some 41), (.call (.c (.fn 158 [])) [(.t 40)]), none⟩, ⟨(some 34), (.mov (.t 41)), none⟩, ⟨(some 42), (.ext (.t 34) 0), none⟩, ⟨(some 43), (.ext (.t 34) 1), none⟩, ⟨(some 4), (.mov (.t 42)), none⟩, ⟨(some 5), (.mov (.t 43)), none⟩]) (.seq (.reg [⟨(some 44), (.mov (.t 4)), none⟩, ⟨(some 45), (.call (.c (.fn 159 [])) [(.t 44)]), none⟩, ⟨(some 46), (.not (.t 45)), none⟩]) (.cond (.t 46) (.seq (.reg [⟨(some 2), (.mov (.c (.bool false))), none⟩]) .ret) .skip)))) (.reg [⟨(some 32), (.mov (.t 3)), none⟩, ⟨(some 33), (.bin .add (.t 32) (.c (.int .i64 1))), none⟩, ⟨(some 3), (.mov (.t 33)), none⟩])))))) (.seq (.reg [⟨(some 47), (.fadr 0 (.t 1)), none⟩, ⟨(some 48), (.load false 1 (.t 47)), none⟩, ⟨(some 49), (.bin .eql (.t 48) (.c (.int .i64 1))), none⟩, ⟨(some 50), (.mov (.t 49)), none⟩, ⟨(some 51), (.fadr 2 (.t 1)), (some (50, true))⟩, ⟨(some 52), (.load false 1 (.t 51)), (some (50, true))⟩, ⟨(some 53), (.lenl (.t 52)), (some (50, true))⟩, ⟨(some 54), (.bin .gtr (.t 53) (.c (.int .i64 0))), (some (50, true))⟩, ⟨(some 55), (.pick (.t 50) (.t 54) (.c (.bool false))), none⟩, ⟨(some 56), (.mov (.t 55)), none⟩, ⟨(some 57), (.fadr 3 (.t 1)), (some (56, true))⟩, ⟨(some 58), (.load false 1 (.t 57)), (some (56, true))⟩, ⟨(some 59), (.seq false (.t 58) (.c (.str []))), (some (56, true))⟩, ⟨(some 60), (.pick (.t 56) (.t 59) (.c (.bool false))), none⟩, ⟨(some 61), (.mov (.t 60)), none⟩, ⟨(some 62), (.fadr 4 (.t 1)), (some (61, true))⟩, ⟨(some 63), (.load true 4 (.t 62)), (some (61, true))⟩, ⟨(some 64), (.call (.c (.fn 259 [])) [(.t 63)]), (some (61, true))⟩, ⟨(some 65), (.pick (.t 61) (.t 64) (.c (.bool false))), none⟩, ⟨(some 2), (.mov (.t 65)), none⟩]) .ret)))))⟩
theorem fit_spec_validDecl : Fit Tryz.prog 206 Tryz.f206 mf_spec_validDecl := ⟨by kernel_rfl, Tryz.func206, by kernel_rfl, by kernel_rfl, by kernel_rfl, by kernel_rfl⟩
theorem validDecl_ct (d : LDecl) (hs : d.body.core.Sm) : Ct Tryz.prog 206 [.agg d.C] (.bool (validDecl d.core)) := by
  refine ct_of_run fit_spec_validDecl (by simp [mf_spec_validDecl]) (by simp [go_sem]) fun hd => ?_
  simp -implicitDefEqProofs [-List.map_take, -List.map_drop, go_sem, mf_spec_validDecl]
  have hm : d.binds.es.length ≤ maxLen := binds_deep hd.1
  repeat' first
    | ((first | refine gv_split (fun h => ?_) (fun h => ?_) | refine cnd_split (fun h => ?_) (fun h => ?_) | refine cgv_split (fun h => ?_) (fun h => ?_)) <;> (try (have hp := h; simp at hp)) <;> simp -implicitDefEqProofs [-List.map_take, -List.map_drop, go_sem, h])
    | (refine And.intro (by first | omega | (simp only [maxLen]; omega) | (simp_all; done) | (simp_all; omega)) ?_; try simp -implicitDefEqProofs [-List.map_take, -List.map_drop, go_sem])
    | ((first | refine stp_ct (isName_ct _) (by simp [go_sem]) ?_ ?_ | refine cstp_ct (isName_ct _) (by simp [go_sem]) ?_ ?_ | refine stp_ct (validBinds_ct d.binds) (by simp [go_sem]) ?_ ?_ | refine cstp_ct (validBinds_ct d.binds) (by simp [go_sem]) ?_ ?_ | refine stp_ct (typeOk_ct _) (by simp [go_sem]) ?_ ?_ | refine cstp_ct (typeOk_ct _) (by simp [go_sem]) ?_ ?_ | refine stp_ct (exprOk_ct d.body hs) (by simp [go_sem]) ?_ ?_ | refine cstp_ct (exprOk_ct d.body hs) (by simp [go_sem]) ?_ ?_); (simp [go_sem]); simp -implicitDefEqProofs [-List.map_take, -List.map_drop, go_sem])
    | (refine run_dreg' (by decide) ?_; simp -implicitDefEqProofs [-List.map_take, -List.map_drop, go_sem])
    | ((first | refine end_tup _ (by simp) (by simp [go_sem]; rfl) (by simp [go_sem]) ?_); first | (simp [go_sem, *, validDecl, LDecl.core]; done) | grind [validDecl, LDecl.core] | (simp [go_sem, validDecl, LDecl.core]; grind [validDecl, LDecl.core]) | (simp_all [go_sem, validDecl, LDecl.core]; done) | (simp_all [go_sem, validDecl, LDecl.core]; omega))
  all_goals
    refine run_iter (d.binds.es.length) (validDecl_L d) (fun i a => plainBinds (d.binds.es.drop i) = plainBinds d.binds.es) () (gh_auto (by simp [go_sem, validDecl_L])) (by first | (simp; done) | (simp [validDecl, LDecl.core]; done) | (simp [validDecl, LDecl.core]; omega) | grind) ?_
    intro i a hi hj
    simp -implicitDefEqProofs [-List.map_take, -List.map_drop, go_sem, validDecl_L]
    refine cnd_split (fun hc => ?_) (fun hc => ?_)
    · have hlt : i < d.binds.es.length := by first | (simpa using hc) | (simp at hc; omega)
      rw [List.drop_eq_getElem_cons (l := d.binds.es) (by omega)] at hj
      simp only [List.map_cons, plainBinds] at hj
      simp -implicitDefEqProofs [-List.map_take, -List.map_drop, go_sem, hlt]
      repeat' first
        | ((first | refine gv_split (fun h => ?_) (fun h => ?_) | refine cnd_split (fun h => ?_) (fun h => ?_) | refine cgv_split (fun h => ?_) (fun h => ?_)) <;> (try (have hp := h; simp at hp)) <;> simp -implicitDefEqProofs [-List.map_take, -List.map_drop, go_sem, h, hlt])
        | (refine And.intro (by first | omega | (simp only [maxLen]; omega) | (simp_all; done) | (simp_all; omega)) ?_; try simp -implicitDefEqProofs [-List.map_take, -List.map_drop, go_sem, hlt])
        | ((first | refine stp_ct (coreOf_ct _) (by simp [go_sem, hlt]) ?_ ?_ | refine cstp_ct (coreOf_ct _) (by simp [go_sem, hlt]) ?_ ?_ | refine stp_ct (isPlain_ct _) (by simp [go_sem, hlt]) ?_ ?_ | refine cstp_ct (isPlain_ct _) (by simp [go_sem, hlt]) ?_ ?_ | refine stp_ct (zeroExpr_ct d.body) (by simp [go_sem, hlt]) ?_ ?_ | refine cstp_ct (zeroExpr_ct d.body) (by simp [go_sem, hlt]) ?_ ?_); (simp [go_sem]); simp -implicitDefEqProofs [-List.map_take, -List.map_drop, go_sem, hlt])
        | (refine run_dreg' (by decide) ?_; simp -implicitDefEqProofs [-List.map_take, -List.map_drop, go_sem, hlt])
        | ((first | refine kx_next () hlt (gh_auto (by simp [go_sem, validDecl_L, wrap_succ hlt hm, hlt])) ?_ | refine end_tup _ (by simp) (by simp [go_sem]; rfl) (by simp [go_sem]) ?_); first | (simp [go_sem, *, validDecl, LDecl.core]; done) | grind [validDecl, LDecl.core] | (simp [go_sem, validDecl, LDecl.core]; grind [validDecl, LDecl.core]) | (simp_all [go_sem, validDecl, LDecl.core]; done) | (simp_all [go_sem, validDecl, LDecl.core]; omega))
    · have hge : d.binds.es.length ≤ i := by first | (simpa using hc) | (simp at hc; omega)
      rw [List.drop_of_length_le (l := d.binds.es) (by omega)] at hj
      simp only [List.map_nil, plainBinds] at hj
      try simp -implicitDefEqProofs [-List.map_take, -List.map_drop, go_sem]
      repeat' first
        | ((first | refine gv_split (fun h => ?_) (fun h => ?_) | refine cnd_split (fun h => ?_) (fun h => ?_) | refine cgv_split (fun h => ?_) (fun h => ?_)) <;> (try (have hp := h; simp at hp)) <;> simp -implicitDefEqProofs [-List.map_take, -List.map_drop, go_sem, h])
        | (refine And.intro (by first | omega | (simp only [maxLen]; omega) | (simp_all; done) | (simp_all; omega)) ?_; try simp -implicitDefEqProofs [-List.map_take, -List.map_drop, go_sem])
        | ((first | refine stp_ct (coreOf_ct _) (by simp [go_sem]) ?_ ?_ | refine cstp_ct (coreOf_ct _) (by simp [go_sem]) ?_ ?_ | refine stp_ct (isPlain_ct _) (by simp [go_sem]) ?_ ?_ | refine cstp_ct (isPlain_ct _) (by simp [go_sem]) ?_ ?_ | refine stp_ct (zeroExpr_ct d.body) (by simp [go_sem]) ?_ ?_ | refine cstp_ct (zeroExpr_ct d.body) (by simp [go_sem]) ?_ ?_); (simp [go_sem]); simp -implicitDefEqProofs [-List.map_take, -List.map_drop, go_sem])
        | (refine run_dreg' (by decide) ?_; simp -implicitDefEqProofs [-List.map_take, -List.map_drop, go_sem])
        | ((first | refine end_tup _ (by simp) (by simp [go_sem]; rfl) (by simp [go_sem]) ?_); first | (simp [go_sem, *, validDecl, LDecl.core]; done) | grind [validDecl, LDecl.core] | (simp [go_sem, validDecl, LDecl.core]; grind [validDecl, LDecl.core]) | (simp_all [go_sem, validDecl, LDecl.core]; done) | (simp_all [go_sem, validDecl, LDecl.core]; omega))
end Go.Mach
