import Derived.Test.YtgkpfkfomonmgaaGreatWm
/- The laws' intactness, walked: expressions, declarations, modules. -/
set_option maxHeartbeats 4000000
namespace Go.Mach
open Go Go.Proofs
set_option linter.unusedVariables false
set_option linter.unusedSimpArgs false
attribute [local go_sem] run_seq run_skip run_reg run_blk run_exit run_ret run_cond cnd_true cnd_false kx_seq_normal kx_seq_exit kx_seq_ret kx_blk_normal kx_blk_same kx_blk_other kx_blk_ret kx_loop_exit kx_loop_ret kx_done ops_nil ops_plain ops_grd gv_tt gv_ff gv_tf gv_ft gv_tup stp_ok stp_ob stp_hp stp_bad stp_if get_t get_c putO_some putO_none put_same put_ne put_σ put_base withσ_τ withσ_σ withσ_base withσ_put withσ_withσ mk_τ mk_σ mk_base mk_withσ entry_τ entry_σ entry_base calm_nil calm_plain calm_grd cgv_tt cgv_ff cgv_tf cgv_ft cgv_tup cstp_ok cstp_ob cstp_if
attribute [local irreducible] Ct Co Cs
attribute [local go_sem] evalOp notV negV pickV binV intB seqV beqV catV lensV lenlV boxV_eq newV cellsOf cellV fadrV fldV fldC loadV loadC_ag loadC_one plainV isOwn iadrV storeV lk bdV bdL renO renL renV pureV pureL noOwnV noOwnL idxV slsV optI extV resL resV ret1 mmV cnviV cnvsV nilcV eqnV bslV bslGo appV elems okE appE getD_map okO_none okO_some strC intC Sl.I
attribute [local simp] Bind.eqa Use.eqa loadC_str loadC_int Bind.C_len Bind.C_pure Bind.C_noOwn Bind.C_cell Bind.C_bd Bind.C_bdL Bind.C_ren Bind.C_any Bind.C_any0 Bind.C_any1 Bind.C_anyt Bind.C_take Bind.C_load Bind.C_load0 Bind.C_load1 Bind.C_fld Bind.C_box Bind.C_fold Use.C_len Use.C_pure Use.C_noOwn Use.C_cell Use.C_bd Use.C_bdL Use.C_ren Use.C_any Use.C_any0 Use.C_any1 Use.C_anyt Use.C_take Use.C_load Use.C_load0 Use.C_load1 Use.C_fld Use.C_box Use.C_fold LExpr.C_len LExpr.C_pure LExpr.C_noOwn LExpr.C_cell LExpr.C_bd LExpr.C_bdL LExpr.C_ren LExpr.C_any LExpr.C_any0 LExpr.C_any1 LExpr.C_anyt LExpr.C_take LExpr.C_load LExpr.C_load0 LExpr.C_load1 LExpr.C_fld LExpr.C_box LExpr.C_fold LDecl.C_len LDecl.C_pure LDecl.C_noOwn LDecl.C_cell LDecl.C_bd LDecl.C_bdL LDecl.C_ren LDecl.C_any LDecl.C_any0 LDecl.C_any1 LDecl.C_anyt LDecl.C_take LDecl.C_load LDecl.C_load0 LDecl.C_load1 LDecl.C_fld LDecl.C_box LDecl.C_fold LModule.C_len LModule.C_pure LModule.C_noOwn LModule.C_cell LModule.C_bd LModule.C_bdL LModule.C_ren LModule.C_any LModule.C_any0 LModule.C_any1 LModule.C_anyt LModule.C_take LModule.C_load LModule.C_load0 LModule.C_load1 LModule.C_fld LModule.C_box LModule.C_fold

def intactExprS_L (Y : PV) (n : Int) (i : Nat) (_ : Unit) : St := ⟨lk [(0, Y), (1, Y), (5, .int .i64 n), (6, .int .i64 i)], [], []⟩
def mf_laws_intactExprS : MF := ⟨45, [(.t 4)], (.seq (.reg [⟨(some 4), (.mov (.c (.bool false))), none⟩]) (.seq (.reg [⟨(some 7), (.mov (.t 1)), none⟩, ⟨(some 8), (.lenl (.t 7)), none⟩, ⟨(some 9), (.mov (.t 1)), none⟩, ⟨(some 10), (.lenl (.t 9)), none⟩, ⟨(some 11), (.call (.c (.fn 47 [])) [(.t 10)]), none⟩, ⟨(some 12), (.bin .add (.t 8) (.t 11)), none⟩, ⟨(some 5), (.mov (.t 12)), none⟩]) (.seq (.seq (.reg [⟨(some 13), (.mov (.t 0)), none⟩, ⟨(some 14), (.lenl (.t 13)), none⟩, ⟨(some 15), (.mov (.t 1)), none⟩, ⟨(some 16), (.lenl (.t 15)), none⟩, ⟨(some 17), (.bin .neq (.t 14) (.t 16)), none⟩]) (.cond (.t 17) (.seq (.reg [⟨(some 4), (.mov (.c (.bool false))), none⟩]) .ret) .skip)) (.seq (.seq (.reg [⟨(some 6), (.mov (.c (.int .i64 0))), none⟩]) (.blk 0 (.loop (.seq (.seq (.reg [⟨(some 18), (.mov (.t 6)), none⟩, ⟨(some 19), (.mov (.t 1)), none⟩, ⟨(some 20), (.lenl (.t 19)), none⟩, ⟨(some 21), (.bin .lss (.t 18) (.t 20)), none⟩]) (.cond (.t 21) .skip (.exit 0))) (.seq (.blk 1 (.seq (.dreg [(⟨(some 24), (.mov (.t 0)), none⟩, []), (⟨(some 25), (.mov (.t 6)), none⟩, []), (⟨(some 26), (.iadr 4 (.t 24) (.t 25)), none⟩, [0, 1]), (⟨(some 27), (.load true 4 (.t 26)), none⟩, [2]), (⟨(some 28), (.mov (.t 1)), none⟩, []), (⟨(some 29), (.mov (.t 6)), none⟩, []), (⟨(some 30), (.iadr 4 (.t 28) (.t 29)), none⟩, [4, 5]), (⟨(some 31), (.load true 4 (.t 30)), none⟩, [6]), (⟨(some 32), (.call (.c (.fn 265 [])) [(.t 27), (.t 31)]), none⟩, [3, 7]), (⟨(some 33), (.not (.t 32)), none⟩, [8])]) (.cond (.t 33) (.seq (.reg [⟨(some 4), (.mov (.c (.bool false))), none⟩]) .ret) .skip))) (.reg [⟨(some 22), (.mov (.t 6)), none⟩, ⟨(some 23), (.bin .add (.t 22) (.c (.int .i64 1))), none⟩, ⟨(some 6), (.mov (.t 23)), none⟩])))))) (.seq (.dreg [(⟨(some 34), (.mov (.t 0)), none⟩, []), (⟨(some 35), (.mov (.t 1)), none⟩, []), (⟨(some 36), (.lenl (.t 35)), none⟩, [1]), (⟨(some 37), (.mov (.t 5)), none⟩, []), (⟨(some 38), (.sl 4 (.t 34) (some (.t 36)) (some (.t 37)) none), none⟩, [0, 2, 3]), (⟨(some 39), (.mov (.t 1)), none⟩, []), (⟨(some 40), (.mov (.t 1)), none⟩, []), (⟨(some 41), (.lenl (.t 40)), none⟩, [6]), (⟨(some 42), (.mov (.t 5)), none⟩, []), (⟨(some 43), (.sl 4 (.t 39) (some (.t 41)) (some (.t 42)) none), none⟩, [5, 7, 8]), (⟨(some 44), (.call (.c (.fn 314 [])) [(.t 38), (.t 43)]), none⟩, [4, 9]), (⟨(some 4), (.mov (.t 44)), none⟩, [10, 10, 0, 1, 2, 3, 4, 5, 6, 7, 8, 9, 10])]) .ret)))))⟩
theorem fit_laws_intactExprS : Fit Tryz.prog 297 Tryz.f297 mf_laws_intactExprS := ⟨by kernel_rfl, Tryz.func297, by kernel_rfl, by kernel_rfl, by kernel_rfl, by kernel_rfl⟩
theorem intactExprS_ct (es : List LExpr) (hl : es.length ≤ 1000000) (hg : ∀ a, a ∈ es → Ct Tryz.prog 265 [.agg a.C, .agg a.C] (.bool true)) (q : LExpr → LExpr → Bool) (hq : ∀ a, q a a = true) (hqc : ∀ a b, Ct Tryz.prog 288 [.agg a.C, .agg b.C] (.bool (q a b))) :
    Ct Tryz.prog 297 [(toS LExpr.C fillExpr false es).I LExpr.C, (toS LExpr.C fillExpr false es).I LExpr.C] (.bool true) := by
  have hY : (toS LExpr.C fillExpr false es).I LExpr.C = .imm (es.map LExpr.C) ((List.replicate (room es.length) fillExpr).map LExpr.C) true := by simp [toS, Sl.I]
  rw [hY]
  have hr := room_le es.length
  have hrm := room_ct es.length
  have hm : es.length ≤ maxLen := Nat.le_trans hl (by decide)
  have hw : IntKind.i64.wrap ((es.length : Int) + (room es.length : Int)) = (es.length : Int) + (room es.length : Int) := wrap_small (by omega) (by omega)
  have hwsl := fun (σ : Heap) => slV_behind (σ := σ) (k := .i64) (f := LExpr.C) (l := es) (s := List.replicate (room es.length) fillExpr) (lim := true) (m := (es.length : Int) + (room es.length : Int)) (n := 4) (by simp) LExpr.C_len
  have h1 := eqExprS_ct ⟨List.replicate (room es.length) fillExpr, [], true⟩ ⟨List.replicate (room es.length) fillExpr, [], true⟩ q (fun a _ b => hqc a b)
  rw [all2_refl hq] at h1
  simp only [List.map_replicate] at hwsl
  simp only [Sl.I, List.map_replicate] at h1
  refine ct_of_run fit_laws_intactExprS (by simp [mf_laws_intactExprS]) (by simp [go_sem]) fun hd => ?_
  simp -implicitDefEqProofs [-List.map_take, -List.map_drop, go_sem, mf_laws_intactExprS]
  repeat' first
    | ((first | refine gv_split (fun h => ?_) (fun h => ?_) | refine cnd_split (fun h => ?_) (fun h => ?_) | refine cgv_split (fun h => ?_) (fun h => ?_)) <;> (try (have hp := h; simp at hp)) <;> simp -implicitDefEqProofs [-List.map_take, -List.map_drop, go_sem, h, hw])
    | (refine And.intro (by first | omega | (simp only [maxLen]; omega) | (simp_all; done) | (simp_all; omega)) ?_; try simp -implicitDefEqProofs [-List.map_take, -List.map_drop, go_sem, hw])
    | ((first | refine stp_ct (hrm) (by simp [go_sem, hw]) ?_ ?_ | refine cstp_ct (hrm) (by simp [go_sem, hw]) ?_ ?_); (simp [go_sem]); simp -implicitDefEqProofs [-List.map_take, -List.map_drop, go_sem, hw])
    | (refine run_dreg' (by decide) ?_; simp -implicitDefEqProofs [-List.map_take, -List.map_drop, go_sem, hw])
    | ((first | refine end_tup _ (by simp) (by simp [go_sem]; rfl) (by simp [go_sem]) ?_); first | (simp [go_sem, *]; done) | grind | (simp [go_sem]; grind) | (simp_all [go_sem]; done) | (simp_all [go_sem]; omega))
  refine run_iter (es.length) (intactExprS_L (.imm (es.map LExpr.C) ((List.replicate (room es.length) fillExpr).map LExpr.C) true) ((es.length : Int) + (room es.length : Int))) (fun i a => True) () (gh_auto (by simp [go_sem, intactExprS_L, hw])) (by first | (simp; done) | (simp []; done) | (simp []; omega) | grind) ?_
  intro i a hi hj
  simp -implicitDefEqProofs [-List.map_take, -List.map_drop, go_sem, intactExprS_L, hw]
  refine cnd_split (fun hc => ?_) (fun hc => ?_)
  · have hlt : i < es.length := by first | (simpa using hc) | (simp at hc; omega)
    simp -implicitDefEqProofs [-List.map_take, -List.map_drop, go_sem, hlt, hw]
    have hgi := hg es[i] (List.getElem_mem hlt)
    repeat' first
      | ((first | refine gv_split (fun h => ?_) (fun h => ?_) | refine cnd_split (fun h => ?_) (fun h => ?_) | refine cgv_split (fun h => ?_) (fun h => ?_)) <;> (try (have hp := h; simp at hp)) <;> simp -implicitDefEqProofs [-List.map_take, -List.map_drop, go_sem, h, hlt])
      | (refine And.intro (by first | omega | (simp only [maxLen]; omega) | (simp_all; done) | (simp_all; omega)) ?_; try simp -implicitDefEqProofs [-List.map_take, -List.map_drop, go_sem, hlt])
      | ((first | refine stp_ct (hgi) (by simp [go_sem, hlt]) ?_ ?_ | refine cstp_ct (hgi) (by simp [go_sem, hlt]) ?_ ?_); (simp [go_sem]); simp -implicitDefEqProofs [-List.map_take, -List.map_drop, go_sem, hlt])
      | (refine run_dreg' (by decide) ?_; simp -implicitDefEqProofs [-List.map_take, -List.map_drop, go_sem, hlt])
      | ((first | refine kx_next () hlt (gh_auto (by simp [go_sem, intactExprS_L, wrap_succ hlt hm, hlt])) ?_ | refine end_tup _ (by simp) (by simp [go_sem]; rfl) (by simp [go_sem]) ?_); first | (simp [go_sem, *]; done) | grind | (simp [go_sem]; grind) | (simp_all [go_sem]; done) | (simp_all [go_sem]; omega))
  · have hge : es.length ≤ i := by first | (simpa using hc) | (simp at hc; omega)
    try simp -implicitDefEqProofs [-List.map_take, -List.map_drop, go_sem, hw]
    repeat' first
      | ((first | refine gv_split (fun h => ?_) (fun h => ?_) | refine cnd_split (fun h => ?_) (fun h => ?_) | refine cgv_split (fun h => ?_) (fun h => ?_)) <;> (try (have hp := h; simp at hp)) <;> simp -implicitDefEqProofs [-List.map_take, -List.map_drop, go_sem, h, hwsl])
      | (refine And.intro (by first | omega | (simp only [maxLen]; omega) | (simp_all; done) | (simp_all; omega)) ?_; try simp -implicitDefEqProofs [-List.map_take, -List.map_drop, go_sem, hwsl])
      | ((first | refine stp_ct (h1) (by simp [go_sem, hwsl]) ?_ ?_ | refine cstp_ct (h1) (by simp [go_sem, hwsl]) ?_ ?_); (simp [go_sem]); simp -implicitDefEqProofs [-List.map_take, -List.map_drop, go_sem, hwsl])
      | (refine run_dreg' (by decide) ?_; simp -implicitDefEqProofs [-List.map_take, -List.map_drop, go_sem, hwsl])
      | ((first | refine end_tup _ (by simp) (by simp [go_sem]; rfl) (by simp [go_sem]) ?_); first | (simp [go_sem, *]; done) | grind | (simp [go_sem]; grind) | (simp_all [go_sem]; done) | (simp_all [go_sem]; omega))
theorem toE_kidsI (e : LExpr) : PV.imm ((toE false e).kids.map LExpr.C) (toE false e).sp (toE false e).lim = (toS LExpr.C fillExpr false (e.kids.map (toE false))).I LExpr.C := by
  cases e with
  | mk k n t ks sp lim => simp only [toE, LExpr.kids, LExpr.sp, LExpr.lim, Sl.I, toS_es, toEs_map]
def mf_laws_intactExpr : MF := ⟨26, [(.t 4)], (.seq (.reg [⟨(some 2), (.box 31 (.t 0)), none⟩, ⟨(some 3), (.box 31 (.t 1)), none⟩, ⟨(some 4), (.mov (.c (.bool false))), none⟩]) (.seq (.seq (.reg [⟨(some 5), (.fadr 0 (.t 2)), none⟩, ⟨(some 6), (.load false 1 (.t 5)), none⟩, ⟨(some 7), (.fadr 0 (.t 3)), none⟩, ⟨(some 8), (.load false 1 (.t 7)), none⟩, ⟨(some 9), (.bin .neq (.t 6) (.t 8)), none⟩]) (.cond (.t 9) (.seq (.reg [⟨(some 4), (.mov (.c (.bool false))), none⟩]) .ret) .skip)) (.seq (.seq (.reg [⟨(some 10), (.fadr 1 (.t 2)), none⟩, ⟨(some 11), (.load false 1 (.t 10)), none⟩, ⟨(some 12), (.fadr 1 (.t 3)), none⟩, ⟨(some 13), (.load false 1 (.t 12)), none⟩, ⟨(some 14), (.bin .neq (.t 11) (.t 13)), none⟩]) (.cond (.t 14) (.seq (.reg [⟨(some 4), (.mov (.c (.bool false))), none⟩]) .ret) .skip)) (.seq (.seq (.reg [⟨(some 15), (.fadr 2 (.t 2)), none⟩, ⟨(some 16), (.load false 1 (.t 15)), none⟩, ⟨(some 17), (.fadr 2 (.t 3)), none⟩, ⟨(some 18), (.load false 1 (.t 17)), none⟩, ⟨(some 19), (.seq true (.t 16) (.t 18)), none⟩]) (.cond (.t 19) (.seq (.reg [⟨(some 4), (.mov (.c (.bool false))), none⟩]) .ret) .skip)) (.seq (.seq (.reg [⟨(some 20), (.fadr 3 (.t 2)), none⟩, ⟨(some 21), (.load false 1 (.t 20)), none⟩, ⟨(some 22), (.fadr 3 (.t 3)), none⟩, ⟨(some 23), (.load false 1 (.t 22)), none⟩, ⟨(some 24), (.call (.c (.fn 297 [])) [(.t 21), (.t 23)]), none⟩, ⟨(some 25), (.not (.t 24)), none⟩]) (.cond (.t 25) (.seq (.reg [⟨(some 4), (.mov (.c (.bool false))), none⟩]) .ret) .skip)) (.seq (.reg [⟨(some 4), (.mov (.c (.bool true))), none⟩]) .ret))))))⟩
theorem fit_laws_intactExpr : Fit Tryz.prog 265 Tryz.f265 mf_laws_intactExpr := ⟨by kernel_rfl, Tryz.func265, by kernel_rfl, by kernel_rfl, by kernel_rfl, by kernel_rfl⟩
theorem intactExpr_ct (e : LExpr) (hs : e.core.Sm) : Ct Tryz.prog 265 [.agg (toE false e).C, .agg (toE false e).C] (.bool true) := by
  have hl : (e.kids.map (toE false)).length ≤ 1000000 := by have := hs; rw [Expr.Sm_eq] at this; simpa using this.2.1
  have h1 := intactExprS_ct (e.kids.map (toE false)) hl (fun a ha => by
    obtain ⟨x, hx, rfl⟩ := List.mem_map.1 ha
    exact intactExpr_ct x (by obtain ⟨i, hi, rfl⟩ := List.getElem_of_mem hx; exact Expr.Sm_kid hs hi)) (fun a b => Expr.same a.core b.core) (fun a => same_refl _) eqExpr_ct
  rw [← toE_kidsI] at h1
  refine ct_of_run fit_laws_intactExpr (by simp [mf_laws_intactExpr]) (by simp [go_sem]) fun hd => ?_
  simp -implicitDefEqProofs [-List.map_take, -List.map_drop, go_sem, mf_laws_intactExpr]
  repeat' first
    | ((first | refine gv_split (fun h => ?_) (fun h => ?_) | refine cnd_split (fun h => ?_) (fun h => ?_) | refine cgv_split (fun h => ?_) (fun h => ?_)) <;> (try (have hp := h; simp at hp)) <;> simp -implicitDefEqProofs [-List.map_take, -List.map_drop, go_sem, h])
    | (refine And.intro (by first | omega | (simp only [maxLen]; omega) | (simp_all; done) | (simp_all; omega)) ?_; try simp -implicitDefEqProofs [-List.map_take, -List.map_drop, go_sem])
    | ((first | refine stp_ct (h1) (by simp [go_sem]) ?_ ?_ | refine cstp_ct (h1) (by simp [go_sem]) ?_ ?_); (simp [go_sem]); simp -implicitDefEqProofs [-List.map_take, -List.map_drop, go_sem])
    | (refine run_dreg' (by decide) ?_; simp -implicitDefEqProofs [-List.map_take, -List.map_drop, go_sem])
    | ((first | refine end_tup _ (by simp) (by simp [go_sem]; rfl) (by simp [go_sem]) ?_); first | (simp [go_sem, *]; done) | grind | (simp [go_sem]; grind) | (simp_all [go_sem]; done) | (simp_all [go_sem]; omega))
termination_by SizeOf.sizeOf e
decreasing_by exact LExpr.kid_lt hx
def mf_laws_intactDecl : MF := ⟨32, [(.t 4)], (.seq (.reg [⟨(some 2), (.box 46 (.t 0)), none⟩, ⟨(some 3), (.box 46 (.t 1)), none⟩, ⟨(some 4), (.mov (.c (.bool false))), none⟩]) (.seq (.seq (.reg [⟨(some 5), (.fadr 0 (.t 2)), none⟩, ⟨(some 6), (.load false 1 (.t 5)), none⟩, ⟨(some 7), (.fadr 0 (.t 3)), none⟩, ⟨(some 8), (.load false 1 (.t 7)), none⟩, ⟨(some 9), (.bin .neq (.t 6) (.t 8)), none⟩]) (.cond (.t 9) (.seq (.reg [⟨(some 4), (.mov (.c (.bool false))), none⟩]) .ret) .skip)) (.seq (.seq (.reg [⟨(some 10), (.fadr 1 (.t 2)), none⟩, ⟨(some 11), (.load false 1 (.t 10)), none⟩, ⟨(some 12), (.fadr 1 (.t 3)), none⟩, ⟨(some 13), (.load false 1 (.t 12)), none⟩, ⟨(some 14), (.seq true (.t 11) (.t 13)), none⟩]) (.cond (.t 14) (.seq (.reg [⟨(some 4), (.mov (.c (.bool false))), none⟩]) .ret) .skip)) (.seq (.seq (.reg [⟨(some 15), (.fadr 2 (.t 2)), none⟩, ⟨(some 16), (.load false 1 (.t 15)), none⟩, ⟨(some 17), (.fadr 2 (.t 3)), none⟩, ⟨(some 18), (.load false 1 (.t 17)), none⟩, ⟨(some 19), (.call (.c (.fn 264 [])) [(.t 16), (.t 18)]), none⟩, ⟨(some 20), (.not (.t 19)), none⟩]) (.cond (.t 20) (.seq (.reg [⟨(some 4), (.mov (.c (.bool false))), none⟩]) .ret) .skip)) (.seq (.seq (.reg [⟨(some 21), (.fadr 3 (.t 2)), none⟩, ⟨(some 22), (.load false 1 (.t 21)), none⟩, ⟨(some 23), (.fadr 3 (.t 3)), none⟩, ⟨(some 24), (.load false 1 (.t 23)), none⟩, ⟨(some 25), (.seq true (.t 22) (.t 24)), none⟩]) (.cond (.t 25) (.seq (.reg [⟨(some 4), (.mov (.c (.bool false))), none⟩]) .ret) .skip)) (.seq (.seq (.reg [⟨(some 26), (.fadr 4 (.t 2)), none⟩, ⟨(some 27), (.load true 4 (.t 26)), none⟩, ⟨(some 28), (.fadr 4 (.t 3)), none⟩, ⟨(some 29), (.load true 4 (.t 28)), none⟩, ⟨(some 30), (.call (.c (.fn 265 [])) [(.t 27), (.t 29)]), none⟩, ⟨(some 31), (.not (.t 30)), none⟩]) (.cond (.t 31) (.seq (.reg [⟨(some 4), (.mov (.c (.bool false))), none⟩]) .ret) .skip)) (.seq (.reg [⟨(some 4), (.mov (.c (.bool true))), none⟩]) .ret)))))))⟩
theorem fit_laws_intactDecl : Fit Tryz.prog 216 Tryz.f216 mf_laws_intactDecl := ⟨by kernel_rfl, Tryz.func216, by kernel_rfl, by kernel_rfl, by kernel_rfl, by kernel_rfl⟩
theorem intactDecl_ct (d : LDecl) (hs : d.core.Sm) : Ct Tryz.prog 216 [.agg (toD false d).C, .agg (toD false d).C] (.bool true) := by
  have h1 := intactBindS_ct d.binds.es hs.2.1
  have h2 := intactExpr_ct d.body hs.2.2.2
  have hb : (toD false d).binds = toS Bind.C fillBind false d.binds.es := rfl
  have hbo : (toD false d).body = toE false d.body := rfl
  rw [← hb] at h1
  rw [← hbo] at h2
  refine ct_of_run fit_laws_intactDecl (by simp [mf_laws_intactDecl]) (by simp [go_sem]) fun hd => ?_
  simp -implicitDefEqProofs [-List.map_take, -List.map_drop, go_sem, mf_laws_intactDecl]
  repeat' first
    | ((first | refine gv_split (fun h => ?_) (fun h => ?_) | refine cnd_split (fun h => ?_) (fun h => ?_) | refine cgv_split (fun h => ?_) (fun h => ?_)) <;> (try (have hp := h; simp at hp)) <;> simp -implicitDefEqProofs [-List.map_take, -List.map_drop, go_sem, h])
    | (refine And.intro (by first | omega | (simp only [maxLen]; omega) | (simp_all; done) | (simp_all; omega)) ?_; try simp -implicitDefEqProofs [-List.map_take, -List.map_drop, go_sem])
    | ((first | refine stp_ct (h1) (by simp [go_sem]) ?_ ?_ | refine cstp_ct (h1) (by simp [go_sem]) ?_ ?_ | refine stp_ct (h2) (by simp [go_sem]) ?_ ?_ | refine cstp_ct (h2) (by simp [go_sem]) ?_ ?_); (simp [go_sem]); simp -implicitDefEqProofs [-List.map_take, -List.map_drop, go_sem])
    | (refine run_dreg' (by decide) ?_; simp -implicitDefEqProofs [-List.map_take, -List.map_drop, go_sem])
    | ((first | refine end_tup _ (by simp) (by simp [go_sem]; rfl) (by simp [go_sem]) ?_); first | (simp [go_sem, *]; done) | grind | (simp [go_sem]; grind) | (simp_all [go_sem]; done) | (simp_all [go_sem]; omega))
def intactDeclS_L (Y : PV) (n : Int) (i : Nat) (_ : Unit) : St := ⟨lk [(0, Y), (1, Y), (5, .int .i64 n), (6, .int .i64 i)], [], []⟩
def mf_laws_intactDeclS : MF := ⟨45, [(.t 4)], (.seq (.reg [⟨(some 4), (.mov (.c (.bool false))), none⟩]) (.seq (.reg [⟨(some 7), (.mov (.t 1)), none⟩, ⟨(some 8), (.lenl (.t 7)), none⟩, ⟨(some 9), (.mov (.t 1)), none⟩, ⟨(some 10), (.lenl (.t 9)), none⟩, ⟨(some 11), (.call (.c (.fn 47 [])) [(.t 10)]), none⟩, ⟨(some 12), (.bin .add (.t 8) (.t 11)), none⟩, ⟨(some 5), (.mov (.t 12)), none⟩]) (.seq (.seq (.reg [⟨(some 13), (.mov (.t 0)), none⟩, ⟨(some 14), (.lenl (.t 13)), none⟩, ⟨(some 15), (.mov (.t 1)), none⟩, ⟨(some 16), (.lenl (.t 15)), none⟩, ⟨(some 17), (.bin .neq (.t 14) (.t 16)), none⟩]) (.cond (.t 17) (.seq (.reg [⟨(some 4), (.mov (.c (.bool false))), none⟩]) .ret) .skip)) (.seq (.seq (.reg [⟨(some 6), (.mov (.c (.int .i64 0))), none⟩]) (.blk 0 (.loop (.seq (.seq (.reg [⟨(some 18), (.mov (.t 6)), none⟩, ⟨(some 19), (.mov (.t 1)), none⟩, ⟨(some 20), (.lenl (.t 19)), none⟩, ⟨(some 21), (.bin .lss (.t 18) (.t 20)), none⟩]) (.cond (.t 21) .skip (.exit 0))) (.seq (.blk 1 (.seq (.dreg [(⟨(some 24), (.mov (.t 0)), none⟩, []), (⟨(some 25), (.mov (.t 6)), none⟩, []), (⟨(some 26), (.iadr 8 (.t 24) (.t 25)), none⟩, [0, 1]), (⟨(some 27), (.load true 8 (.t 26)), none⟩, [2]), (⟨(some 28), (.mov (.t 1)), none⟩, []), (⟨(some 29), (.mov (.t 6)), none⟩, []), (⟨(some 30), (.iadr 8 (.t 28) (.t 29)), none⟩, [4, 5]), (⟨(some 31), (.load true 8 (.t 30)), none⟩, [6]), (⟨(some 32), (.call (.c (.fn 216 [])) [(.t 27), (.t 31)]), none⟩, [3, 7]), (⟨(some 33), (.not (.t 32)), none⟩, [8])]) (.cond (.t 33) (.seq (.reg [⟨(some 4), (.mov (.c (.bool false))), none⟩]) .ret) .skip))) (.reg [⟨(some 22), (.mov (.t 6)), none⟩, ⟨(some 23), (.bin .add (.t 22) (.c (.int .i64 1))), none⟩, ⟨(some 6), (.mov (.t 23)), none⟩])))))) (.seq (.dreg [(⟨(some 34), (.mov (.t 0)), none⟩, []), (⟨(some 35), (.mov (.t 1)), none⟩, []), (⟨(some 36), (.lenl (.t 35)), none⟩, [1]), (⟨(some 37), (.mov (.t 5)), none⟩, []), (⟨(some 38), (.sl 8 (.t 34) (some (.t 36)) (some (.t 37)) none), none⟩, [0, 2, 3]), (⟨(some 39), (.mov (.t 1)), none⟩, []), (⟨(some 40), (.mov (.t 1)), none⟩, []), (⟨(some 41), (.lenl (.t 40)), none⟩, [6]), (⟨(some 42), (.mov (.t 5)), none⟩, []), (⟨(some 43), (.sl 8 (.t 39) (some (.t 41)) (some (.t 42)) none), none⟩, [5, 7, 8]), (⟨(some 44), (.call (.c (.fn 177 [])) [(.t 38), (.t 43)]), none⟩, [4, 9]), (⟨(some 4), (.mov (.t 44)), none⟩, [10, 10, 0, 1, 2, 3, 4, 5, 6, 7, 8, 9, 10])]) .ret)))))⟩
theorem fit_laws_intactDeclS : Fit Tryz.prog 135 Tryz.f135 mf_laws_intactDeclS := ⟨by kernel_rfl, Tryz.func135, by kernel_rfl, by kernel_rfl, by kernel_rfl, by kernel_rfl⟩
theorem intactDeclS_ct (es : List LDecl) (hl : es.length ≤ 1000000) (hg : ∀ a, a ∈ es → Ct Tryz.prog 216 [.agg a.C, .agg a.C] (.bool true)) (q : LDecl → LDecl → Bool) (hq : ∀ a, q a a = true) (hqc : ∀ a b, Ct Tryz.prog 243 [.agg a.C, .agg b.C] (.bool (q a b))) :
    Ct Tryz.prog 135 [(toS LDecl.C fillDecl false es).I LDecl.C, (toS LDecl.C fillDecl false es).I LDecl.C] (.bool true) := by
  have hY : (toS LDecl.C fillDecl false es).I LDecl.C = .imm (es.map LDecl.C) ((List.replicate (room es.length) fillDecl).map LDecl.C) true := by simp [toS, Sl.I]
  rw [hY]
  have hr := room_le es.length
  have hrm := room_ct es.length
  have hm : es.length ≤ maxLen := Nat.le_trans hl (by decide)
  have hw : IntKind.i64.wrap ((es.length : Int) + (room es.length : Int)) = (es.length : Int) + (room es.length : Int) := wrap_small (by omega) (by omega)
  have hwsl := fun (σ : Heap) => slV_behind (σ := σ) (k := .i64) (f := LDecl.C) (l := es) (s := List.replicate (room es.length) fillDecl) (lim := true) (m := (es.length : Int) + (room es.length : Int)) (n := 8) (by simp) LDecl.C_len
  have h1 := eqDeclS_ct ⟨List.replicate (room es.length) fillDecl, [], true⟩ ⟨List.replicate (room es.length) fillDecl, [], true⟩ q (fun a _ b => hqc a b)
  rw [all2_refl hq] at h1
  simp only [List.map_replicate] at hwsl
  simp only [Sl.I, List.map_replicate] at h1
  refine ct_of_run fit_laws_intactDeclS (by simp [mf_laws_intactDeclS]) (by simp [go_sem]) fun hd => ?_
  simp -implicitDefEqProofs [-List.map_take, -List.map_drop, go_sem, mf_laws_intactDeclS]
  repeat' first
    | ((first | refine gv_split (fun h => ?_) (fun h => ?_) | refine cnd_split (fun h => ?_) (fun h => ?_) | refine cgv_split (fun h => ?_) (fun h => ?_)) <;> (try (have hp := h; simp at hp)) <;> simp -implicitDefEqProofs [-List.map_take, -List.map_drop, go_sem, h, hw])
    | (refine And.intro (by first | omega | (simp only [maxLen]; omega) | (simp_all; done) | (simp_all; omega)) ?_; try simp -implicitDefEqProofs [-List.map_take, -List.map_drop, go_sem, hw])
    | ((first | refine stp_ct (hrm) (by simp [go_sem, hw]) ?_ ?_ | refine cstp_ct (hrm) (by simp [go_sem, hw]) ?_ ?_); (simp [go_sem]); simp -implicitDefEqProofs [-List.map_take, -List.map_drop, go_sem, hw])
    | (refine run_dreg' (by decide) ?_; simp -implicitDefEqProofs [-List.map_take, -List.map_drop, go_sem, hw])
    | ((first | refine end_tup _ (by simp) (by simp [go_sem]; rfl) (by simp [go_sem]) ?_); first | (simp [go_sem, *]; done) | grind | (simp [go_sem]; grind) | (simp_all [go_sem]; done) | (simp_all [go_sem]; omega))
  refine run_iter (es.length) (intactDeclS_L (.imm (es.map LDecl.C) ((List.replicate (room es.length) fillDecl).map LDecl.C) true) ((es.length : Int) + (room es.length : Int))) (fun i a => True) () (gh_auto (by simp [go_sem, intactDeclS_L, hw])) (by first | (simp; done) | (simp []; done) | (simp []; omega) | grind) ?_
  intro i a hi hj
  simp -implicitDefEqProofs [-List.map_take, -List.map_drop, go_sem, intactDeclS_L, hw]
  refine cnd_split (fun hc => ?_) (fun hc => ?_)
  · have hlt : i < es.length := by first | (simpa using hc) | (simp at hc; omega)
    simp -implicitDefEqProofs [-List.map_take, -List.map_drop, go_sem, hlt, hw]
    have hgi := hg es[i] (List.getElem_mem hlt)
    repeat' first
      | ((first | refine gv_split (fun h => ?_) (fun h => ?_) | refine cnd_split (fun h => ?_) (fun h => ?_) | refine cgv_split (fun h => ?_) (fun h => ?_)) <;> (try (have hp := h; simp at hp)) <;> simp -implicitDefEqProofs [-List.map_take, -List.map_drop, go_sem, h, hlt])
      | (refine And.intro (by first | omega | (simp only [maxLen]; omega) | (simp_all; done) | (simp_all; omega)) ?_; try simp -implicitDefEqProofs [-List.map_take, -List.map_drop, go_sem, hlt])
      | ((first | refine stp_ct (hgi) (by simp [go_sem, hlt]) ?_ ?_ | refine cstp_ct (hgi) (by simp [go_sem, hlt]) ?_ ?_); (simp [go_sem]); simp -implicitDefEqProofs [-List.map_take, -List.map_drop, go_sem, hlt])
      | (refine run_dreg' (by decide) ?_; simp -implicitDefEqProofs [-List.map_take, -List.map_drop, go_sem, hlt])
      | ((first | refine kx_next () hlt (gh_auto (by simp [go_sem, intactDeclS_L, wrap_succ hlt hm, hlt])) ?_ | refine end_tup _ (by simp) (by simp [go_sem]; rfl) (by simp [go_sem]) ?_); first | (simp [go_sem, *]; done) | grind | (simp [go_sem]; grind) | (simp_all [go_sem]; done) | (simp_all [go_sem]; omega))
  · have hge : es.length ≤ i := by first | (simpa using hc) | (simp at hc; omega)
    try simp -implicitDefEqProofs [-List.map_take, -List.map_drop, go_sem, hw]
    repeat' first
      | ((first | refine gv_split (fun h => ?_) (fun h => ?_) | refine cnd_split (fun h => ?_) (fun h => ?_) | refine cgv_split (fun h => ?_) (fun h => ?_)) <;> (try (have hp := h; simp at hp)) <;> simp -implicitDefEqProofs [-List.map_take, -List.map_drop, go_sem, h, hwsl])
      | (refine And.intro (by first | omega | (simp only [maxLen]; omega) | (simp_all; done) | (simp_all; omega)) ?_; try simp -implicitDefEqProofs [-List.map_take, -List.map_drop, go_sem, hwsl])
      | ((first | refine stp_ct (h1) (by simp [go_sem, hwsl]) ?_ ?_ | refine cstp_ct (h1) (by simp [go_sem, hwsl]) ?_ ?_); (simp [go_sem]); simp -implicitDefEqProofs [-List.map_take, -List.map_drop, go_sem, hwsl])
      | (refine run_dreg' (by decide) ?_; simp -implicitDefEqProofs [-List.map_take, -List.map_drop, go_sem, hwsl])
      | ((first | refine end_tup _ (by simp) (by simp [go_sem]; rfl) (by simp [go_sem]) ?_); first | (simp [go_sem, *]; done) | grind | (simp [go_sem]; grind) | (simp_all [go_sem]; done) | (simp_all [go_sem]; omega))
def mf_laws_intactModule : MF := ⟨22, [(.t 4)], (.seq (.reg [⟨(some 2), (.box 43 (.t 0)), none⟩, ⟨(some 3), (.box 43 (.t 1)), none⟩, ⟨(some 4), (.mov (.c (.bool false))), none⟩]) (.seq (.seq (.reg [⟨(some 5), (.fadr 0 (.t 2)), none⟩, ⟨(some 6), (.load false 1 (.t 5)), none⟩, ⟨(some 7), (.fadr 0 (.t 3)), none⟩, ⟨(some 8), (.load false 1 (.t 7)), none⟩, ⟨(some 9), (.seq true (.t 6) (.t 8)), none⟩]) (.cond (.t 9) (.seq (.reg [⟨(some 4), (.mov (.c (.bool false))), none⟩]) .ret) .skip)) (.seq (.seq (.reg [⟨(some 10), (.fadr 1 (.t 2)), none⟩, ⟨(some 11), (.load false 1 (.t 10)), none⟩, ⟨(some 12), (.fadr 1 (.t 3)), none⟩, ⟨(some 13), (.load false 1 (.t 12)), none⟩, ⟨(some 14), (.call (.c (.fn 134 [])) [(.t 11), (.t 13)]), none⟩, ⟨(some 15), (.not (.t 14)), none⟩]) (.cond (.t 15) (.seq (.reg [⟨(some 4), (.mov (.c (.bool false))), none⟩]) .ret) .skip)) (.seq (.seq (.reg [⟨(some 16), (.fadr 2 (.t 2)), none⟩, ⟨(some 17), (.load false 1 (.t 16)), none⟩, ⟨(some 18), (.fadr 2 (.t 3)), none⟩, ⟨(some 19), (.load false 1 (.t 18)), none⟩, ⟨(some 20), (.call (.c (.fn 135 [])) [(.t 17), (.t 19)]), none⟩, ⟨(some 21), (.not (.t 20)), none⟩]) (.cond (.t 21) (.seq (.reg [⟨(some 4), (.mov (.c (.bool false))), none⟩]) .ret) .skip)) (.seq (.reg [⟨(some 4), (.mov (.c (.bool true))), none⟩]) .ret)))))⟩
theorem fit_laws_intactModule : Fit Tryz.prog 52 Tryz.f52 mf_laws_intactModule := ⟨by kernel_rfl, Tryz.func52, by kernel_rfl, by kernel_rfl, by kernel_rfl, by kernel_rfl⟩
theorem intactModule_ct (m : LModule) (hs : m.core.Sm) : Ct Tryz.prog 52 [.agg (toM false m).C, .agg (toM false m).C] (.bool true) := by
  have h1 := intactUseS_ct m.uses.es hs.2.1
  have h2 := intactDeclS_ct (m.decls.es.map (toD false)) (by simpa using hs.2.2.2.1) (fun a ha => by
    obtain ⟨x, hx, rfl⟩ := List.mem_map.1 ha
    exact intactDecl_ct x (Decl.Sm_of hs hx)) (fun a b => sameDecl a.core b.core) (fun a => sameDecl_refl _) eqDecl_ct
  have hu : (toM false m).uses = toS Use.C fillUse false m.uses.es := rfl
  have hd2 : (toM false m).decls = toS LDecl.C fillDecl false (m.decls.es.map (toD false)) := rfl
  rw [← hu] at h1
  rw [← hd2] at h2
  refine ct_of_run fit_laws_intactModule (by simp [mf_laws_intactModule]) (by simp [go_sem]) fun hd => ?_
  simp -implicitDefEqProofs [-List.map_take, -List.map_drop, go_sem, mf_laws_intactModule]
  repeat' first
    | ((first | refine gv_split (fun h => ?_) (fun h => ?_) | refine cnd_split (fun h => ?_) (fun h => ?_) | refine cgv_split (fun h => ?_) (fun h => ?_)) <;> (try (have hp := h; simp at hp)) <;> simp -implicitDefEqProofs [-List.map_take, -List.map_drop, go_sem, h])
    | (refine And.intro (by first | omega | (simp only [maxLen]; omega) | (simp_all; done) | (simp_all; omega)) ?_; try simp -implicitDefEqProofs [-List.map_take, -List.map_drop, go_sem])
    | ((first | refine stp_ct (h1) (by simp [go_sem]) ?_ ?_ | refine cstp_ct (h1) (by simp [go_sem]) ?_ ?_ | refine stp_ct (h2) (by simp [go_sem]) ?_ ?_ | refine cstp_ct (h2) (by simp [go_sem]) ?_ ?_); (simp [go_sem]); simp -implicitDefEqProofs [-List.map_take, -List.map_drop, go_sem])
    | (refine run_dreg' (by decide) ?_; simp -implicitDefEqProofs [-List.map_take, -List.map_drop, go_sem])
    | ((first | refine end_tup _ (by simp) (by simp [go_sem]; rfl) (by simp [go_sem]) ?_); first | (simp [go_sem, *]; done) | grind | (simp [go_sem]; grind) | (simp_all [go_sem]; done) | (simp_all [go_sem]; omega))
def intactModuleS_L (Y : PV) (n : Int) (i : Nat) (_ : Unit) : St := ⟨lk [(0, Y), (1, Y), (5, .int .i64 n), (6, .int .i64 i)], [], []⟩
def mf_laws_intactModuleS : MF := ⟨45, [(.t 4)], (.seq (.reg [⟨(some 4), (.mov (.c (.bool false))), none⟩]) (.seq (.reg [⟨(some 7), (.mov (.t 1)), none⟩, ⟨(some 8), (.lenl (.t 7)), none⟩, ⟨(some 9), (.mov (.t 1)), none⟩, ⟨(some 10), (.lenl (.t 9)), none⟩, ⟨(some 11), (.call (.c (.fn 47 [])) [(.t 10)]), none⟩, ⟨(some 12), (.bin .add (.t 8) (.t 11)), none⟩, ⟨(some 5), (.mov (.t 12)), none⟩]) (.seq (.seq (.reg [⟨(some 13), (.mov (.t 0)), none⟩, ⟨(some 14), (.lenl (.t 13)), none⟩, ⟨(some 15), (.mov (.t 1)), none⟩, ⟨(some 16), (.lenl (.t 15)), none⟩, ⟨(some 17), (.bin .neq (.t 14) (.t 16)), none⟩]) (.cond (.t 17) (.seq (.reg [⟨(some 4), (.mov (.c (.bool false))), none⟩]) .ret) .skip)) (.seq (.seq (.reg [⟨(some 6), (.mov (.c (.int .i64 0))), none⟩]) (.blk 0 (.loop (.seq (.seq (.reg [⟨(some 18), (.mov (.t 6)), none⟩, ⟨(some 19), (.mov (.t 1)), none⟩, ⟨(some 20), (.lenl (.t 19)), none⟩, ⟨(some 21), (.bin .lss (.t 18) (.t 20)), none⟩]) (.cond (.t 21) .skip (.exit 0))) (.seq (.blk 1 (.seq (.dreg [(⟨(some 24), (.mov (.t 0)), none⟩, []), (⟨(some 25), (.mov (.t 6)), none⟩, []), (⟨(some 26), (.iadr 3 (.t 24) (.t 25)), none⟩, [0, 1]), (⟨(some 27), (.load true 3 (.t 26)), none⟩, [2]), (⟨(some 28), (.mov (.t 1)), none⟩, []), (⟨(some 29), (.mov (.t 6)), none⟩, []), (⟨(some 30), (.iadr 3 (.t 28) (.t 29)), none⟩, [4, 5]), (⟨(some 31), (.load true 3 (.t 30)), none⟩, [6]), (⟨(some 32), (.call (.c (.fn 52 [])) [(.t 27), (.t 31)]), none⟩, [3, 7]), (⟨(some 33), (.not (.t 32)), none⟩, [8])]) (.cond (.t 33) (.seq (.reg [⟨(some 4), (.mov (.c (.bool false))), none⟩]) .ret) .skip))) (.reg [⟨(some 22), (.mov (.t 6)), none⟩, ⟨(some 23), (.bin .add (.t 22) (.c (.int .i64 1))), none⟩, ⟨(some 6), (.mov (.t 23)), none⟩])))))) (.seq (.dreg [(⟨(some 34), (.mov (.t 0)), none⟩, []), (⟨(some 35), (.mov (.t 1)), none⟩, []), (⟨(some 36), (.lenl (.t 35)), none⟩, [1]), (⟨(some 37), (.mov (.t 5)), none⟩, []), (⟨(some 38), (.sl 3 (.t 34) (some (.t 36)) (some (.t 37)) none), none⟩, [0, 2, 3]), (⟨(some 39), (.mov (.t 1)), none⟩, []), (⟨(some 40), (.mov (.t 1)), none⟩, []), (⟨(some 41), (.lenl (.t 40)), none⟩, [6]), (⟨(some 42), (.mov (.t 5)), none⟩, []), (⟨(some 43), (.sl 3 (.t 39) (some (.t 41)) (some (.t 42)) none), none⟩, [5, 7, 8]), (⟨(some 44), (.call (.c (.fn 30 [])) [(.t 38), (.t 43)]), none⟩, [4, 9]), (⟨(some 4), (.mov (.t 44)), none⟩, [10, 10, 0, 1, 2, 3, 4, 5, 6, 7, 8, 9, 10])]) .ret)))))⟩
theorem fit_laws_intactModuleS : Fit Tryz.prog 15 Tryz.f15 mf_laws_intactModuleS := ⟨by kernel_rfl, Tryz.func15, by kernel_rfl, by kernel_rfl, by kernel_rfl, by kernel_rfl⟩
theorem intactModuleS_ct (es : List LModule) (hl : es.length ≤ 1000000) (hg : ∀ a, a ∈ es → Ct Tryz.prog 52 [.agg a.C, .agg a.C] (.bool true)) (q : LModule → LModule → Bool) (hq : ∀ a, q a a = true) (hqc : ∀ a b, Ct Tryz.prog 95 [.agg a.C, .agg b.C] (.bool (q a b))) :
    Ct Tryz.prog 15 [(toS LModule.C fillModule false es).I LModule.C, (toS LModule.C fillModule false es).I LModule.C] (.bool true) := by
  have hY : (toS LModule.C fillModule false es).I LModule.C = .imm (es.map LModule.C) ((List.replicate (room es.length) fillModule).map LModule.C) true := by simp [toS, Sl.I]
  rw [hY]
  have hr := room_le es.length
  have hrm := room_ct es.length
  have hm : es.length ≤ maxLen := Nat.le_trans hl (by decide)
  have hw : IntKind.i64.wrap ((es.length : Int) + (room es.length : Int)) = (es.length : Int) + (room es.length : Int) := wrap_small (by omega) (by omega)
  have hwsl := fun (σ : Heap) => slV_behind (σ := σ) (k := .i64) (f := LModule.C) (l := es) (s := List.replicate (room es.length) fillModule) (lim := true) (m := (es.length : Int) + (room es.length : Int)) (n := 3) (by simp) LModule.C_len
  have h1 := eqModuleS_ct ⟨List.replicate (room es.length) fillModule, [], true⟩ ⟨List.replicate (room es.length) fillModule, [], true⟩ q (fun a _ b => hqc a b)
  rw [all2_refl hq] at h1
  simp only [List.map_replicate] at hwsl
  simp only [Sl.I, List.map_replicate] at h1
  refine ct_of_run fit_laws_intactModuleS (by simp [mf_laws_intactModuleS]) (by simp [go_sem]) fun hd => ?_
  simp -implicitDefEqProofs [-List.map_take, -List.map_drop, go_sem, mf_laws_intactModuleS]
  repeat' first
    | ((first | refine gv_split (fun h => ?_) (fun h => ?_) | refine cnd_split (fun h => ?_) (fun h => ?_) | refine cgv_split (fun h => ?_) (fun h => ?_)) <;> (try (have hp := h; simp at hp)) <;> simp -implicitDefEqProofs [-List.map_take, -List.map_drop, go_sem, h, hw])
    | (refine And.intro (by first | omega | (simp only [maxLen]; omega) | (simp_all; done) | (simp_all; omega)) ?_; try simp -implicitDefEqProofs [-List.map_take, -List.map_drop, go_sem, hw])
    | ((first | refine stp_ct (hrm) (by simp [go_sem, hw]) ?_ ?_ | refine cstp_ct (hrm) (by simp [go_sem, hw]) ?_ ?_); (simp [go_sem]); simp -implicitDefEqProofs [-List.map_take, -List.map_drop, go_sem, hw])
    | (refine run_dreg' (by decide) ?_; simp -implicitDefEqProofs [-List.map_take, -List.map_drop, go_sem, hw])
    | ((first | refine end_tup _ (by simp) (by simp [go_sem]; rfl) (by simp [go_sem]) ?_); first | (simp [go_sem, *]; done) | grind | (simp [go_sem]; grind) | (simp_all [go_sem]; done) | (simp_all [go_sem]; omega))
  refine run_iter (es.length) (intactModuleS_L (.imm (es.map LModule.C) ((List.replicate (room es.length) fillModule).map LModule.C) true) ((es.length : Int) + (room es.length : Int))) (fun i a => True) () (gh_auto (by simp [go_sem, intactModuleS_L, hw])) (by first | (simp; done) | (simp []; done) | (simp []; omega) | grind) ?_
  intro i a hi hj
  simp -implicitDefEqProofs [-List.map_take, -List.map_drop, go_sem, intactModuleS_L, hw]
  refine cnd_split (fun hc => ?_) (fun hc => ?_)
  · have hlt : i < es.length := by first | (simpa using hc) | (simp at hc; omega)
    simp -implicitDefEqProofs [-List.map_take, -List.map_drop, go_sem, hlt, hw]
    have hgi := hg es[i] (List.getElem_mem hlt)
    repeat' first
      | ((first | refine gv_split (fun h => ?_) (fun h => ?_) | refine cnd_split (fun h => ?_) (fun h => ?_) | refine cgv_split (fun h => ?_) (fun h => ?_)) <;> (try (have hp := h; simp at hp)) <;> simp -implicitDefEqProofs [-List.map_take, -List.map_drop, go_sem, h, hlt])
      | (refine And.intro (by first | omega | (simp only [maxLen]; omega) | (simp_all; done) | (simp_all; omega)) ?_; try simp -implicitDefEqProofs [-List.map_take, -List.map_drop, go_sem, hlt])
      | ((first | refine stp_ct (hgi) (by simp [go_sem, hlt]) ?_ ?_ | refine cstp_ct (hgi) (by simp [go_sem, hlt]) ?_ ?_); (simp [go_sem]); simp -implicitDefEqProofs [-List.map_take, -List.map_drop, go_sem, hlt])
      | (refine run_dreg' (by decide) ?_; simp -implicitDefEqProofs [-List.map_take, -List.map_drop, go_sem, hlt])
      | ((first | refine kx_next () hlt (gh_auto (by simp [go_sem, intactModuleS_L, wrap_succ hlt hm, hlt])) ?_ | refine end_tup _ (by simp) (by simp [go_sem]; rfl) (by simp [go_sem]) ?_); first | (simp [go_sem, *]; done) | grind | (simp [go_sem]; grind) | (simp_all [go_sem]; done) | (simp_all [go_sem]; omega))
  · have hge : es.length ≤ i := by first | (simpa using hc) | (simp at hc; omega)
    try simp -implicitDefEqProofs [-List.map_take, -List.map_drop, go_sem, hw]
    repeat' first
      | ((first | refine gv_split (fun h => ?_) (fun h => ?_) | refine cnd_split (fun h => ?_) (fun h => ?_) | refine cgv_split (fun h => ?_) (fun h => ?_)) <;> (try (have hp := h; simp at hp)) <;> simp -implicitDefEqProofs [-List.map_take, -List.map_drop, go_sem, h, hwsl])
      | (refine And.intro (by first | omega | (simp only [maxLen]; omega) | (simp_all; done) | (simp_all; omega)) ?_; try simp -implicitDefEqProofs [-List.map_take, -List.map_drop, go_sem, hwsl])
      | ((first | refine stp_ct (h1) (by simp [go_sem, hwsl]) ?_ ?_ | refine cstp_ct (h1) (by simp [go_sem, hwsl]) ?_ ?_); (simp [go_sem]); simp -implicitDefEqProofs [-List.map_take, -List.map_drop, go_sem, hwsl])
      | (refine run_dreg' (by decide) ?_; simp -implicitDefEqProofs [-List.map_take, -List.map_drop, go_sem, hwsl])
      | ((first | refine end_tup _ (by simp) (by simp [go_sem]; rfl) (by simp [go_sem]) ?_); first | (simp [go_sem, *]; done) | grind | (simp [go_sem]; grind) | (simp_all [go_sem]; done) | (simp_all [go_sem]; omega))
theorem intactP_ct (p : Sl LModule) (hs : SmP (p.es.map LModule.core)) : Ct Tryz.prog 15 [(toP false p.es).I LModule.C, (toP false p.es).I LModule.C] (.bool true) :=
  intactModuleS_ct (p.es.map (toM false)) (by simpa using hs.1) (fun a ha => by
    obtain ⟨x, hx, rfl⟩ := List.mem_map.1 ha
    exact intactModule_ct x (hs.2 _ (List.mem_map_of_mem hx))) (fun a b => sameModule a.core b.core) (fun a => sameModule_refl _) eqModule_ct
end Go.Mach
