import Derived.Test.YtgkpfkfomonmgaaGreatWb
/- Programs of the reference, walked: modules. -/
set_option maxHeartbeats 4000000
namespace Go.Mach
open Go Go.Proofs
set_option linter.unusedVariables false
set_option linter.unusedSimpArgs false
attribute [local go_sem] run_seq run_skip run_reg run_blk run_exit run_ret run_cond cnd_true cnd_false kx_seq_normal kx_seq_exit kx_seq_ret kx_blk_normal kx_blk_same kx_blk_other kx_blk_ret kx_loop_exit kx_loop_ret kx_done ops_nil ops_plain ops_grd gv_tt gv_ff gv_tf gv_ft gv_tup stp_ok stp_ob stp_hp stp_bad stp_if get_t get_c putO_some putO_none put_same put_ne put_σ put_base withσ_τ withσ_σ withσ_base withσ_put withσ_withσ mk_τ mk_σ mk_base mk_withσ entry_τ entry_σ entry_base calm_nil calm_plain calm_grd cgv_tt cgv_ff cgv_tf cgv_ft cgv_tup cstp_ok cstp_ob cstp_if
attribute [local irreducible] Ct Co Cs
attribute [local go_sem] evalOp notV negV pickV binV intB seqV beqV catV lensV lenlV boxV_eq newV cellsOf cellV fadrV fldV fldC loadV loadC_ag loadC_one plainV isOwn iadrV storeV lk bdV bdL renO renL renV pureV pureL noOwnV noOwnL idxV slsV optI extV resL resV ret1 mmV cnviV cnvsV nilcV eqnV bslV bslGo appV elems okE appE getD_map okO_none okO_some strC intC Sl.I
attribute [local simp] Bind.eqa Use.eqa loadC_str loadC_int Bind.C_len Bind.C_pure Bind.C_noOwn Bind.C_cell Bind.C_bd Bind.C_bdL Bind.C_ren Bind.C_any Bind.C_any0 Bind.C_any1 Bind.C_anyt Bind.C_take Bind.C_load Bind.C_load0 Bind.C_load1 Bind.C_fld Bind.C_box Bind.C_fold Use.C_len Use.C_pure Use.C_noOwn Use.C_cell Use.C_bd Use.C_bdL Use.C_ren Use.C_any Use.C_any0 Use.C_any1 Use.C_anyt Use.C_take Use.C_load Use.C_load0 Use.C_load1 Use.C_fld Use.C_box Use.C_fold LExpr.C_len LExpr.C_pure LExpr.C_noOwn LExpr.C_cell LExpr.C_bd LExpr.C_bdL LExpr.C_ren LExpr.C_any LExpr.C_any0 LExpr.C_any1 LExpr.C_anyt LExpr.C_take LExpr.C_load LExpr.C_load0 LExpr.C_load1 LExpr.C_fld LExpr.C_box LExpr.C_fold LDecl.C_len LDecl.C_pure LDecl.C_noOwn LDecl.C_cell LDecl.C_bd LDecl.C_bdL LDecl.C_ren LDecl.C_any LDecl.C_any0 LDecl.C_any1 LDecl.C_anyt LDecl.C_take LDecl.C_load LDecl.C_load0 LDecl.C_load1 LDecl.C_fld LDecl.C_box LDecl.C_fold LModule.C_len LModule.C_pure LModule.C_noOwn LModule.C_cell LModule.C_bd LModule.C_bdL LModule.C_ren LModule.C_any LModule.C_any0 LModule.C_any1 LModule.C_anyt LModule.C_take LModule.C_load LModule.C_load0 LModule.C_load1 LModule.C_fld LModule.C_box LModule.C_fold

theorem decls_deep {m : LModule} (h : deepL m.C) : m.decls.es.length ≤ maxLen := by
  simp [LModule.C, deepL, deepV] at h
  omega
theorem uses_deep {m : LModule} (h : deepL m.C) : m.uses.es.length ≤ maxLen := by
  simp [LModule.C, deepL, deepV] at h
  omega
theorem sl_deep {α : Type} {f : α → List PV} {l : Sl α} (h : deepV (l.I f)) : l.es.length ≤ maxLen := by
  simp [Sl.I, deepV] at h
  omega
def declAt_L (m : LModule) (name : Str) (i : Nat) (_ : Unit) : St := ⟨lk [(1, .str name), (2, .ptr 0 1 0 0), (5, .int .i64 i)], [some ⟨[[.str m.name, .imm (m.uses.es.map Use.C) m.uses.sp m.uses.lim, .imm (m.decls.es.map LDecl.C) m.decls.sp m.decls.lim]], 3, 43, false, false⟩], []⟩
def mf_spec_declAt : MF := ⟨22, [(.t 4)], (.seq (.reg [⟨(some 2), (.box 43 (.t 0)), none⟩, ⟨(some 4), (.mov (.c (.int .i64 0))), none⟩]) (.seq (.seq (.reg [⟨(some 5), (.mov (.c (.int .i64 0))), none⟩]) (.blk 0 (.loop (.seq (.seq (.reg [⟨(some 6), (.mov (.t 5)), none⟩, ⟨(some 7), (.fadr 2 (.t 2)), none⟩, ⟨(some 8), (.load false 1 (.t 7)), none⟩, ⟨(some 9), (.lenl (.t 8)), none⟩, ⟨(some 10), (.bin .lss (.t 6) (.t 9)), none⟩]) (.cond (.t 10) .skip (.exit 0))) (.seq (.blk 1 (.seq (.reg [⟨(some 13), (.fadr 2 (.t 2)), none⟩, ⟨(some 14), (.load false 1 (.t 13)), none⟩, ⟨(some 15), (.mov (.t 5)), none⟩, ⟨(some 16), (.iadr 8 (.t 14) (.t 15)), none⟩, ⟨(some 17), (.fadr 1 (.t 16)), none⟩, ⟨(some 18), (.load false 1 (.t 17)), none⟩, ⟨(some 19), (.mov (.t 1)), none⟩, ⟨(some 20), (.seq false (.t 18) (.t 19)), none⟩]) (.cond (.t 20) (.seq (.reg [⟨(some 21), (.mov (.t 5)), none⟩, ⟨(some 4), (.mov (.t 21)), none⟩]) .ret) .skip))) (.reg [⟨(some 11), (.mov (.t 5)), none⟩, ⟨(some 12), (.bin .add (.t 11) (.c (.int .i64 1))), none⟩, ⟨(some 5), (.mov (.t 12)), none⟩])))))) (.seq (.reg [⟨(some 4), (.mov (.c (.int .i64 (-1)))), none⟩]) .ret)))⟩
theorem fit_spec_declAt : Fit Tryz.prog 73 Tryz.f73 mf_spec_declAt := ⟨by kernel_rfl, Tryz.func73, by kernel_rfl, by kernel_rfl, by kernel_rfl, by kernel_rfl⟩
theorem declAt_ct (m : LModule) (name : Str) : Ct Tryz.prog 73 [.agg m.C, .str name] (.int .i64 (declAt m.core name)) := by
  refine ct_of_run fit_spec_declAt (by simp [mf_spec_declAt]) (by simp [go_sem]) fun hd => ?_
  simp -implicitDefEqProofs [-List.map_take, -List.map_drop, go_sem, mf_spec_declAt]
  have hm : m.decls.es.length ≤ maxLen := decls_deep hd.1
  refine run_iter (m.decls.es.length) (declAt_L m name) (fun i a => idxFrom (fun d => d.name == name) ((m.decls.es.drop i).map LDecl.core) i = declAt m.core name) () (gh_auto (by simp [go_sem, declAt_L])) (by first | (simp; done) | (simp [declAt]; done) | (simp [declAt]; omega) | grind) ?_
  intro i a hi hj
  simp -implicitDefEqProofs [-List.map_take, -List.map_drop, go_sem, declAt_L]
  refine cnd_split (fun hc => ?_) (fun hc => ?_)
  · have hlt : i < m.decls.es.length := by first | (simpa using hc) | (simp at hc; omega)
    rw [List.drop_eq_getElem_cons (l := m.decls.es) (by omega)] at hj
    simp only [List.map_cons, idxFrom, LDecl.core_name] at hj
    simp -implicitDefEqProofs [-List.map_take, -List.map_drop, go_sem, hlt]
    repeat' first
      | ((first | refine gv_split (fun h => ?_) (fun h => ?_) | refine cnd_split (fun h => ?_) (fun h => ?_) | refine cgv_split (fun h => ?_) (fun h => ?_)) <;> (try (have hp := h; simp at hp)) <;> simp -implicitDefEqProofs [-List.map_take, -List.map_drop, go_sem, h, hlt])
      | (refine And.intro (by first | omega | (simp only [maxLen]; omega) | (simp_all; done) | (simp_all; omega)) ?_; try simp -implicitDefEqProofs [-List.map_take, -List.map_drop, go_sem, hlt])
      | (refine run_dreg' (by decide) ?_; simp -implicitDefEqProofs [-List.map_take, -List.map_drop, go_sem, hlt])
      | ((first | refine kx_next () hlt (gh_auto (by simp [go_sem, declAt_L, wrap_succ hlt hm, hlt])) ?_ | refine end_tup _ (by simp) (by simp [go_sem]; rfl) (by simp [go_sem]) ?_); first | (simp [go_sem, *, declAt]; done) | grind [declAt] | (simp [go_sem, declAt]; grind [declAt]) | (simp_all [go_sem, declAt]; done) | (simp_all [go_sem, declAt]; omega))
  · have hge : m.decls.es.length ≤ i := by first | (simpa using hc) | (simp at hc; omega)
    rw [List.drop_of_length_le (l := m.decls.es) (by omega)] at hj
    simp only [List.map_nil, idxFrom, LDecl.core_name] at hj
    try simp -implicitDefEqProofs [-List.map_take, -List.map_drop, go_sem]
    repeat' first
      | ((first | refine gv_split (fun h => ?_) (fun h => ?_) | refine cnd_split (fun h => ?_) (fun h => ?_) | refine cgv_split (fun h => ?_) (fun h => ?_)) <;> (try (have hp := h; simp at hp)) <;> simp -implicitDefEqProofs [-List.map_take, -List.map_drop, go_sem, h])
      | (refine And.intro (by first | omega | (simp only [maxLen]; omega) | (simp_all; done) | (simp_all; omega)) ?_; try simp -implicitDefEqProofs [-List.map_take, -List.map_drop, go_sem])
      | (refine run_dreg' (by decide) ?_; simp -implicitDefEqProofs [-List.map_take, -List.map_drop, go_sem])
      | ((first | refine end_tup _ (by simp) (by simp [go_sem]; rfl) (by simp [go_sem]) ?_); first | (simp [go_sem, *, declAt]; done) | grind [declAt] | (simp [go_sem, declAt]; grind [declAt]) | (simp_all [go_sem, declAt]; done) | (simp_all [go_sem, declAt]; omega))
def mf_spec_useAt : MF := ⟨22, [(.t 4)], (.seq (.reg [⟨(some 2), (.box 43 (.t 0)), none⟩, ⟨(some 4), (.mov (.c (.int .i64 0))), none⟩]) (.seq (.seq (.reg [⟨(some 5), (.mov (.c (.int .i64 0))), none⟩]) (.blk 0 (.loop (.seq (.seq (.reg [⟨(some 6), (.mov (.t 5)), none⟩, ⟨(some 7), (.fadr 1 (.t 2)), none⟩, ⟨(some 8), (.load false 1 (.t 7)), none⟩, ⟨(some 9), (.lenl (.t 8)), none⟩, ⟨(some 10), (.bin .lss (.t 6) (.t 9)), none⟩]) (.cond (.t 10) .skip (.exit 0))) (.seq (.blk 1 (.seq (.reg [⟨(some 13), (.fadr 1 (.t 2)), none⟩, ⟨(some 14), (.load false 1 (.t 13)), none⟩, ⟨(some 15), (.mov (.t 5)), none⟩, ⟨(some 16), (.iadr 2 (.t 14) (.t 15)), none⟩, ⟨(some 17), (.fadr 1 (.t 16)), none⟩, ⟨(some 18), (.load false 1 (.t 17)), none⟩, ⟨(some 19), (.mov (.t 1)), none⟩, ⟨(some 20), (.seq false (.t 18) (.t 19)), none⟩]) (.cond (.t 20) (.seq (.reg [⟨(some 21), (.mov (.t 5)), none⟩, ⟨(some 4), (.mov (.t 21)), none⟩]) .ret) .skip))) (.reg [⟨(some 11), (.mov (.t 5)), none⟩, ⟨(some 12), (.bin .add (.t 11) (.c (.int .i64 1))), none⟩, ⟨(some 5), (.mov (.t 12)), none⟩])))))) (.seq (.reg [⟨(some 4), (.mov (.c (.int .i64 (-1)))), none⟩]) .ret)))⟩
theorem fit_spec_useAt : Fit Tryz.prog 156 Tryz.f156 mf_spec_useAt := ⟨by kernel_rfl, Tryz.func156, by kernel_rfl, by kernel_rfl, by kernel_rfl, by kernel_rfl⟩
theorem useAt_ct (m : LModule) (name : Str) : Ct Tryz.prog 156 [.agg m.C, .str name] (.int .i64 (useAt m.core name)) := by
  refine ct_of_run fit_spec_useAt (by simp [mf_spec_useAt]) (by simp [go_sem]) fun hd => ?_
  simp -implicitDefEqProofs [-List.map_take, -List.map_drop, go_sem, mf_spec_useAt]
  have hm : m.uses.es.length ≤ maxLen := uses_deep hd.1
  refine run_iter (m.uses.es.length) (declAt_L m name) (fun i a => idxFrom (fun d => d.name == name) (m.uses.es.drop i) i = useAt m.core name) () (gh_auto (by simp [go_sem, declAt_L])) (by first | (simp; done) | (simp [useAt]; done) | (simp [useAt]; omega) | grind) ?_
  intro i a hi hj
  simp -implicitDefEqProofs [-List.map_take, -List.map_drop, go_sem, declAt_L]
  refine cnd_split (fun hc => ?_) (fun hc => ?_)
  · have hlt : i < m.uses.es.length := by first | (simpa using hc) | (simp at hc; omega)
    rw [List.drop_eq_getElem_cons (l := m.uses.es) (by omega)] at hj
    simp only [List.map_cons, idxFrom] at hj
    simp -implicitDefEqProofs [-List.map_take, -List.map_drop, go_sem, hlt]
    repeat' first
      | ((first | refine gv_split (fun h => ?_) (fun h => ?_) | refine cnd_split (fun h => ?_) (fun h => ?_) | refine cgv_split (fun h => ?_) (fun h => ?_)) <;> (try (have hp := h; simp at hp)) <;> simp -implicitDefEqProofs [-List.map_take, -List.map_drop, go_sem, h, hlt])
      | (refine And.intro (by first | omega | (simp only [maxLen]; omega) | (simp_all; done) | (simp_all; omega)) ?_; try simp -implicitDefEqProofs [-List.map_take, -List.map_drop, go_sem, hlt])
      | (refine run_dreg' (by decide) ?_; simp -implicitDefEqProofs [-List.map_take, -List.map_drop, go_sem, hlt])
      | ((first | refine kx_next () hlt (gh_auto (by simp [go_sem, declAt_L, wrap_succ hlt hm, hlt])) ?_ | refine end_tup _ (by simp) (by simp [go_sem]; rfl) (by simp [go_sem]) ?_); first | (simp [go_sem, *, useAt]; done) | grind [useAt] | (simp [go_sem, useAt]; grind [useAt]) | (simp_all [go_sem, useAt]; done) | (simp_all [go_sem, useAt]; omega))
  · have hge : m.uses.es.length ≤ i := by first | (simpa using hc) | (simp at hc; omega)
    rw [List.drop_of_length_le (l := m.uses.es) (by omega)] at hj
    simp only [List.map_nil, idxFrom] at hj
    try simp -implicitDefEqProofs [-List.map_take, -List.map_drop, go_sem]
    repeat' first
      | ((first | refine gv_split (fun h => ?_) (fun h => ?_) | refine cnd_split (fun h => ?_) (fun h => ?_) | refine cgv_split (fun h => ?_) (fun h => ?_)) <;> (try (have hp := h; simp at hp)) <;> simp -implicitDefEqProofs [-List.map_take, -List.map_drop, go_sem, h])
      | (refine And.intro (by first | omega | (simp only [maxLen]; omega) | (simp_all; done) | (simp_all; omega)) ?_; try simp -implicitDefEqProofs [-List.map_take, -List.map_drop, go_sem])
      | (refine run_dreg' (by decide) ?_; simp -implicitDefEqProofs [-List.map_take, -List.map_drop, go_sem])
      | ((first | refine end_tup _ (by simp) (by simp [go_sem]; rfl) (by simp [go_sem]) ?_); first | (simp [go_sem, *, useAt]; done) | grind [useAt] | (simp [go_sem, useAt]; grind [useAt]) | (simp_all [go_sem, useAt]; done) | (simp_all [go_sem, useAt]; omega))
def moduleAt_L (p : Sl LModule) (name : Str) (i : Nat) (_ : Unit) : St := ⟨lk [(0, p.I LModule.C), (1, .str name), (5, .int .i64 i)], [], []⟩
def mf_spec_moduleAt : MF := ⟨20, [(.t 4)], (.seq (.reg [⟨(some 4), (.mov (.c (.int .i64 0))), none⟩]) (.seq (.seq (.reg [⟨(some 5), (.mov (.c (.int .i64 0))), none⟩]) (.blk 0 (.loop (.seq (.seq (.reg [⟨(some 6), (.mov (.t 5)), none⟩, ⟨(some 7), (.mov (.t 0)), none⟩, ⟨(some 8), (.lenl (.t 7)), none⟩, ⟨(some 9), (.bin .lss (.t 6) (.t 8)), none⟩]) (.cond (.t 9) .skip (.exit 0))) (.seq (.blk 1 (.seq (.reg [⟨(some 12), (.mov (.t 0)), none⟩, ⟨(some 13), (.mov (.t 5)), none⟩, ⟨(some 14), (.iadr 3 (.t 12) (.t 13)), none⟩, ⟨(some 15), (.fadr 0 (.t 14)), none⟩, ⟨(some 16), (.load false 1 (.t 15)), none⟩, ⟨(some 17), (.mov (.t 1)), none⟩, ⟨(some 18), (.seq false (.t 16) (.t 17)), none⟩]) (.cond (.t 18) (.seq (.reg [⟨(some 19), (.mov (.t 5)), none⟩, ⟨(some 4), (.mov (.t 19)), none⟩]) .ret) .skip))) (.reg [⟨(some 10), (.mov (.t 5)), none⟩, ⟨(some 11), (.bin .add (.t 10) (.c (.int .i64 1))), none⟩, ⟨(some 5), (.mov (.t 11)), none⟩])))))) (.seq (.reg [⟨(some 4), (.mov (.c (.int .i64 (-1)))), none⟩]) .ret)))⟩
theorem fit_spec_moduleAt : Fit Tryz.prog 72 Tryz.f72 mf_spec_moduleAt := ⟨by kernel_rfl, Tryz.func72, by kernel_rfl, by kernel_rfl, by kernel_rfl, by kernel_rfl⟩
theorem moduleAt_ct (p : Sl LModule) (name : Str) : Ct Tryz.prog 72 [p.I LModule.C, .str name] (.int .i64 (moduleAt (p.es.map LModule.core) name)) := by
  refine ct_of_run fit_spec_moduleAt (by simp [mf_spec_moduleAt]) (by simp [go_sem]) fun hd => ?_
  simp -implicitDefEqProofs [-List.map_take, -List.map_drop, go_sem, mf_spec_moduleAt]
  have hm : p.es.length ≤ maxLen := sl_deep hd.1
  refine run_iter (p.es.length) (moduleAt_L p name) (fun i a => idxFrom (fun d => d.name == name) ((p.es.drop i).map LModule.core) i = moduleAt (p.es.map LModule.core) name) () (gh_auto (by simp [go_sem, moduleAt_L])) (by first | (simp; done) | (simp [moduleAt]; done) | (simp [moduleAt]; omega) | grind) ?_
  intro i a hi hj
  simp -implicitDefEqProofs [-List.map_take, -List.map_drop, go_sem, moduleAt_L]
  refine cnd_split (fun hc => ?_) (fun hc => ?_)
  · have hlt : i < p.es.length := by first | (simpa using hc) | (simp at hc; omega)
    rw [List.drop_eq_getElem_cons (l := p.es) (by omega)] at hj
    simp only [List.map_cons, idxFrom, LModule.core_name] at hj
    simp -implicitDefEqProofs [-List.map_take, -List.map_drop, go_sem, hlt]
    repeat' first
      | ((first | refine gv_split (fun h => ?_) (fun h => ?_) | refine cnd_split (fun h => ?_) (fun h => ?_) | refine cgv_split (fun h => ?_) (fun h => ?_)) <;> (try (have hp := h; simp at hp)) <;> simp -implicitDefEqProofs [-List.map_take, -List.map_drop, go_sem, h, hlt])
      | (refine And.intro (by first | omega | (simp only [maxLen]; omega) | (simp_all; done) | (simp_all; omega)) ?_; try simp -implicitDefEqProofs [-List.map_take, -List.map_drop, go_sem, hlt])
      | (refine run_dreg' (by decide) ?_; simp -implicitDefEqProofs [-List.map_take, -List.map_drop, go_sem, hlt])
      | ((first | refine kx_next () hlt (gh_auto (by simp [go_sem, moduleAt_L, wrap_succ hlt hm, hlt])) ?_ | refine end_tup _ (by simp) (by simp [go_sem]; rfl) (by simp [go_sem]) ?_); first | (simp [go_sem, *, moduleAt]; done) | grind [moduleAt] | (simp [go_sem, moduleAt]; grind [moduleAt]) | (simp_all [go_sem, moduleAt]; done) | (simp_all [go_sem, moduleAt]; omega))
  · have hge : p.es.length ≤ i := by first | (simpa using hc) | (simp at hc; omega)
    rw [List.drop_of_length_le (l := p.es) (by omega)] at hj
    simp only [List.map_nil, idxFrom, LModule.core_name] at hj
    try simp -implicitDefEqProofs [-List.map_take, -List.map_drop, go_sem]
    repeat' first
      | ((first | refine gv_split (fun h => ?_) (fun h => ?_) | refine cnd_split (fun h => ?_) (fun h => ?_) | refine cgv_split (fun h => ?_) (fun h => ?_)) <;> (try (have hp := h; simp at hp)) <;> simp -implicitDefEqProofs [-List.map_take, -List.map_drop, go_sem, h])
      | (refine And.intro (by first | omega | (simp only [maxLen]; omega) | (simp_all; done) | (simp_all; omega)) ?_; try simp -implicitDefEqProofs [-List.map_take, -List.map_drop, go_sem])
      | (refine run_dreg' (by decide) ?_; simp -implicitDefEqProofs [-List.map_take, -List.map_drop, go_sem])
      | ((first | refine end_tup _ (by simp) (by simp [go_sem]; rfl) (by simp [go_sem]) ?_); first | (simp [go_sem, *, moduleAt]; done) | grind [moduleAt] | (simp [go_sem, moduleAt]; grind [moduleAt]) | (simp_all [go_sem, moduleAt]; done) | (simp_all [go_sem, moduleAt]; omega))
def sameBinds_L (x y : Sl Bind) (i : Nat) (_ : Unit) : St := ⟨lk [(0, x.I Bind.C), (1, y.I Bind.C), (5, .int .i64 i)], [], []⟩
def mf_spec_sameBinds : MF := ⟨26, [(.t 4)], (.seq (.reg [⟨(some 4), (.mov (.c (.bool false))), none⟩]) (.seq (.seq (.reg [⟨(some 6), (.mov (.t 0)), none⟩, ⟨(some 7), (.lenl (.t 6)), none⟩, ⟨(some 8), (.mov (.t 1)), none⟩, ⟨(some 9), (.lenl (.t 8)), none⟩, ⟨(some 10), (.bin .neq (.t 7) (.t 9)), none⟩]) (.cond (.t 10) (.seq (.reg [⟨(some 4), (.mov (.c (.bool false))), none⟩]) .ret) .skip)) (.seq (.seq (.reg [⟨(some 5), (.mov (.c (.int .i64 0))), none⟩]) (.blk 0 (.loop (.seq (.seq (.reg [⟨(some 11), (.mov (.t 5)), none⟩, ⟨(some 12), (.mov (.t 0)), none⟩, ⟨(some 13), (.lenl (.t 12)), none⟩, ⟨(some 14), (.bin .lss (.t 11) (.t 13)), none⟩]) (.cond (.t 14) .skip (.exit 0))) (.seq (.blk 1 (.seq (.dreg [(⟨(some 17), (.mov (.t 0)), none⟩, []), (⟨(some 18), (.mov (.t 5)), none⟩, []), (⟨(some 19), (.iadr 2 (.t 17) (.t 18)), none⟩, [0, 1]), (⟨(some 20), (.load true 2 (.t 19)), none⟩, [2]), (⟨(some 21), (.mov (.t 1)), none⟩, []), (⟨(some 22), (.mov (.t 5)), none⟩, []), (⟨(some 23), (.iadr 2 (.t 21) (.t 22)), none⟩, [4, 5]), (⟨(some 24), (.load true 2 (.t 23)), none⟩, [6]), (⟨(some 25), (.eqa true [.s, .s] (.t 20) (.t 24)), none⟩, [3, 7])]) (.cond (.t 25) (.seq (.reg [⟨(some 4), (.mov (.c (.bool false))), none⟩]) .ret) .skip))) (.reg [⟨(some 15), (.mov (.t 5)), none⟩, ⟨(some 16), (.bin .add (.t 15) (.c (.int .i64 1))), none⟩, ⟨(some 5), (.mov (.t 16)), none⟩])))))) (.seq (.reg [⟨(some 4), (.mov (.c (.bool true))), none⟩]) .ret))))⟩
theorem fit_spec_sameBinds : Fit Tryz.prog 182 Tryz.f182 mf_spec_sameBinds := ⟨by kernel_rfl, Tryz.func182, by kernel_rfl, by kernel_rfl, by kernel_rfl, by kernel_rfl⟩
theorem sameBinds_ct (x y : Sl Bind) : Ct Tryz.prog 182 [x.I Bind.C, y.I Bind.C] (.bool (all2 (· == ·) x.es y.es)) := by
  refine ct_of_run fit_spec_sameBinds (by simp [mf_spec_sameBinds]) (by simp [go_sem]) fun hd => ?_
  simp -implicitDefEqProofs [-List.map_take, -List.map_drop, go_sem, mf_spec_sameBinds]
  have hm : x.es.length ≤ maxLen := sl_deep hd.1
  have hne := all2_ne (· == ·) x.es y.es
  repeat' first
    | ((first | refine gv_split (fun h => ?_) (fun h => ?_) | refine cnd_split (fun h => ?_) (fun h => ?_) | refine cgv_split (fun h => ?_) (fun h => ?_)) <;> (try (have hp := h; simp at hp)) <;> simp -implicitDefEqProofs [-List.map_take, -List.map_drop, go_sem, h])
    | (refine And.intro (by first | omega | (simp only [maxLen]; omega) | (simp_all; done) | (simp_all; omega)) ?_; try simp -implicitDefEqProofs [-List.map_take, -List.map_drop, go_sem])
    | (refine run_dreg' (by decide) ?_; simp -implicitDefEqProofs [-List.map_take, -List.map_drop, go_sem])
    | ((first | refine end_tup _ (by simp) (by simp [go_sem]; rfl) (by simp [go_sem]) ?_); first | (simp [go_sem, *]; done) | grind | (simp [go_sem]; grind) | (simp_all [go_sem]; done) | (simp_all [go_sem]; omega))
  have hlen : x.es.length = y.es.length := by omega
  refine run_iter (x.es.length) (sameBinds_L x y) (fun i a => all2 (· == ·) (x.es.drop i) (y.es.drop i) = all2 (· == ·) x.es y.es) () (gh_auto (by simp [go_sem, sameBinds_L])) (by first | (simp; done) | (simp []; done) | (simp []; omega) | grind) ?_
  intro i a hi hj
  simp -implicitDefEqProofs [-List.map_take, -List.map_drop, go_sem, sameBinds_L]
  refine cnd_split (fun hc => ?_) (fun hc => ?_)
  · have hlt : i < x.es.length := by first | (simpa using hc) | (simp at hc; omega)
    rw [List.drop_eq_getElem_cons (l := x.es) (by omega)] at hj
    have hlt_1 : i < y.es.length := by omega
    rw [List.drop_eq_getElem_cons (l := y.es) (by omega)] at hj
    simp only [List.map_cons, all2] at hj
    simp -implicitDefEqProofs [-List.map_take, -List.map_drop, go_sem, hlt, hlt_1]
    repeat' first
      | ((first | refine gv_split (fun h => ?_) (fun h => ?_) | refine cnd_split (fun h => ?_) (fun h => ?_) | refine cgv_split (fun h => ?_) (fun h => ?_)) <;> (try (have hp := h; simp at hp)) <;> simp -implicitDefEqProofs [-List.map_take, -List.map_drop, go_sem, h, hlt, hlt_1])
      | (refine And.intro (by first | omega | (simp only [maxLen]; omega) | (simp_all; done) | (simp_all; omega)) ?_; try simp -implicitDefEqProofs [-List.map_take, -List.map_drop, go_sem, hlt, hlt_1])
      | (refine run_dreg' (by decide) ?_; simp -implicitDefEqProofs [-List.map_take, -List.map_drop, go_sem, hlt, hlt_1])
      | ((first | refine kx_next () hlt (gh_auto (by simp [go_sem, sameBinds_L, wrap_succ hlt hm, hlt, hlt_1])) ?_ | refine end_tup _ (by simp) (by simp [go_sem]; rfl) (by simp [go_sem]) ?_); first | (simp [go_sem, *]; done) | grind | (simp [go_sem]; grind) | (simp_all [go_sem]; done) | (simp_all [go_sem]; omega))
  · have hge : x.es.length ≤ i := by first | (simpa using hc) | (simp at hc; omega)
    rw [List.drop_of_length_le (l := x.es) (by omega)] at hj
    rw [List.drop_of_length_le (l := y.es) (by omega)] at hj
    simp only [List.map_nil, all2] at hj
    try simp -implicitDefEqProofs [-List.map_take, -List.map_drop, go_sem]
    repeat' first
      | ((first | refine gv_split (fun h => ?_) (fun h => ?_) | refine cnd_split (fun h => ?_) (fun h => ?_) | refine cgv_split (fun h => ?_) (fun h => ?_)) <;> (try (have hp := h; simp at hp)) <;> simp -implicitDefEqProofs [-List.map_take, -List.map_drop, go_sem, h])
      | (refine And.intro (by first | omega | (simp only [maxLen]; omega) | (simp_all; done) | (simp_all; omega)) ?_; try simp -implicitDefEqProofs [-List.map_take, -List.map_drop, go_sem])
      | (refine run_dreg' (by decide) ?_; simp -implicitDefEqProofs [-List.map_take, -List.map_drop, go_sem])
      | ((first | refine end_tup _ (by simp) (by simp [go_sem]; rfl) (by simp [go_sem]) ?_); first | (simp [go_sem, *]; done) | grind | (simp [go_sem]; grind) | (simp_all [go_sem]; done) | (simp_all [go_sem]; omega))
def mf_spec_sameDecl : MF := ⟨38, [(.t 4)], (.seq (.reg [⟨(some 2), (.box 46 (.t 0)), none⟩, ⟨(some 3), (.box 46 (.t 1)), none⟩, ⟨(some 4), (.mov (.c (.bool false))), none⟩]) (.seq (.reg [⟨(some 5), (.fadr 0 (.t 2)), none⟩, ⟨(some 6), (.load false 1 (.t 5)), none⟩, ⟨(some 7), (.fadr 0 (.t 3)), none⟩, ⟨(some 8), (.load false 1 (.t 7)), none⟩, ⟨(some 9), (.bin .eql (.t 6) (.t 8)), none⟩, ⟨(some 10), (.mov (.t 9)), none⟩, ⟨(some 11), (.fadr 1 (.t 2)), (some (10, true))⟩, ⟨(some 12), (.load false 1 (.t 11)), (some (10, true))⟩, ⟨(some 13), (.fadr 1 (.t 3)), (some (10, true))⟩, ⟨(some 14), (.load false 1 (.t 13)), (some (10, true))⟩, ⟨(some 15), (.seq false (.t 12) (.t 14)), (some (10, true))⟩, ⟨(some 16), (.pick (.t 10) (.t 15) (.c (.bool false))), none⟩, ⟨(some 17), (.mov (.t 16)), none⟩, ⟨(some 18), (.fadr 3 (.t 2)), (some (17, true))⟩, ⟨(some 19), (.load false 1 (.t 18)), (some (17, true))⟩, ⟨(some 20), (.fadr 3 (.t 3)), (some (17, true))⟩, ⟨(some 21), (.load false 1 (.t 20)), (some (17, true))⟩, ⟨(some 22), (.seq false (.t 19) (.t 21)), (some (17, true))⟩, ⟨(some 23), (.pick (.t 17) (.t 22) (.c (.bool false))), none⟩, ⟨(some 24), (.mov (.t 23)), none⟩, ⟨(some 25), (.fadr 2 (.t 2)), (some (24, true))⟩, ⟨(some 26), (.load false 1 (.t 25)), (some (24, true))⟩, ⟨(some 27), (.fadr 2 (.t 3)), (some (24, true))⟩, ⟨(some 28), (.load false 1 (.t 27)), (some (24, true))⟩, ⟨(some 29), (.call (.c (.fn 182 [])) [(.t 26), (.t 28)]), (some (24, true))⟩, ⟨(some 30), (.pick (.t 24) (.t 29) (.c (.bool false))), none⟩, ⟨(some 31), (.mov (.t 30)), none⟩, ⟨(some 32), (.fadr 4 (.t 2)), (some (31, true))⟩, ⟨(some 33), (.load true 4 (.t 32)), (some (31, true))⟩, ⟨(some 34), (.fadr 4 (.t 3)), (some (31, true))⟩, ⟨(some 35), (.load true 4 (.t 34)), (some (31, true))⟩, ⟨(some 36), (.call (.c (.fn 61 [])) [(.t 33), (.t 35)]), (some (31, true))⟩, ⟨(some 37), (.pick (.t 31) (.t 36) (.c (.bool false))), none⟩, ⟨(some 4), (.mov (.t 37)), none⟩]) .ret))⟩
theorem fit_spec_sameDecl : Fit Tryz.prog 103 Tryz.f103 mf_spec_sameDecl := ⟨by kernel_rfl, Tryz.func103, by kernel_rfl, by kernel_rfl, by kernel_rfl, by kernel_rfl⟩
theorem sameDecl_ct (x y : LDecl) : Ct Tryz.prog 103 [.agg x.C, .agg y.C] (.bool (sameDecl x.core y.core)) := by
  refine ct_of_run fit_spec_sameDecl (by simp [mf_spec_sameDecl]) (by simp [go_sem]) fun hd => ?_
  simp -implicitDefEqProofs [-List.map_take, -List.map_drop, go_sem, mf_spec_sameDecl]
  repeat' first
    | ((first | refine gv_split (fun h => ?_) (fun h => ?_) | refine cnd_split (fun h => ?_) (fun h => ?_) | refine cgv_split (fun h => ?_) (fun h => ?_)) <;> (try (have hp := h; simp at hp)) <;> simp -implicitDefEqProofs [-List.map_take, -List.map_drop, go_sem, h])
    | (refine And.intro (by first | omega | (simp only [maxLen]; omega) | (simp_all; done) | (simp_all; omega)) ?_; try simp -implicitDefEqProofs [-List.map_take, -List.map_drop, go_sem])
    | ((first | refine stp_ct (sameBinds_ct x.binds y.binds) (by simp [go_sem]) ?_ ?_ | refine cstp_ct (sameBinds_ct x.binds y.binds) (by simp [go_sem]) ?_ ?_ | refine stp_ct (same_ct x.body y.body) (by simp [go_sem]) ?_ ?_ | refine cstp_ct (same_ct x.body y.body) (by simp [go_sem]) ?_ ?_); (simp [go_sem]); simp -implicitDefEqProofs [-List.map_take, -List.map_drop, go_sem])
    | (refine run_dreg' (by decide) ?_; simp -implicitDefEqProofs [-List.map_take, -List.map_drop, go_sem])
    | ((first | refine end_tup _ (by simp) (by simp [go_sem]; rfl) (by simp [go_sem]) ?_); first | (simp [go_sem, *, sameDecl]; done) | grind [sameDecl] | (simp [go_sem, sameDecl]; grind [sameDecl]) | (simp_all [go_sem, sameDecl]; done) | (simp_all [go_sem, sameDecl]; omega))
def sameModule_L (x y : LModule) (t : Nat) (i : Nat) (_ : Unit) : St := ⟨lk [(2, .ptr 0 1 0 0), (3, .ptr 1 1 0 0), (t, .int .i64 i)], [some ⟨[[.str x.name, .imm (x.uses.es.map Use.C) x.uses.sp x.uses.lim, .imm (x.decls.es.map LDecl.C) x.decls.sp x.decls.lim]], 3, 43, false, false⟩, some ⟨[[.str y.name, .imm (y.uses.es.map Use.C) y.uses.sp y.uses.lim, .imm (y.decls.es.map LDecl.C) y.decls.sp y.decls.lim]], 3, 43, false, false⟩], []⟩
def mf_spec_sameModule : MF := ⟨67, [(.t 4)], (.seq (.reg [⟨(some 2), (.box 43 (.t 0)), none⟩, ⟨(some 3), (.box 43 (.t 1)), none⟩, ⟨(some 4), (.mov (.c (.bool false))), none⟩]) (.seq (.seq (.reg [⟨(some 7), (.fadr 0 (.t 2)), none⟩, ⟨(some 8), (.load false 1 (.t 7)), none⟩, ⟨(some 9), (.fadr 0 (.t 3)), none⟩, ⟨(some 10), (.load false 1 (.t 9)), none⟩, ⟨(some 11), (.seq true (.t 8) (.t 10)), none⟩, ⟨(some 12), (.mov (.t 11)), none⟩, ⟨(some 13), (.fadr 1 (.t 2)), (some (12, false))⟩, ⟨(some 14), (.load false 1 (.t 13)), (some (12, false))⟩, ⟨(some 15), (.lenl (.t 14)), (some (12, false))⟩, ⟨(some 16), (.fadr 1 (.t 3)), (some (12, false))⟩, ⟨(some 17), (.load false 1 (.t 16)), (some (12, false))⟩, ⟨(some 18), (.lenl (.t 17)), (some (12, false))⟩, ⟨(some 19), (.bin .neq (.t 15) (.t 18)), (some (12, false))⟩, ⟨(some 20), (.pick (.t 12) (.c (.bool true)) (.t 19)), none⟩, ⟨(some 21), (.mov (.t 20)), none⟩, ⟨(some 22), (.fadr 2 (.t 2)), (some (21, false))⟩, ⟨(some 23), (.load false 1 (.t 22)), (some (21, false))⟩, ⟨(some 24), (.lenl (.t 23)), (some (21, false))⟩, ⟨(some 25), (.fadr 2 (.t 3)), (some (21, false))⟩, ⟨(some 26), (.load false 1 (.t 25)), (some (21, false))⟩, ⟨(some 27), (.lenl (.t 26)), (some (21, false))⟩, ⟨(some 28), (.bin .neq (.t 24) (.t 27)), (some (21, false))⟩, ⟨(some 29), (.pick (.t 21) (.c (.bool true)) (.t 28)), none⟩]) (.cond (.t 29) (.seq (.reg [⟨(some 4), (.mov (.c (.bool false))), none⟩]) .ret) .skip)) (.seq (.seq (.reg [⟨(some 5), (.mov (.c (.int .i64 0))), none⟩]) (.blk 0 (.loop (.seq (.seq (.reg [⟨(some 30), (.mov (.t 5)), none⟩, ⟨(some 31), (.fadr 1 (.t 2)), none⟩, ⟨(some 32), (.load false 1 (.t 31)), none⟩, ⟨(some 33), (.lenl (.t 32)), none⟩, ⟨(some 34), (.bin .lss (.t 30) (.t 33)), none⟩]) (.cond (.t 34) .skip (.exit 0))) (.seq (.blk 1 (.seq (.dreg [(⟨(some 37), (.fadr 1 (.t 2)), none⟩, []), (⟨(some 38), (.load false 1 (.t 37)), none⟩, [0]), (⟨(some 39), (.mov (.t 5)), none⟩, []), (⟨(some 40), (.iadr 2 (.t 38) (.t 39)), none⟩, [1, 2]), (⟨(some 41), (.load true 2 (.t 40)), none⟩, [3]), (⟨(some 42), (.fadr 1 (.t 3)), none⟩, []), (⟨(some 43), (.load false 1 (.t 42)), none⟩, [5]), (⟨(some 44), (.mov (.t 5)), none⟩, []), (⟨(some 45), (.iadr 2 (.t 43) (.t 44)), none⟩, [6, 7]), (⟨(some 46), (.load true 2 (.t 45)), none⟩, [8]), (⟨(some 47), (.eqa true [.s, .s] (.t 41) (.t 46)), none⟩, [4, 9])]) (.cond (.t 47) (.seq (.reg [⟨(some 4), (.mov (.c (.bool false))), none⟩]) .ret) .skip))) (.reg [⟨(some 35), (.mov (.t 5)), none⟩, ⟨(some 36), (.bin .add (.t 35) (.c (.int .i64 1))), none⟩, ⟨(some 5), (.mov (.t 36)), none⟩])))))) (.seq (.seq (.reg [⟨(some 6), (.mov (.c (.int .i64 0))), none⟩]) (.blk 2 (.loop (.seq (.seq (.reg [⟨(some 48), (.mov (.t 6)), none⟩, ⟨(some 49), (.fadr 2 (.t 2)), none⟩, ⟨(some 50), (.load false 1 (.t 49)), none⟩, ⟨(some 51), (.lenl (.t 50)), none⟩, ⟨(some 52), (.bin .lss (.t 48) (.t 51)), none⟩]) (.cond (.t 52) .skip (.exit 2))) (.seq (.blk 3 (.seq (.dreg [(⟨(some 55), (.fadr 2 (.t 2)), none⟩, []), (⟨(some 56), (.load false 1 (.t 55)), none⟩, [0]), (⟨(some 57), (.mov (.t 6)), none⟩, []), (⟨(some 58), (.iadr 8 (.t 56) (.t 57)), none⟩, [1, 2]), (⟨(some 59), (.load true 8 (.t 58)), none⟩, [3]), (⟨(some 60), (.fadr 2 (.t 3)), none⟩, []), (⟨(some 61), (.load false 1 (.t 60)), none⟩, [5]), (⟨(some 62), (.mov (.t 6)), none⟩, []), (⟨(some 63), (.iadr 8 (.t 61) (.t 62)), none⟩, [6, 7]), (⟨(some 64), (.load true 8 (.t 63)), none⟩, [8]), (⟨(some 65), (.call (.c (.fn 103 [])) [(.t 59), (.t 64)]), none⟩, [4, 9]), (⟨(some 66), (.not (.t 65)), none⟩, [10])]) (.cond (.t 66) (.seq (.reg [⟨(some 4), (.mov (.c (.bool false))), none⟩]) .ret) .skip))) (.reg [⟨(some 53), (.mov (.t 6)), none⟩, ⟨(some 54), (.bin .add (.t 53) (.c (.int .i64 1))), none⟩, ⟨(some 6), (.mov (.t 54)), none⟩])))))) (.seq (.reg [⟨(some 4), (.mov (.c (.bool true))), none⟩]) .ret)))))⟩
theorem fit_spec_sameModule : Fit Tryz.prog 122 Tryz.f122 mf_spec_sameModule := ⟨by kernel_rfl, Tryz.func122, by kernel_rfl, by kernel_rfl, by kernel_rfl, by kernel_rfl⟩
theorem sameModule_ct (x y : LModule) : Ct Tryz.prog 122 [.agg x.C, .agg y.C] (.bool (sameModule x.core y.core)) := by
  refine ct_of_run fit_spec_sameModule (by simp [mf_spec_sameModule]) (by simp [go_sem]) fun hd => ?_
  simp -implicitDefEqProofs [-List.map_take, -List.map_drop, go_sem, mf_spec_sameModule]
  have hm : x.uses.es.length ≤ maxLen := uses_deep hd.1
  have hm2 : x.decls.es.length ≤ maxLen := decls_deep hd.1
  have hne := all2_ne (· == ·) x.uses.es y.uses.es
  have hne2 := all2_ne sameDecl (x.decls.es.map LDecl.core) (y.decls.es.map LDecl.core)
  simp only [List.length_map] at hne2
  repeat' first
    | ((first | refine gv_split (fun h => ?_) (fun h => ?_) | refine cnd_split (fun h => ?_) (fun h => ?_) | refine cgv_split (fun h => ?_) (fun h => ?_)) <;> (try (have hp := h; simp at hp)) <;> simp -implicitDefEqProofs [-List.map_take, -List.map_drop, go_sem, h])
    | (refine And.intro (by first | omega | (simp only [maxLen]; omega) | (simp_all; done) | (simp_all; omega)) ?_; try simp -implicitDefEqProofs [-List.map_take, -List.map_drop, go_sem])
    | (refine run_dreg' (by decide) ?_; simp -implicitDefEqProofs [-List.map_take, -List.map_drop, go_sem])
    | ((first | refine end_tup _ (by simp) (by simp [go_sem]; rfl) (by simp [go_sem]) ?_); first | (simp [go_sem, *, sameModule]; done) | grind [sameModule] | (simp [go_sem, sameModule]; grind [sameModule]) | (simp_all [go_sem, sameModule]; done) | (simp_all [go_sem, sameModule]; omega))
  have hlen : x.uses.es.length = y.uses.es.length := by omega
  have hlen2 : x.decls.es.length = y.decls.es.length := by omega
  refine run_iter (x.uses.es.length) (sameModule_L x y 5) (fun i a => all2 (· == ·) (x.uses.es.drop i) (y.uses.es.drop i) = all2 (· == ·) x.uses.es y.uses.es) () (gh_auto (by simp [go_sem, sameModule_L])) (by first | (simp; done) | (simp [sameModule]; done) | (simp [sameModule]; omega) | grind) ?_
  intro i a hi hj
  simp -implicitDefEqProofs [-List.map_take, -List.map_drop, go_sem, sameModule_L]
  refine cnd_split (fun hc => ?_) (fun hc => ?_)
  · have hlt : i < x.uses.es.length := by first | (simpa using hc) | (simp at hc; omega)
    rw [List.drop_eq_getElem_cons (l := x.uses.es) (by omega)] at hj
    have hlt_1 : i < y.uses.es.length := by omega
    rw [List.drop_eq_getElem_cons (l := y.uses.es) (by omega)] at hj
    simp only [List.map_cons, all2] at hj
    simp -implicitDefEqProofs [-List.map_take, -List.map_drop, go_sem, hlt, hlt_1]
    repeat' first
      | ((first | refine gv_split (fun h => ?_) (fun h => ?_) | refine cnd_split (fun h => ?_) (fun h => ?_) | refine cgv_split (fun h => ?_) (fun h => ?_)) <;> (try (have hp := h; simp at hp)) <;> simp -implicitDefEqProofs [-List.map_take, -List.map_drop, go_sem, h, hlt, hlt_1])
      | (refine And.intro (by first | omega | (simp only [maxLen]; omega) | (simp_all; done) | (simp_all; omega)) ?_; try simp -implicitDefEqProofs [-List.map_take, -List.map_drop, go_sem, hlt, hlt_1])
      | (refine run_dreg' (by decide) ?_; simp -implicitDefEqProofs [-List.map_take, -List.map_drop, go_sem, hlt, hlt_1])
      | ((first | refine kx_next () hlt (gh_auto (by simp [go_sem, sameModule_L, wrap_succ hlt hm, hlt, hlt_1])) ?_ | refine end_tup _ (by simp) (by simp [go_sem]; rfl) (by simp [go_sem]) ?_); first | (simp [go_sem, *, sameModule]; done) | grind [sameModule] | (simp [go_sem, sameModule]; grind [sameModule]) | (simp_all [go_sem, sameModule]; done) | (simp_all [go_sem, sameModule]; omega))
  · have hge : x.uses.es.length ≤ i := by first | (simpa using hc) | (simp at hc; omega)
    rw [List.drop_of_length_le (l := x.uses.es) (by omega)] at hj
    rw [List.drop_of_length_le (l := y.uses.es) (by omega)] at hj
    simp only [List.map_nil, all2] at hj
    try simp -implicitDefEqProofs [-List.map_take, -List.map_drop, go_sem]
    refine run_iter (x.decls.es.length) (sameModule_L x y 6) (fun i2 a2 => all2 sameDecl ((x.decls.es.drop i2).map LDecl.core) ((y.decls.es.drop i2).map LDecl.core) = all2 sameDecl (x.decls.es.map LDecl.core) (y.decls.es.map LDecl.core)) () (gh_auto (by simp [go_sem, sameModule_L])) (by first | (simp; done) | (simp [sameModule]; done) | (simp [sameModule]; omega) | grind) ?_
    intro i2 a2 hi2 hj2
    simp -implicitDefEqProofs [-List.map_take, -List.map_drop, go_sem, sameModule_L]
    refine cnd_split (fun hc2 => ?_) (fun hc2 => ?_)
    · have hlt2 : i2 < x.decls.es.length := by first | (simpa using hc2) | (simp at hc2; omega)
      rw [List.drop_eq_getElem_cons (l := x.decls.es) (by omega)] at hj2
      have hlt2_1 : i2 < y.decls.es.length := by omega
      rw [List.drop_eq_getElem_cons (l := y.decls.es) (by omega)] at hj2
      simp only [List.map_cons, all2] at hj2
      simp -implicitDefEqProofs [-List.map_take, -List.map_drop, go_sem, hlt2, hlt2_1]
      repeat' first
        | ((first | refine gv_split (fun h => ?_) (fun h => ?_) | refine cnd_split (fun h => ?_) (fun h => ?_) | refine cgv_split (fun h => ?_) (fun h => ?_)) <;> (try (have hp := h; simp at hp)) <;> simp -implicitDefEqProofs [-List.map_take, -List.map_drop, go_sem, h, hlt2, hlt2_1])
        | (refine And.intro (by first | omega | (simp only [maxLen]; omega) | (simp_all; done) | (simp_all; omega)) ?_; try simp -implicitDefEqProofs [-List.map_take, -List.map_drop, go_sem, hlt2, hlt2_1])
        | ((first | refine stp_ct (sameDecl_ct x.decls.es[i2] y.decls.es[i2]) (by simp [go_sem, hlt2, hlt2_1]) ?_ ?_ | refine cstp_ct (sameDecl_ct x.decls.es[i2] y.decls.es[i2]) (by simp [go_sem, hlt2, hlt2_1]) ?_ ?_); (simp [go_sem]); simp -implicitDefEqProofs [-List.map_take, -List.map_drop, go_sem, hlt2, hlt2_1])
        | (refine run_dreg' (by decide) ?_; simp -implicitDefEqProofs [-List.map_take, -List.map_drop, go_sem, hlt2, hlt2_1])
        | ((first | refine kx_next () hlt2 (gh_auto (by simp [go_sem, sameModule_L, wrap_succ hlt2 hm2, hlt2, hlt2_1])) ?_ | refine end_tup _ (by simp) (by simp [go_sem]; rfl) (by simp [go_sem]) ?_); first | (simp [go_sem, *, sameModule]; done) | grind [sameModule] | (simp [go_sem, sameModule]; grind [sameModule]) | (simp_all [go_sem, sameModule]; done) | (simp_all [go_sem, sameModule]; omega))
    · have hge2 : x.decls.es.length ≤ i2 := by first | (simpa using hc2) | (simp at hc2; omega)
      rw [List.drop_of_length_le (l := x.decls.es) (by omega)] at hj2
      rw [List.drop_of_length_le (l := y.decls.es) (by omega)] at hj2
      simp only [List.map_nil, all2] at hj2
      try simp -implicitDefEqProofs [-List.map_take, -List.map_drop, go_sem]
      repeat' first
        | ((first | refine gv_split (fun h => ?_) (fun h => ?_) | refine cnd_split (fun h => ?_) (fun h => ?_) | refine cgv_split (fun h => ?_) (fun h => ?_)) <;> (try (have hp := h; simp at hp)) <;> simp -implicitDefEqProofs [-List.map_take, -List.map_drop, go_sem, h])
        | (refine And.intro (by first | omega | (simp only [maxLen]; omega) | (simp_all; done) | (simp_all; omega)) ?_; try simp -implicitDefEqProofs [-List.map_take, -List.map_drop, go_sem])
        | ((first | refine stp_ct (sameDecl_ct x.decls.es[i2] y.decls.es[i2]) (by simp [go_sem]) ?_ ?_ | refine cstp_ct (sameDecl_ct x.decls.es[i2] y.decls.es[i2]) (by simp [go_sem]) ?_ ?_); (simp [go_sem]); simp -implicitDefEqProofs [-List.map_take, -List.map_drop, go_sem])
        | (refine run_dreg' (by decide) ?_; simp -implicitDefEqProofs [-List.map_take, -List.map_drop, go_sem])
        | ((first | refine end_tup _ (by simp) (by simp [go_sem]; rfl) (by simp [go_sem]) ?_); first | (simp [go_sem, *, sameModule]; done) | grind [sameModule] | (simp [go_sem, sameModule]; grind [sameModule]) | (simp_all [go_sem, sameModule]; done) | (simp_all [go_sem, sameModule]; omega))
def sameP_L (x y : Sl LModule) (i : Nat) (_ : Unit) : St := ⟨lk [(0, x.I LModule.C), (1, y.I LModule.C), (5, .int .i64 i)], [], []⟩
def mf_spec_sameProgram : MF := ⟨27, [(.t 4)], (.seq (.reg [⟨(some 4), (.mov (.c (.bool false))), none⟩]) (.seq (.seq (.reg [⟨(some 6), (.mov (.t 0)), none⟩, ⟨(some 7), (.lenl (.t 6)), none⟩, ⟨(some 8), (.mov (.t 1)), none⟩, ⟨(some 9), (.lenl (.t 8)), none⟩, ⟨(some 10), (.bin .neq (.t 7) (.t 9)), none⟩]) (.cond (.t 10) (.seq (.reg [⟨(some 4), (.mov (.c (.bool false))), none⟩]) .ret) .skip)) (.seq (.seq (.reg [⟨(some 5), (.mov (.c (.int .i64 0))), none⟩]) (.blk 0 (.loop (.seq (.seq (.reg [⟨(some 11), (.mov (.t 5)), none⟩, ⟨(some 12), (.mov (.t 0)), none⟩, ⟨(some 13), (.lenl (.t 12)), none⟩, ⟨(some 14), (.bin .lss (.t 11) (.t 13)), none⟩]) (.cond (.t 14) .skip (.exit 0))) (.seq (.blk 1 (.seq (.dreg [(⟨(some 17), (.mov (.t 0)), none⟩, []), (⟨(some 18), (.mov (.t 5)), none⟩, []), (⟨(some 19), (.iadr 3 (.t 17) (.t 18)), none⟩, [0, 1]), (⟨(some 20), (.load true 3 (.t 19)), none⟩, [2]), (⟨(some 21), (.mov (.t 1)), none⟩, []), (⟨(some 22), (.mov (.t 5)), none⟩, []), (⟨(some 23), (.iadr 3 (.t 21) (.t 22)), none⟩, [4, 5]), (⟨(some 24), (.load true 3 (.t 23)), none⟩, [6]), (⟨(some 25), (.call (.c (.fn 122 [])) [(.t 20), (.t 24)]), none⟩, [3, 7]), (⟨(some 26), (.not (.t 25)), none⟩, [8])]) (.cond (.t 26) (.seq (.reg [⟨(some 4), (.mov (.c (.bool false))), none⟩]) .ret) .skip))) (.reg [⟨(some 15), (.mov (.t 5)), none⟩, ⟨(some 16), (.bin .add (.t 15) (.c (.int .i64 1))), none⟩, ⟨(some 5), (.mov (.t 16)), none⟩])))))) (.seq (.reg [⟨(some 4), (.mov (.c (.bool true))), none⟩]) .ret))))⟩
theorem fit_spec_sameProgram : Fit Tryz.prog 46 Tryz.f46 mf_spec_sameProgram := ⟨by kernel_rfl, Tryz.func46, by kernel_rfl, by kernel_rfl, by kernel_rfl, by kernel_rfl⟩
theorem sameProgram_ct (x y : Sl LModule) : Ct Tryz.prog 46 [x.I LModule.C, y.I LModule.C] (.bool (sameProgram (x.es.map LModule.core) (y.es.map LModule.core))) := by
  refine ct_of_run fit_spec_sameProgram (by simp [mf_spec_sameProgram]) (by simp [go_sem]) fun hd => ?_
  simp -implicitDefEqProofs [-List.map_take, -List.map_drop, go_sem, mf_spec_sameProgram]
  have hm : x.es.length ≤ maxLen := sl_deep hd.1
  have hne := all2_ne sameModule (x.es.map LModule.core) (y.es.map LModule.core)
  simp only [List.length_map] at hne
  repeat' first
    | ((first | refine gv_split (fun h => ?_) (fun h => ?_) | refine cnd_split (fun h => ?_) (fun h => ?_) | refine cgv_split (fun h => ?_) (fun h => ?_)) <;> (try (have hp := h; simp at hp)) <;> simp -implicitDefEqProofs [-List.map_take, -List.map_drop, go_sem, h])
    | (refine And.intro (by first | omega | (simp only [maxLen]; omega) | (simp_all; done) | (simp_all; omega)) ?_; try simp -implicitDefEqProofs [-List.map_take, -List.map_drop, go_sem])
    | (refine run_dreg' (by decide) ?_; simp -implicitDefEqProofs [-List.map_take, -List.map_drop, go_sem])
    | ((first | refine end_tup _ (by simp) (by simp [go_sem]; rfl) (by simp [go_sem]) ?_); first | (simp [go_sem, *, sameProgram]; done) | grind [sameProgram] | (simp [go_sem, sameProgram]; grind [sameProgram]) | (simp_all [go_sem, sameProgram]; done) | (simp_all [go_sem, sameProgram]; omega))
  have hlen : x.es.length = y.es.length := by omega
  refine run_iter (x.es.length) (sameP_L x y) (fun i a => all2 sameModule ((x.es.drop i).map LModule.core) ((y.es.drop i).map LModule.core) = all2 sameModule (x.es.map LModule.core) (y.es.map LModule.core)) () (gh_auto (by simp [go_sem, sameP_L])) (by first | (simp; done) | (simp [sameProgram]; done) | (simp [sameProgram]; omega) | grind) ?_
  intro i a hi hj
  simp -implicitDefEqProofs [-List.map_take, -List.map_drop, go_sem, sameP_L]
  refine cnd_split (fun hc => ?_) (fun hc => ?_)
  · have hlt : i < x.es.length := by first | (simpa using hc) | (simp at hc; omega)
    rw [List.drop_eq_getElem_cons (l := x.es) (by omega)] at hj
    have hlt_1 : i < y.es.length := by omega
    rw [List.drop_eq_getElem_cons (l := y.es) (by omega)] at hj
    simp only [List.map_cons, all2] at hj
    simp -implicitDefEqProofs [-List.map_take, -List.map_drop, go_sem, hlt, hlt_1]
    repeat' first
      | ((first | refine gv_split (fun h => ?_) (fun h => ?_) | refine cnd_split (fun h => ?_) (fun h => ?_) | refine cgv_split (fun h => ?_) (fun h => ?_)) <;> (try (have hp := h; simp at hp)) <;> simp -implicitDefEqProofs [-List.map_take, -List.map_drop, go_sem, h, hlt, hlt_1])
      | (refine And.intro (by first | omega | (simp only [maxLen]; omega) | (simp_all; done) | (simp_all; omega)) ?_; try simp -implicitDefEqProofs [-List.map_take, -List.map_drop, go_sem, hlt, hlt_1])
      | ((first | refine stp_ct (sameModule_ct x.es[i] y.es[i]) (by simp [go_sem, hlt, hlt_1]) ?_ ?_ | refine cstp_ct (sameModule_ct x.es[i] y.es[i]) (by simp [go_sem, hlt, hlt_1]) ?_ ?_); (simp [go_sem]); simp -implicitDefEqProofs [-List.map_take, -List.map_drop, go_sem, hlt, hlt_1])
      | (refine run_dreg' (by decide) ?_; simp -implicitDefEqProofs [-List.map_take, -List.map_drop, go_sem, hlt, hlt_1])
      | ((first | refine kx_next () hlt (gh_auto (by simp [go_sem, sameP_L, wrap_succ hlt hm, hlt, hlt_1])) ?_ | refine end_tup _ (by simp) (by simp [go_sem]; rfl) (by simp [go_sem]) ?_); first | (simp [go_sem, *, sameProgram]; done) | grind [sameProgram] | (simp [go_sem, sameProgram]; grind [sameProgram]) | (simp_all [go_sem, sameProgram]; done) | (simp_all [go_sem, sameProgram]; omega))
  · have hge : x.es.length ≤ i := by first | (simpa using hc) | (simp at hc; omega)
    rw [List.drop_of_length_le (l := x.es) (by omega)] at hj
    rw [List.drop_of_length_le (l := y.es) (by omega)] at hj
    simp only [List.map_nil, all2] at hj
    try simp -implicitDefEqProofs [-List.map_take, -List.map_drop, go_sem]
    repeat' first
      | ((first | refine gv_split (fun h => ?_) (fun h => ?_) | refine cnd_split (fun h => ?_) (fun h => ?_) | refine cgv_split (fun h => ?_) (fun h => ?_)) <;> (try (have hp := h; simp at hp)) <;> simp -implicitDefEqProofs [-List.map_take, -List.map_drop, go_sem, h])
      | (refine And.intro (by first | omega | (simp only [maxLen]; omega) | (simp_all; done) | (simp_all; omega)) ?_; try simp -implicitDefEqProofs [-List.map_take, -List.map_drop, go_sem])
      | ((first | refine stp_ct (sameModule_ct x.es[i] y.es[i]) (by simp [go_sem]) ?_ ?_ | refine cstp_ct (sameModule_ct x.es[i] y.es[i]) (by simp [go_sem]) ?_ ?_); (simp [go_sem]); simp -implicitDefEqProofs [-List.map_take, -List.map_drop, go_sem])
      | (refine run_dreg' (by decide) ?_; simp -implicitDefEqProofs [-List.map_take, -List.map_drop, go_sem])
      | ((first | refine end_tup _ (by simp) (by simp [go_sem]; rfl) (by simp [go_sem]) ?_); first | (simp [go_sem, *, sameProgram]; done) | grind [sameProgram] | (simp [go_sem, sameProgram]; grind [sameProgram]) | (simp_all [go_sem, sameProgram]; done) | (simp_all [go_sem, sameProgram]; omega))
end Go.Mach
