import Derived.Test.YtnkakbpefcoanaaGreatMh
import Derived.Test.YtnkakbpefcoanaaGreatWa
import Derived.Test.YtnkakbpefcoanaaGreatDa
import Derived.Test.YtnkakbpefcoanaaGreatSh
/- Programs of the reference, walked: whole programs. -/
set_option maxHeartbeats 4000000
namespace Go.Mach
open Go Go.Proofs
set_option linter.unusedVariables false
set_option linter.unusedSimpArgs false
attribute [local go_sem] run_seq run_skip run_reg run_blk run_exit run_ret run_cond cnd_true cnd_false kx_seq_normal kx_seq_exit kx_seq_ret kx_blk_normal kx_blk_same kx_blk_other kx_blk_ret kx_loop_exit kx_loop_ret kx_done ops_nil ops_plain ops_grd gv_tt gv_ff gv_tf gv_ft gv_tup stp_ok stp_ob stp_hp stp_bad stp_if get_t get_c putO_some putO_none put_same put_ne put_σ put_base withσ_τ withσ_σ withσ_base withσ_put withσ_withσ mk_τ mk_σ mk_base mk_withσ entry_τ entry_σ entry_base calm_nil calm_plain calm_grd cgv_tt cgv_ff cgv_tf cgv_ft cgv_tup cstp_ok cstp_ob cstp_if
attribute [local irreducible] Ct Co Cs
attribute [local go_sem] evalOp notV negV pickV binV intB seqV beqV catV lensV lenlV boxV_eq newV cellsOf cellV fadrV fldV fldC loadV loadC_ag loadC_one plainV isOwn iadrV storeV lk bdV bdL renO renL renV pureV pureL noOwnV noOwnL idxV slsV optI extV resL resV ret1 mmV cnviV cnvsV nilcV eqnV bslV bslGo appV elems okE appE getD_map okO_none okO_some strC intC Sl.I
attribute [local simp] Bind.eqa Use.eqa loadC_str loadC_int Bind.C_len Bind.C_pure Bind.C_noOwn Bind.C_cell Bind.C_bd Bind.C_bdL Bind.C_ren Bind.C_any Bind.C_any0 Bind.C_any1 Bind.C_anyt Bind.C_take Bind.C_load Bind.C_load0 Bind.C_load1 Bind.C_fld Bind.C_box Bind.C_fold Use.C_len Use.C_pure Use.C_noOwn Use.C_cell Use.C_bd Use.C_bdL Use.C_ren Use.C_any Use.C_any0 Use.C_any1 Use.C_anyt Use.C_take Use.C_load Use.C_load0 Use.C_load1 Use.C_fld Use.C_box Use.C_fold LExpr.C_len LExpr.C_pure LExpr.C_noOwn LExpr.C_cell LExpr.C_bd LExpr.C_bdL LExpr.C_ren LExpr.C_any LExpr.C_any0 LExpr.C_any1 LExpr.C_anyt LExpr.C_take LExpr.C_load LExpr.C_load0 LExpr.C_load1 LExpr.C_fld LExpr.C_box LExpr.C_fold LDecl.C_len LDecl.C_pure LDecl.C_noOwn LDecl.C_cell LDecl.C_bd LDecl.C_bdL LDecl.C_ren LDecl.C_any LDecl.C_any0 LDecl.C_any1 LDecl.C_anyt LDecl.C_take LDecl.C_load LDecl.C_load0 LDecl.C_load1 LDecl.C_fld LDecl.C_box LDecl.C_fold LModule.C_len LModule.C_pure LModule.C_noOwn LModule.C_cell LModule.C_bd LModule.C_bdL LModule.C_ren LModule.C_any LModule.C_any0 LModule.C_any1 LModule.C_anyt LModule.C_take LModule.C_load LModule.C_load0 LModule.C_load1 LModule.C_fld LModule.C_box LModule.C_fold

theorem declAt_cases (m : LModule) (name : Str) : declAt m.core name = -1 ∨ ∃ (k : Nat) (h : k < m.decls.es.length), declAt m.core name = k ∧ at' m.core.decls (declAt m.core name) = some (m.decls.es[k]).core := by
  rcases idxFrom_cases (fun d : Decl => d.name == name) m.core.decls 0 with ⟨h1, _⟩ | ⟨k, hk, h1, _, _⟩
  · exact .inl h1
  · refine .inr ⟨k, by simpa using hk, by simpa [declAt] using h1, ?_⟩
    have : declAt m.core name = (k : Int) := by simpa [declAt] using h1
    rw [this]
    simp only [at', Int.toNat_natCast]
    rw [if_neg (by omega)]
    have hk' : k < m.decls.es.length := by simpa using hk
    simp [hk']
theorem moduleAt_cases (p : List LModule) (name : Str) : moduleAt (p.map LModule.core) name = -1 ∨ ∃ (k : Nat) (h : k < p.length), moduleAt (p.map LModule.core) name = k ∧ at' (p.map LModule.core) (moduleAt (p.map LModule.core) name) = some (p[k]).core := by
  rcases idxFrom_cases (fun d : Module => d.name == name) (p.map LModule.core) 0 with ⟨h1, _⟩ | ⟨k, hk, h1, _, _⟩
  · exact .inl h1
  · refine .inr ⟨k, by simpa using hk, by simpa [moduleAt] using h1, ?_⟩
    have : moduleAt (p.map LModule.core) name = (k : Int) := by simpa [moduleAt] using h1
    rw [this]
    simp only [at', Int.toNat_natCast]
    rw [if_neg (by omega)]
    have hk' : k < p.length := by simpa using hk
    simp [hk']
theorem recIn_none {m : Module} {name : Str} (h : declAt m name = -1) : recIn m name = 0 := by simp [recIn, at', h]
theorem recIn_some {m : Module} {name : Str} {d : Decl} (h : at' m.decls (declAt m name) = some d) : recIn m name = if d.kind == 1 then 1 else 0 := by simp [recIn, h]
def records_L (p : Sl LModule) (name : Str) (i : Nat) (a : Nat) : St := ⟨lk [(0, p.I LModule.C), (1, .str name), (5, .int .i64 a), (6, .int .i64 i)], [], []⟩
def mf_spec_records : MF := ⟨37, [(.t 4)], (.seq (.reg [⟨(some 4), (.mov (.c (.int .i64 0))), none⟩]) (.seq (.reg [⟨(some 5), (.mov (.c (.int .i64 0))), none⟩]) (.seq (.seq (.reg [⟨(some 6), (.mov (.c (.int .i64 0))), none⟩]) (.blk 0 (.loop (.seq (.seq (.reg [⟨(some 8), (.mov (.t 6)), none⟩, ⟨(some 9), (.mov (.t 0)), none⟩, ⟨(some 10), (.lenl (.t 9)), none⟩, ⟨(some 11), (.bin .lss (.t 8) (.t 10)), none⟩]) (.cond (.t 11) .skip (.exit 0))) (.seq (.blk 1 (.seq (.reg [⟨(some 14), (.mov (.t 0)), none⟩, ⟨(some 15), (.mov (.t 6)), none⟩, ⟨(some 16), (.iadr 3 (.t 14) (.t 15)), none⟩, ⟨(some 17), (.load true 3 (.t 16)), none⟩, ⟨(some 18), (.mov (.t 1)), none⟩, ⟨(some 19), (.call (.c (.fn 65 [])) [(.t 17), (.t 18)]), none⟩, ⟨(some 7), (.mov (.t 19)), none⟩]) (.seq (.reg [⟨(some 20), (.mov (.t 7)), none⟩, ⟨(some 21), (.bin .geq (.t 20) (.c (.int .i64 0))), none⟩, ⟨(some 22), (.mov (.t 21)), none⟩, ⟨(some 23), (.mov (.t 0)), (some (22, true))⟩, ⟨(some 24), (.mov (.t 6)), (some (22, true))⟩, ⟨(some 25), (.iadr 3 (.t 23) (.t 24)), (some (22, true))⟩, ⟨(some 26), (.fadr 2 (.t 25)), (some (22, true))⟩, ⟨(some 27), (.load false 1 (.t 26)), (some (22, true))⟩, ⟨(some 28), (.mov (.t 7)), (some (22, true))⟩, ⟨(some 29), (.iadr 8 (.t 27) (.t 28)), (some (22, true))⟩, ⟨(some 30), (.fadr 0 (.t 29)), (some (22, true))⟩, ⟨(some 31), (.load false 1 (.t 30)), (some (22, true))⟩, ⟨(some 32), (.bin .eql (.t 31) (.c (.int .i64 1))), (some (22, true))⟩, ⟨(some 33), (.pick (.t 22) (.t 32) (.c (.bool false))), none⟩]) (.cond (.t 33) (.reg [⟨(some 34), (.mov (.t 5)), none⟩, ⟨(some 35), (.bin .add (.t 34) (.c (.int .i64 1))), none⟩, ⟨(some 5), (.mov (.t 35)), none⟩]) .skip)))) (.reg [⟨(some 12), (.mov (.t 6)), none⟩, ⟨(some 13), (.bin .add (.t 12) (.c (.int .i64 1))), none⟩, ⟨(some 6), (.mov (.t 13)), none⟩])))))) (.seq (.reg [⟨(some 36), (.mov (.t 5)), none⟩, ⟨(some 4), (.mov (.t 36)), none⟩]) .ret))))⟩
theorem fit_spec_records : Fit Tryz.prog 62 Tryz.f62 mf_spec_records := ⟨by kernel_rfl, Tryz.func62, by kernel_rfl, by kernel_rfl, by kernel_rfl, by kernel_rfl⟩
theorem records_ct (p : Sl LModule) (name : Str) : Ct Tryz.prog 62 [p.I LModule.C, .str name] (.int .i64 (records name (p.es.map LModule.core))) := by
  refine ct_of_run fit_spec_records (by simp [mf_spec_records]) (by simp [go_sem]) fun hd => ?_
  simp -implicitDefEqProofs [-List.map_take, -List.map_drop, go_sem, mf_spec_records]
  have hm : p.es.length ≤ maxLen := sl_deep hd.1
  refine run_iter (p.es.length) (records_L p name) (fun i a => a + records name ((p.es.drop i).map LModule.core) = records name (p.es.map LModule.core) ∧ a ≤ i) 0 (gh_auto (by simp [go_sem, records_L])) (by first | (simp; done) | (simp []; done) | (simp []; omega) | grind) ?_
  intro i a hi hj
  simp -implicitDefEqProofs [-List.map_take, -List.map_drop, go_sem, records_L]
  refine cnd_split (fun hc => ?_) (fun hc => ?_)
  · have hlt : i < p.es.length := by first | (simpa using hc) | (simp at hc; omega)
    rw [List.drop_eq_getElem_cons hlt] at hj
    simp only [List.map_cons, records] at hj
    have hw : IntKind.i64.wrap ((a : Int) + 1) = (a : Int) + 1 := wrap_small (by omega) (by simp only [maxLen] at hm; omega)
    simp -implicitDefEqProofs [-List.map_take, -List.map_drop, go_sem, hlt, hw]
    rcases declAt_cases p.es[i] name with h1 | ⟨k, hk, h1, h2⟩
    · rw [recIn_none h1] at hj
      repeat' first
        | ((first | refine gv_split (fun h => ?_) (fun h => ?_) | refine cnd_split (fun h => ?_) (fun h => ?_) | refine cgv_split (fun h => ?_) (fun h => ?_)) <;> (try (have hp := h; simp at hp)) <;> simp -implicitDefEqProofs [-List.map_take, -List.map_drop, go_sem, h, hlt, hw, h1])
        | (refine And.intro (by first | omega | (simp only [maxLen]; omega) | (simp_all; done) | (simp_all; omega)) ?_; try simp -implicitDefEqProofs [-List.map_take, -List.map_drop, go_sem, hlt, hw, h1])
        | ((first | refine stp_ct (declAt_ct p.es[i] name) (by simp [go_sem, hlt, hw, h1]) ?_ ?_ | refine cstp_ct (declAt_ct p.es[i] name) (by simp [go_sem, hlt, hw, h1]) ?_ ?_); (simp [go_sem]); simp -implicitDefEqProofs [-List.map_take, -List.map_drop, go_sem, hlt, hw, h1])
        | (refine run_dreg' (by decide) ?_; simp -implicitDefEqProofs [-List.map_take, -List.map_drop, go_sem, hlt, hw, h1])
        | ((first | refine kx_next a hlt (gh_auto (by simp [go_sem, records_L, wrap_succ hlt hm, hlt, hw, h1])) ?_ | refine end_tup _ (by simp) (by simp [go_sem]; rfl) (by simp [go_sem]) ?_); first | (simp [go_sem, *]; done) | grind | (simp [go_sem]; grind) | (simp_all [go_sem]; done) | (simp_all [go_sem]; omega))
    · rw [recIn_some h2] at hj
      repeat' first
        | ((first | refine gv_split (fun h => ?_) (fun h => ?_) | refine cnd_split (fun h => ?_) (fun h => ?_) | refine cgv_split (fun h => ?_) (fun h => ?_)) <;> (try (have hp := h; simp at hp)) <;> simp -implicitDefEqProofs [-List.map_take, -List.map_drop, go_sem, h, hlt, hw, h1, hk])
        | (refine And.intro (by first | omega | (simp only [maxLen]; omega) | (simp_all; done) | (simp_all; omega)) ?_; try simp -implicitDefEqProofs [-List.map_take, -List.map_drop, go_sem, hlt, hw, h1, hk])
        | ((first | refine stp_ct (declAt_ct p.es[i] name) (by simp [go_sem, hlt, hw, h1, hk]) ?_ ?_ | refine cstp_ct (declAt_ct p.es[i] name) (by simp [go_sem, hlt, hw, h1, hk]) ?_ ?_); (simp [go_sem]); simp -implicitDefEqProofs [-List.map_take, -List.map_drop, go_sem, hlt, hw, h1, hk])
        | (refine run_dreg' (by decide) ?_; simp -implicitDefEqProofs [-List.map_take, -List.map_drop, go_sem, hlt, hw, h1, hk])
        | (refine kx_next (a + 1) hlt (gh_auto (by simp [go_sem, records_L, wrap_succ hlt hm, hlt, hw, h1, hk])) ?_; first | (simp [go_sem, *]; done) | grind | (simp [go_sem]; grind) | (simp_all [go_sem]; done) | (simp_all [go_sem]; omega))
        | ((first | refine kx_next a hlt (gh_auto (by simp [go_sem, records_L, wrap_succ hlt hm, hlt, hw, h1, hk])) ?_ | refine end_tup _ (by simp) (by simp [go_sem]; rfl) (by simp [go_sem]) ?_); first | (simp [go_sem, *]; done) | grind | (simp [go_sem]; grind) | (simp_all [go_sem]; done) | (simp_all [go_sem]; omega))
  · have hge : p.es.length ≤ i := by first | (simpa using hc) | (simp at hc; omega)
    rw [List.drop_of_length_le (by omega)] at hj
    simp only [List.map_nil, records] at hj
    try simp -implicitDefEqProofs [-List.map_take, -List.map_drop, go_sem]
    have hy := hy0
    have hdf := hy0
    exact wk0
theorem useOk_none {p : List Module} {m : Module} {u : Use} (h : moduleAt p u.module = -1) : useOk p m u = false := by simp [useOk, at', h]
theorem useOk_some {p : List Module} {m o : Module} {u : Use} (h : at' p (moduleAt p u.module) = some o) : useOk p m u = (o.name != m.name && decide (0 ≤ declAt o u.name)) := by simp [useOk, h]
theorem Decl.Sm_body {d : LDecl} (h : d.core.Sm) : d.body.core.Sm := h.2.2.2
theorem Module.Sm_decl {m : LModule} (h : m.core.Sm) {i : Nat} (hi : i < m.decls.es.length) : (m.decls.es[i]).core.Sm := h.2.2.2.2 _ (by rw [LModule.core_decls]; exact List.mem_map_of_mem (List.getElem_mem hi))
theorem SmP_mod {p : List LModule} (h : SmP (p.map LModule.core)) {i : Nat} (hi : i < p.length) : (p[i]).core.Sm := h.2 _ (List.mem_map_of_mem (List.getElem_mem hi))
def validModule_L (p : Sl LModule) (m : LModule) (t : Nat) (i : Nat) (_ : Unit) : St := ⟨lk [(0, p.I LModule.C), (3, .ptr 0 1 0 0), (t, .int .i64 i)], [some ⟨[[.str m.name, .imm (m.uses.es.map Use.C) m.uses.sp m.uses.lim, .imm (m.decls.es.map LDecl.C) m.decls.sp m.decls.lim]], 3, 61, false, false⟩], []⟩
def mf_spec_validModule : MF := ⟨113, [(.t 4)], (.seq (.reg [⟨(some 3), (.box 61 (.t 1)), none⟩, ⟨(some 4), (.mov (.c (.bool false))), none⟩]) (.seq (.seq (.reg [⟨(some 5), (.mov (.c (.int .i64 0))), none⟩]) (.blk 0 (.loop (.seq (.seq (.reg [⟨(some 8), (.mov (.t 5)), none⟩, ⟨(some 9), (.fadr 2 (.t 3)), none⟩, ⟨(some 10), (.load false 1 (.t 9)), none⟩, ⟨(some 11), (.lenl (.t 10)), none⟩, ⟨(some 12), (.bin .lss (.t 8) (.t 11)), none⟩]) (.cond (.t 12) .skip (.exit 0))) (.seq (.blk 1 (.seq (.dreg [(⟨(some 15), (.fadr 2 (.t 3)), none⟩, []), (⟨(some 16), (.load false 1 (.t 15)), none⟩, [0]), (⟨(some 17), (.mov (.t 5)), none⟩, []), (⟨(some 18), (.iadr 8 (.t 16) (.t 17)), none⟩, [1, 2]), (⟨(some 19), (.load true 8 (.t 18)), none⟩, [3]), (⟨(some 20), (.call (.c (.fn 122 [])) [(.t 19)]), none⟩, [4]), (⟨(some 21), (.not (.t 20)), none⟩, [5]), (⟨(some 22), (.mov (.t 21)), none⟩, [6, 5]), (⟨(some 23), (.load true 3 (.t 3)), (some (22, false))⟩, [7]), (⟨(some 24), (.fadr 2 (.t 3)), (some (22, false))⟩, [7]), (⟨(some 25), (.load false 1 (.t 24)), (some (22, false))⟩, [9, 7]), (⟨(some 26), (.mov (.t 5)), (some (22, false))⟩, [7]), (⟨(some 27), (.iadr 8 (.t 25) (.t 26)), (some (22, false))⟩, [10, 11, 7]), (⟨(some 28), (.fadr 1 (.t 27)), (some (22, false))⟩, [12, 7]), (⟨(some 29), (.load false 1 (.t 28)), (some (22, false))⟩, [13, 7]), (⟨(some 30), (.call (.c (.fn 65 [])) [(.t 23), (.t 29)]), (some (22, false))⟩, [8, 14, 7, 7]), (⟨(some 31), (.mov (.t 5)), (some (22, false))⟩, [7]), (⟨(some 32), (.bin .neq (.t 30) (.t 31)), (some (22, false))⟩, [15, 16, 7]), (⟨(some 33), (.pick (.t 22) (.c (.bool true)) (.t 32)), none⟩, [7, 17]), (⟨(some 34), (.mov (.t 33)), none⟩, [18, 15]), (⟨(some 35), (.load true 3 (.t 3)), (some (34, false))⟩, [19]), (⟨(some 36), (.fadr 2 (.t 3)), (some (34, false))⟩, [19]), (⟨(some 37), (.load false 1 (.t 36)), (some (34, false))⟩, [21, 19]), (⟨(some 38), (.mov (.t 5)), (some (34, false))⟩, [19]), (⟨(some 39), (.iadr 8 (.t 37) (.t 38)), (some (34, false))⟩, [22, 23, 19]), (⟨(some 40), (.fadr 1 (.t 39)), (some (34, false))⟩, [24, 19]), (⟨(some 41), (.load false 1 (.t 40)), (some (34, false))⟩, [25, 19]), (⟨(some 42), (.call (.c (.fn 123 [])) [(.t 35), (.t 41)]), (some (34, false))⟩, [20, 26, 19, 19]), (⟨(some 43), (.bin .geq (.t 42) (.c (.int .i64 0))), (some (34, false))⟩, [27, 19]), (⟨(some 44), (.pick (.t 34) (.c (.bool true)) (.t 43)), none⟩, [19, 28])]) (.cond (.t 44) (.seq (.reg [⟨(some 4), (.mov (.c (.bool false))), none⟩]) .ret) .skip))) (.reg [⟨(some 13), (.mov (.t 5)), none⟩, ⟨(some 14), (.bin .add (.t 13) (.c (.int .i64 1))), none⟩, ⟨(some 5), (.mov (.t 14)), none⟩])))))) (.seq (.seq (.reg [⟨(some 6), (.mov (.c (.int .i64 0))), none⟩]) (.blk 2 (.loop (.seq (.seq (.reg [⟨(some 45), (.mov (.t 6)), none⟩, ⟨(some 46), (.fadr 1 (.t 3)), none⟩, ⟨(some 47), (.load false 1 (.t 46)), none⟩, ⟨(some 48), (.lenl (.t 47)), none⟩, ⟨(some 49), (.bin .lss (.t 45) (.t 48)), none⟩]) (.cond (.t 49) .skip (.exit 2))) (.seq (.blk 3 (.seq (.reg [⟨(some 52), (.mov (.t 0)), none⟩, ⟨(some 53), (.fadr 1 (.t 3)), none⟩, ⟨(some 54), (.load false 1 (.t 53)), none⟩, ⟨(some 55), (.mov (.t 6)), none⟩, ⟨(some 56), (.iadr 2 (.t 54) (.t 55)), none⟩, ⟨(some 57), (.fadr 0 (.t 56)), none⟩, ⟨(some 58), (.load false 1 (.t 57)), none⟩, ⟨(some 59), (.call (.c (.fn 51 [])) [(.t 52), (.t 58)]), none⟩, ⟨(some 7), (.mov (.t 59)), none⟩]) (.seq (.dreg [(⟨(some 60), (.mov (.t 7)), none⟩, []), (⟨(some 61), (.bin .lss (.t 60) (.c (.int .i64 0))), none⟩, [0]), (⟨(some 62), (.mov (.t 61)), none⟩, [1]), (⟨(some 63), (.mov (.t 0)), (some (62, false))⟩, [2]), (⟨(some 64), (.mov (.t 7)), (some (62, false))⟩, [2]), (⟨(some 65), (.iadr 3 (.t 63) (.t 64)), (some (62, false))⟩, [3, 4, 2]), (⟨(some 66), (.fadr 0 (.t 65)), (some (62, false))⟩, [5, 2]), (⟨(some 67), (.load false 1 (.t 66)), (some (62, false))⟩, [6, 2]), (⟨(some 68), (.fadr 0 (.t 3)), (some (62, false))⟩, [2]), (⟨(some 69), (.load false 1 (.t 68)), (some (62, false))⟩, [8, 2]), (⟨(some 70), (.seq false (.t 67) (.t 69)), (some (62, false))⟩, [7, 9, 2]), (⟨(some 71), (.pick (.t 62) (.c (.bool true)) (.t 70)), none⟩, [2, 10]), (⟨(some 72), (.mov (.t 71)), none⟩, [11, 2]), (⟨(some 73), (.mov (.t 0)), (some (72, false))⟩, [12]), (⟨(some 74), (.mov (.t 7)), (some (72, false))⟩, [12]), (⟨(some 75), (.iadr 3 (.t 73) (.t 74)), (some (72, false))⟩, [13, 14, 12]), (⟨(some 76), (.load true 3 (.t 75)), (some (72, false))⟩, [15, 12]), (⟨(some 77), (.fadr 1 (.t 3)), (some (72, false))⟩, [12]), (⟨(some 78), (.load false 1 (.t 77)), (some (72, false))⟩, [17, 12]), (⟨(some 79), (.mov (.t 6)), (some (72, false))⟩, [12]), (⟨(some 80), (.iadr 2 (.t 78) (.t 79)), (some (72, false))⟩, [18, 19, 12]), (⟨(some 81), (.fadr 1 (.t 80)), (some (72, false))⟩, [20, 12]), (⟨(some 82), (.load false 1 (.t 81)), (some (72, false))⟩, [21, 12]), (⟨(some 83), (.call (.c (.fn 65 [])) [(.t 76), (.t 82)]), (some (72, false))⟩, [16, 22, 12, 12]), (⟨(some 84), (.bin .lss (.t 83) (.c (.int .i64 0))), (some (72, false))⟩, [23, 12]), (⟨(some 85), (.pick (.t 72) (.c (.bool true)) (.t 84)), none⟩, [12, 24]), (⟨(some 86), (.mov (.t 85)), none⟩, [25, 23]), (⟨(some 87), (.load true 3 (.t 3)), (some (86, false))⟩, [26]), (⟨(some 88), (.fadr 1 (.t 3)), (some (86, false))⟩, [26]), (⟨(some 89), (.load false 1 (.t 88)), (some (86, false))⟩, [28, 26]), (⟨(some 90), (.mov (.t 6)), (some (86, false))⟩, [26]), (⟨(some 91), (.iadr 2 (.t 89) (.t 90)), (some (86, false))⟩, [29, 30, 26]), (⟨(some 92), (.fadr 1 (.t 91)), (some (86, false))⟩, [31, 26]), (⟨(some 93), (.load false 1 (.t 92)), (some (86, false))⟩, [32, 26]), (⟨(some 94), (.call (.c (.fn 123 [])) [(.t 87), (.t 93)]), (some (86, false))⟩, [27, 33, 26, 26]), (⟨(some 95), (.mov (.t 6)), (some (86, false))⟩, [26]), (⟨(some 96), (.bin .neq (.t 94) (.t 95)), (some (86, false))⟩, [34, 35, 26]), (⟨(some 97), (.pick (.t 86) (.c (.bool true)) (.t 96)), none⟩, [26, 36])]) (.cond (.t 97) (.seq (.reg [⟨(some 4), (.mov (.c (.bool false))), none⟩]) .ret) .skip)))) (.reg [⟨(some 50), (.mov (.t 6)), none⟩, ⟨(some 51), (.bin .add (.t 50) (.c (.int .i64 1))), none⟩, ⟨(some 6), (.mov (.t 51)), none⟩])))))) (.seq (.reg [⟨(some 98), (.fadr 0 (.t 3)), none⟩, ⟨(some 99), (.load false 1 (.t 98)), none⟩, ⟨(some 100), (.call (.c (.fn 85 [])) [(.t 99)]), none⟩, ⟨(some 101), (.mov (.t 100)), none⟩, ⟨(some 102), (.fadr 2 (.t 3)), (some (101, true))⟩, ⟨(some 103), (.load false 1 (.t 102)), (some (101, true))⟩, ⟨(some 104), (.lenl (.t 103)), (some (101, true))⟩, ⟨(some 105), (.bin .leq (.t 104) (.c (.int .i64 6))), (some (101, true))⟩, ⟨(some 106), (.pick (.t 101) (.t 105) (.c (.bool false))), none⟩, ⟨(some 107), (.mov (.t 106)), none⟩, ⟨(some 108), (.fadr 1 (.t 3)), (some (107, true))⟩, ⟨(some 109), (.load false 1 (.t 108)), (some (107, true))⟩, ⟨(some 110), (.lenl (.t 109)), (some (107, true))⟩, ⟨(some 111), (.bin .leq (.t 110) (.c (.int .i64 4))), (some (107, true))⟩, ⟨(some 112), (.pick (.t 107) (.t 111) (.c (.bool false))), none⟩, ⟨(some 4), (.mov (.t 112)), none⟩]) .ret))))⟩
theorem fit_spec_validModule : Fit Tryz.prog 61 Tryz.f61 mf_spec_validModule := ⟨by kernel_rfl, Tryz.func61, by kernel_rfl, by kernel_rfl, by kernel_rfl, by kernel_rfl⟩
theorem validModule_ct (p : Sl LModule) (m : LModule) (hs : m.core.Sm) : Ct Tryz.prog 61 [p.I LModule.C, .agg m.C] (.bool (validModule (p.es.map LModule.core) m.core)) := by
  refine ct_of_run fit_spec_validModule (by simp [mf_spec_validModule]) (by simp [go_sem]) fun hd => ?_
  simp -implicitDefEqProofs [-List.map_take, -List.map_drop, go_sem, mf_spec_validModule]
  have hm : m.decls.es.length ≤ maxLen := decls_deep hd.2.1
  have hm2 : m.uses.es.length ≤ maxLen := uses_deep hd.2.1
  refine run_iter (m.decls.es.length) (validModule_L p m 5) (fun i a => declsOk m.core ((m.decls.es.drop i).map LDecl.core) i = declsOk m.core (m.decls.es.map LDecl.core) 0) () (gh_auto (by simp [go_sem, validModule_L])) (by first | (simp; done) | (simp [validModule]; done) | (simp [validModule]; omega) | grind) ?_
  intro i a hi hj
  simp -implicitDefEqProofs [-List.map_take, -List.map_drop, go_sem, validModule_L]
  refine cnd_split (fun hc => ?_) (fun hc => ?_)
  · have hlt : i < m.decls.es.length := by first | (simpa using hc) | (simp at hc; omega)
    rw [List.drop_eq_getElem_cons (l := m.decls.es) (by omega)] at hj
    simp only [List.map_cons, declsOk, LDecl.core_name] at hj
    simp -implicitDefEqProofs [-List.map_take, -List.map_drop, go_sem, hlt]
    have c1 := validDecl_ct m.decls.es[i] (Decl.Sm_body (Module.Sm_decl hs hlt))
    have d1 := fun a1 => declAt_ct m a1
    have d2 := fun a1 => useAt_ct m a1
    have hy := hlt
    have e1 := @validModule.eq_1
    have hdf := @e1
    have eL := @validModule_L.eq_1
    have hm0 := hm
    have hlt0 := hlt
    exact wk1n
  · have hge : m.decls.es.length ≤ i := by first | (simpa using hc) | (simp at hc; omega)
    rw [List.drop_of_length_le (l := m.decls.es) (by omega)] at hj
    simp only [List.map_nil, declsOk, LDecl.core_name] at hj
    try simp -implicitDefEqProofs [-List.map_take, -List.map_drop, go_sem]
    refine run_iter (m.uses.es.length) (validModule_L p m 6) (fun i2 a2 => usesOk (p.es.map LModule.core) m.core (m.uses.es.drop i2) i2 = usesOk (p.es.map LModule.core) m.core m.uses.es 0) () (gh_auto (by simp [go_sem, validModule_L])) (by first | (simp; done) | (simp [validModule]; done) | (simp [validModule]; omega) | grind) ?_
    intro i2 a2 hi2 hj2
    simp -implicitDefEqProofs [-List.map_take, -List.map_drop, go_sem, validModule_L]
    refine cnd_split (fun hc2 => ?_) (fun hc2 => ?_)
    · have hlt2 : i2 < m.uses.es.length := by first | (simpa using hc2) | (simp at hc2; omega)
      rw [List.drop_eq_getElem_cons (l := m.uses.es) (by omega)] at hj2
      simp only [List.map_cons, usesOk] at hj2
      simp -implicitDefEqProofs [-List.map_take, -List.map_drop, go_sem, hlt2]
      rcases moduleAt_cases p.es m.uses.es[i2].module with h1 | ⟨k, hk, h1, h2⟩
      · rw [useOk_none h1] at hj2
        have d1 := fun a1 => moduleAt_ct p a1
        have hy := And.intro (hlt2) (h1)
        have e1 := @validModule.eq_1
        have hdf := @e1
        have eL := @validModule_L.eq_1
        have hm0 := hm2
        have hlt0 := hlt2
        exact wk1n
      · rw [useOk_some h2, LModule.core_name, LModule.core_name] at hj2
        have d1 := fun a1 => moduleAt_ct p a1
        have d2 := fun a1 => declAt_ct p.es[k] a1
        have d3 := fun a1 => useAt_ct m a1
        have hy := And.intro (hlt2) (And.intro (h1) (hk))
        have e1 := @validModule.eq_1
        have hdf := @e1
        have eL := @validModule_L.eq_1
        have hm0 := hm2
        have hlt0 := hlt2
        exact wk1n
    · have hge2 : m.uses.es.length ≤ i2 := by first | (simpa using hc2) | (simp at hc2; omega)
      rw [List.drop_of_length_le (l := m.uses.es) (by omega)] at hj2
      simp only [List.map_nil, usesOk] at hj2
      try simp -implicitDefEqProofs [-List.map_take, -List.map_drop, go_sem]
      have d1 := fun a1 => isName_ct a1
      have hy := hy0
      have e1 := @validModule.eq_1
      have hdf := @e1
      exact wk1
def programOk_L (p : Sl LModule) (i : Nat) (_ : Unit) : St := ⟨lk [(0, p.I LModule.C), (3, .int .i64 i)], [], []⟩
def programOk_L2 (p : Sl LModule) (j i : Nat) (_ : Unit) : St := ⟨lk [(0, p.I LModule.C), (3, .int .i64 j), (4, .int .i64 i)], [], []⟩
def mf_spec_ProgramOk : MF := ⟨66, [(.t 2)], (.seq (.reg [⟨(some 2), (.mov (.c (.bool false))), none⟩]) (.seq (.seq (.reg [⟨(some 3), (.mov (.c (.int .i64 0))), none⟩]) (.blk 0 (.loop (.seq (.seq (.reg [⟨(some 5), (.mov (.t 3)), none⟩, ⟨(some 6), (.mov (.t 0)), none⟩, ⟨(some 7), (.lenl (.t 6)), none⟩, ⟨(some 8), (.bin .lss (.t 5) (.t 7)), none⟩]) (.cond (.t 8) .skip (.exit 0))) (.seq (.blk 1 (.seq (.seq (.reg [⟨(some 11), (.mov (.t 0)), none⟩, ⟨(some 12), (.mov (.t 0)), none⟩, ⟨(some 13), (.mov (.t 3)), none⟩, ⟨(some 14), (.iadr 3 (.t 12) (.t 13)), none⟩, ⟨(some 15), (.load true 3 (.t 14)), none⟩, ⟨(some 16), (.call (.c (.fn 61 [])) [(.t 11), (.t 15)]), none⟩, ⟨(some 17), (.not (.t 16)), none⟩, ⟨(some 18), (.mov (.t 17)), none⟩, ⟨(some 19), (.mov (.t 0)), (some (18, false))⟩, ⟨(some 20), (.mov (.t 0)), (some (18, false))⟩, ⟨(some 21), (.mov (.t 3)), (some (18, false))⟩, ⟨(some 22), (.iadr 3 (.t 20) (.t 21)), (some (18, false))⟩, ⟨(some 23), (.fadr 0 (.t 22)), (some (18, false))⟩, ⟨(some 24), (.load false 1 (.t 23)), (some (18, false))⟩, ⟨(some 25), (.call (.c (.fn 51 [])) [(.t 19), (.t 24)]), (some (18, false))⟩, ⟨(some 26), (.mov (.t 3)), (some (18, false))⟩, ⟨(some 27), (.bin .neq (.t 25) (.t 26)), (some (18, false))⟩, ⟨(some 28), (.pick (.t 18) (.c (.bool true)) (.t 27)), none⟩]) (.cond (.t 28) (.seq (.reg [⟨(some 2), (.mov (.c (.bool false))), none⟩]) .ret) .skip)) (.seq (.reg [⟨(some 4), (.mov (.c (.int .i64 0))), none⟩]) (.blk 2 (.loop (.seq (.seq (.reg [⟨(some 29), (.mov (.t 4)), none⟩, ⟨(some 30), (.mov (.t 0)), none⟩, ⟨(some 31), (.mov (.t 3)), none⟩, ⟨(some 32), (.iadr 3 (.t 30) (.t 31)), none⟩, ⟨(some 33), (.fadr 2 (.t 32)), none⟩, ⟨(some 34), (.load false 1 (.t 33)), none⟩, ⟨(some 35), (.lenl (.t 34)), none⟩, ⟨(some 36), (.bin .lss (.t 29) (.t 35)), none⟩]) (.cond (.t 36) .skip (.exit 2))) (.seq (.blk 3 (.seq (.reg [⟨(some 39), (.mov (.t 0)), none⟩, ⟨(some 40), (.mov (.t 3)), none⟩, ⟨(some 41), (.iadr 3 (.t 39) (.t 40)), none⟩, ⟨(some 42), (.fadr 2 (.t 41)), none⟩, ⟨(some 43), (.load false 1 (.t 42)), none⟩, ⟨(some 44), (.mov (.t 4)), none⟩, ⟨(some 45), (.iadr 8 (.t 43) (.t 44)), none⟩, ⟨(some 46), (.fadr 0 (.t 45)), none⟩, ⟨(some 47), (.load false 1 (.t 46)), none⟩, ⟨(some 48), (.bin .eql (.t 47) (.c (.int .i64 1))), none⟩, ⟨(some 49), (.mov (.t 48)), none⟩, ⟨(some 50), (.mov (.t 0)), (some (49, true))⟩, ⟨(some 51), (.mov (.t 0)), (some (49, true))⟩, ⟨(some 52), (.mov (.t 3)), (some (49, true))⟩, ⟨(some 53), (.iadr 3 (.t 51) (.t 52)), (some (49, true))⟩, ⟨(some 54), (.fadr 2 (.t 53)), (some (49, true))⟩, ⟨(some 55), (.load false 1 (.t 54)), (some (49, true))⟩, ⟨(some 56), (.mov (.t 4)), (some (49, true))⟩, ⟨(some 57), (.iadr 8 (.t 55) (.t 56)), (some (49, true))⟩, ⟨(some 58), (.fadr 1 (.t 57)), (some (49, true))⟩, ⟨(some 59), (.load false 1 (.t 58)), (some (49, true))⟩, ⟨(some 60), (.call (.c (.fn 62 [])) [(.t 50), (.t 59)]), (some (49, true))⟩, ⟨(some 61), (.bin .gtr (.t 60) (.c (.int .i64 1))), (some (49, true))⟩, ⟨(some 62), (.pick (.t 49) (.t 61) (.c (.bool false))), none⟩]) (.cond (.t 62) (.seq (.reg [⟨(some 2), (.mov (.c (.bool false))), none⟩]) .ret) .skip))) (.reg [⟨(some 37), (.mov (.t 4)), none⟩, ⟨(some 38), (.bin .add (.t 37) (.c (.int .i64 1))), none⟩, ⟨(some 4), (.mov (.t 38)), none⟩])))))))) (.reg [⟨(some 9), (.mov (.t 3)), none⟩, ⟨(some 10), (.bin .add (.t 9) (.c (.int .i64 1))), none⟩, ⟨(some 3), (.mov (.t 10)), none⟩])))))) (.seq (.reg [⟨(some 63), (.mov (.t 0)), none⟩, ⟨(some 64), (.lenl (.t 63)), none⟩, ⟨(some 65), (.call (.c (.fn 63 [])) [(.t 64), (.c (.int .i64 1)), (.c (.int .i64 3))]), none⟩, ⟨(some 2), (.mov (.t 65)), none⟩]) .ret)))⟩
theorem fit_spec_ProgramOk : Fit Tryz.prog 28 Tryz.f28 mf_spec_ProgramOk := ⟨by kernel_rfl, Tryz.func28, by kernel_rfl, by kernel_rfl, by kernel_rfl, by kernel_rfl⟩
theorem programOk_ct (p : Sl LModule) (hs : SmP (p.es.map LModule.core)) : Ct Tryz.prog 28 [p.I LModule.C] (.bool (programOk (p.es.map LModule.core))) := by
  refine ct_of_run fit_spec_ProgramOk (by simp [mf_spec_ProgramOk]) (by simp [go_sem]) fun hd => ?_
  simp -implicitDefEqProofs [-List.map_take, -List.map_drop, go_sem, mf_spec_ProgramOk]
  have hm : p.es.length ≤ maxLen := sl_deep hd.1
  refine run_iter (p.es.length) (programOk_L p) (fun i a => modsOk (p.es.map LModule.core) ((p.es.drop i).map LModule.core) i = modsOk (p.es.map LModule.core) (p.es.map LModule.core) 0) () (gh_auto (by simp [go_sem, programOk_L])) (by first | (simp; done) | (simp [programOk]; done) | (simp [programOk]; omega) | grind) ?_
  intro i a hi hj
  simp -implicitDefEqProofs [-List.map_take, -List.map_drop, go_sem, programOk_L]
  refine cnd_split (fun hc => ?_) (fun hc => ?_)
  · have hlt : i < p.es.length := by first | (simpa using hc) | (simp at hc; omega)
    rw [List.drop_eq_getElem_cons (l := p.es) (by omega)] at hj
    simp only [List.map_cons, modsOk, LModule.core_name, LModule.core_decls] at hj
    have hsm := SmP_mod hs hlt
    have hm2 : p.es[i].decls.es.length ≤ maxLen := Nat.le_trans (by simpa using hsm.2.2.2.1) (by decide)
    simp -implicitDefEqProofs [-List.map_take, -List.map_drop, go_sem, hlt]
    repeat' first
      | ((first | refine gv_split (fun h => ?_) (fun h => ?_) | refine cnd_split (fun h => ?_) (fun h => ?_) | refine cgv_split (fun h => ?_) (fun h => ?_)) <;> (try (have hp := h; simp at hp)) <;> simp -implicitDefEqProofs [-List.map_take, -List.map_drop, go_sem, h, hlt])
      | (refine And.intro (by first | omega | (simp only [maxLen]; omega) | (simp_all; done) | (simp_all; omega)) ?_; try simp -implicitDefEqProofs [-List.map_take, -List.map_drop, go_sem, hlt])
      | ((first | refine stp_ct (validModule_ct p p.es[i] (SmP_mod hs hlt)) (by simp [go_sem, hlt]) ?_ ?_ | refine cstp_ct (validModule_ct p p.es[i] (SmP_mod hs hlt)) (by simp [go_sem, hlt]) ?_ ?_ | refine stp_ct (moduleAt_ct p _) (by simp [go_sem, hlt]) ?_ ?_ | refine cstp_ct (moduleAt_ct p _) (by simp [go_sem, hlt]) ?_ ?_); (simp [go_sem]); simp -implicitDefEqProofs [-List.map_take, -List.map_drop, go_sem, hlt])
      | (refine run_dreg' (by decide) ?_; simp -implicitDefEqProofs [-List.map_take, -List.map_drop, go_sem, hlt])
      | ((first | refine end_tup _ (by simp) (by simp [go_sem]; rfl) (by simp [go_sem]) ?_); first | (simp [go_sem, *, programOk]; done) | grind [programOk] | (simp [go_sem, programOk]; grind [programOk]) | (simp_all [go_sem, programOk]; done) | (simp_all [go_sem, programOk]; omega))
    refine run_iter (p.es[i].decls.es.length) (programOk_L2 p i) (fun i2 a2 => recsOk (p.es.map LModule.core) ((p.es[i].decls.es.drop i2).map LDecl.core) = recsOk (p.es.map LModule.core) (p.es[i].decls.es.map LDecl.core)) () (gh_auto (by simp [go_sem, programOk_L2, hlt])) (by first | (simp; done) | (simp [programOk]; done) | (simp [programOk]; omega) | grind) ?_
    intro i2 a2 hi2 hj2
    simp -implicitDefEqProofs [-List.map_take, -List.map_drop, go_sem, programOk_L2, hlt]
    refine cnd_split (fun hc2 => ?_) (fun hc2 => ?_)
    · have hlt2 : i2 < p.es[i].decls.es.length := by first | (simpa using hc2) | (simp at hc2; omega)
      rw [List.drop_eq_getElem_cons (l := p.es[i].decls.es) (by omega)] at hj2
      simp only [List.map_cons, recsOk, LDecl.core_kind, LDecl.core_name] at hj2
      simp -implicitDefEqProofs [-List.map_take, -List.map_drop, go_sem, hlt2, hlt]
      have d1 := fun a1 => records_ct p a1
      have hy := And.intro (hlt2) (hlt)
      have e1 := @programOk.eq_1
      have hdf := @e1
      have eL := @programOk_L2.eq_1
      have hm0 := hm2
      have hlt0 := hlt2
      exact wk1n
    · have hge2 : p.es[i].decls.es.length ≤ i2 := by first | (simpa using hc2) | (simp at hc2; omega)
      rw [List.drop_of_length_le (l := p.es[i].decls.es) (by omega)] at hj2
      simp only [List.map_nil, recsOk, LDecl.core_kind, LDecl.core_name] at hj2
      try simp -implicitDefEqProofs [-List.map_take, -List.map_drop, go_sem, hlt]
      have d1 := fun a1 => records_ct p a1
      have hy := And.intro (hlt) (hlt)
      have e1 := @programOk.eq_1
      have hdf := @e1
      have eL := @programOk_L.eq_1
      have hm0 := hm
      have hlt0 := hlt
      exact wk1n
  · have hge : p.es.length ≤ i := by first | (simpa using hc) | (simp at hc; omega)
    rw [List.drop_of_length_le (l := p.es) (by omega)] at hj
    simp only [List.map_nil, modsOk, LModule.core_name, LModule.core_decls] at hj
    try simp -implicitDefEqProofs [-List.map_take, -List.map_drop, go_sem]
    repeat' first
      | ((first | refine gv_split (fun h => ?_) (fun h => ?_) | refine cnd_split (fun h => ?_) (fun h => ?_) | refine cgv_split (fun h => ?_) (fun h => ?_)) <;> (try (have hp := h; simp at hp)) <;> simp -implicitDefEqProofs [-List.map_take, -List.map_drop, go_sem, h])
      | (refine And.intro (by first | omega | (simp only [maxLen]; omega) | (simp_all; done) | (simp_all; omega)) ?_; try simp -implicitDefEqProofs [-List.map_take, -List.map_drop, go_sem])
      | ((first | refine stp_ct (inRange_ct _ _ _) (by simp [go_sem]) ?_ ?_ | refine cstp_ct (inRange_ct _ _ _) (by simp [go_sem]) ?_ ?_); (simp [go_sem]); simp -implicitDefEqProofs [-List.map_take, -List.map_drop, go_sem])
      | (refine run_dreg' (by decide) ?_; simp -implicitDefEqProofs [-List.map_take, -List.map_drop, go_sem])
      | ((first | refine end_tup _ (by simp) (by simp [go_sem]; rfl) (by simp [go_sem]) ?_); first | (simp [go_sem, *, programOk]; done) | grind [programOk] | (simp [go_sem, programOk]; grind [programOk]) | (simp_all [go_sem, programOk]; done) | (simp_all [go_sem, programOk]; omega))

def mf_strings_Contains : MF := ⟨9, [(.t 4)], (.seq (.reg [⟨(some 4), (.mov (.c (.bool false))), none⟩]) (.seq (.reg [⟨(some 5), (.mov (.t 0)), none⟩, ⟨(some 6), (.mov (.t 1)), none⟩, ⟨(some 7), (.call (.c (.fn 176 [])) [(.t 5), (.t 6)]), none⟩, ⟨(some 8), (.bin .geq (.t 7) (.c (.int .i64 0))), none⟩, ⟨(some 4), (.mov (.t 8)), none⟩]) .ret))⟩
theorem fit_strings_Contains : Fit Tryz.prog 130 Tryz.f130 mf_strings_Contains := ⟨by kernel_rfl, Tryz.func130, by kernel_rfl, by kernel_rfl, by kernel_rfl, by kernel_rfl⟩
theorem contains_ct (s x : Str) (hs : s.length < 4294967281) : Ct Tryz.prog 130 [.str s, .str x] (.bool (Lib.contains s x)) := by
  refine ct_of_calls fit_strings_Contains.ent rfl ?_
  rintro w vs hg ⟨σ, ι, X, hv⟩
  obtain ⟨rfl, h1, h2⟩ := hv.strs
  refine (Tryz.strings_Contains_shaped ⟨s.toArray⟩ ⟨x.toArray⟩ w hg.1 (by show s.length < _; exact hs)).mono ?_
  rintro e w' ⟨rfl, rfl⟩
  exact ⟨_, rfl, rfl, fun B => .bool _⟩
def nameOk_L (s : Str) (i : Nat) (_ : Unit) : St := ⟨lk [(0, .str s), (23, .int .i64 s.length), (24, .int .i64 i)], [], []⟩
theorem firstSmall_eq {s : Str} (h : 1 ≤ s.length) : firstSmall s = (decide (97 ≤ byteAt s 0) && decide (byteAt s 0 ≤ 122)) := by
  cases s with
  | nil => simp at h
  | cons b r => rfl
def mf_impl_nameOk : MF := ⟨55, [(.t 2)], (.seq (.reg [⟨(some 2), (.mov (.c (.bool false))), none⟩]) (.seq (.seq (.reg [⟨(some 4), (.mov (.t 0)), none⟩, ⟨(some 5), (.lens (.t 4)), none⟩, ⟨(some 6), (.bin .lss (.t 5) (.c (.int .i64 1))), none⟩, ⟨(some 7), (.mov (.t 6)), none⟩, ⟨(some 8), (.mov (.t 0)), (some (7, false))⟩, ⟨(some 9), (.lens (.t 8)), (some (7, false))⟩, ⟨(some 10), (.bin .gtr (.t 9) (.c (.int .i64 8))), (some (7, false))⟩, ⟨(some 11), (.pick (.t 7) (.c (.bool true)) (.t 10)), none⟩, ⟨(some 12), (.mov (.t 11)), none⟩, ⟨(some 13), (.mov (.t 0)), (some (12, false))⟩, ⟨(some 14), (.idx (.t 13) (.c (.int .i64 0))), (some (12, false))⟩, ⟨(some 15), (.bin .lss (.t 14) (.c (.int .u8 97))), (some (12, false))⟩, ⟨(some 16), (.pick (.t 12) (.c (.bool true)) (.t 15)), none⟩, ⟨(some 17), (.mov (.t 16)), none⟩, ⟨(some 18), (.mov (.t 0)), (some (17, false))⟩, ⟨(some 19), (.idx (.t 18) (.c (.int .i64 0))), (some (17, false))⟩, ⟨(some 20), (.bin .gtr (.t 19) (.c (.int .u8 122))), (some (17, false))⟩, ⟨(some 21), (.pick (.t 17) (.c (.bool true)) (.t 20)), none⟩]) (.cond (.t 21) (.seq (.reg [⟨(some 2), (.mov (.c (.bool false))), none⟩]) .ret) .skip)) (.seq (.seq (.reg [⟨(some 22), (.mov (.t 0)), none⟩, ⟨(some 23), (.lens (.t 22)), none⟩, ⟨(some 24), (.mov (.c (.int .i64 0))), none⟩]) (.blk 0 (.loop (.seq (.reg [⟨(some 25), (.bin .lss (.t 24) (.t 23)), none⟩]) (.seq (.cond (.t 25) .skip (.exit 0)) (.seq (.blk 1 (.seq (.reg [⟨(some 26), (.mov (.t 24)), none⟩, ⟨(some 3), (.mov (.t 26)), none⟩]) (.seq (.reg [⟨(some 27), (.mov (.t 0)), none⟩, ⟨(some 28), (.mov (.t 3)), none⟩, ⟨(some 29), (.idx (.t 27) (.t 28)), none⟩, ⟨(some 30), (.bin .lss (.t 29) (.c (.int .u8 97))), none⟩, ⟨(some 31), (.mov (.t 30)), none⟩, ⟨(some 32), (.mov (.t 0)), (some (31, false))⟩, ⟨(some 33), (.mov (.t 3)), (some (31, false))⟩, ⟨(some 34), (.idx (.t 32) (.t 33)), (some (31, false))⟩, ⟨(some 35), (.bin .gtr (.t 34) (.c (.int .u8 122))), (some (31, false))⟩, ⟨(some 36), (.pick (.t 31) (.c (.bool true)) (.t 35)), none⟩, ⟨(some 37), (.mov (.t 36)), none⟩, ⟨(some 38), (.mov (.t 0)), (some (37, true))⟩, ⟨(some 39), (.mov (.t 3)), (some (37, true))⟩, ⟨(some 40), (.idx (.t 38) (.t 39)), (some (37, true))⟩, ⟨(some 41), (.bin .lss (.t 40) (.c (.int .u8 48))), (some (37, true))⟩, ⟨(some 42), (.mov (.t 41)), (some (37, true))⟩, ⟨(some 43), (.mov (.t 0)), (some (42, false))⟩, ⟨(some 44), (.mov (.t 3)), (some (42, false))⟩, ⟨(some 45), (.idx (.t 43) (.t 44)), (some (42, false))⟩, ⟨(some 46), (.bin .gtr (.t 45) (.c (.int .u8 57))), (some (42, false))⟩, ⟨(some 47), (.pick (.t 42) (.c (.bool true)) (.t 46)), (some (37, true))⟩, ⟨(some 48), (.pick (.t 37) (.t 47) (.c (.bool false))), none⟩]) (.cond (.t 48) (.seq (.reg [⟨(some 2), (.mov (.c (.bool false))), none⟩]) .ret) .skip)))) (.reg [⟨(some 49), (.bin .add (.t 24) (.c (.int .i64 1))), none⟩, ⟨(some 24), (.mov (.t 49)), none⟩]))))))) (.seq (.reg [⟨(some 50), (.mov (.t 0)), none⟩, ⟨(some 51), (.cat (.c (.str [32])) (.t 50)), none⟩, ⟨(some 52), (.cat (.t 51) (.c (.str [32]))), none⟩, ⟨(some 53), (.call (.c (.fn 130 [])) [(.c (.str [32, 105, 110, 116, 32, 98, 111, 111, 108, 32, 116, 101, 120, 116, 32, 116, 114, 117, 101, 32, 102, 97, 108, 115, 101, 32, 105, 102, 32, 116, 104, 101, 110, 32, 101, 108, 115, 101, 32, 108, 101, 116, 32, 105, 110, 32, 102, 111, 114, 32, 102, 117, 110, 32, 116, 121, 112, 101, 32, 117, 115, 101, 32, 110, 111, 116, 32, 115, 105, 122, 101, 32, 97, 116, 32, 115, 97, 121, 32])), (.t 52)]), none⟩, ⟨(some 54), (.not (.t 53)), none⟩, ⟨(some 2), (.mov (.t 54)), none⟩]) .ret))))⟩
theorem fit_impl_nameOk : Fit Tryz.prog 71 Tryz.f71 mf_impl_nameOk := ⟨by kernel_rfl, Tryz.func71, by kernel_rfl, by kernel_rfl, by kernel_rfl, by kernel_rfl⟩
theorem nameOk_ct (s : Str) : Ct Tryz.prog 71 [.str s] (.bool (isName s)) := by
  rw [← nameOk_eq]
  refine ct_of_run fit_impl_nameOk (by simp [mf_impl_nameOk]) (by simp [go_sem]) fun hd => ?_
  simp -implicitDefEqProofs [-List.map_take, -List.map_drop, go_sem, mf_impl_nameOk]
  have hm : s.length ≤ maxLen := by simp [deepL, deepV] at hd; omega
  have hfs := @firstSmall_eq s
  have hz : (s.length : Int) < 1 → firstSmall s = false := by intro h; cases s with
    | nil => rfl
    | cons b r => simp at h; omega
  repeat' first
    | ((first | refine gv_split (fun h => ?_) (fun h => ?_) | refine cnd_split (fun h => ?_) (fun h => ?_) | refine cgv_split (fun h => ?_) (fun h => ?_)) <;> (try (have hp := h; simp at hp)) <;> simp -implicitDefEqProofs [-List.map_take, -List.map_drop, go_sem, h])
    | (refine And.intro (by first | omega | (simp only [maxLen]; omega) | (simp_all; done) | (simp_all; omega)) ?_; try simp -implicitDefEqProofs [-List.map_take, -List.map_drop, go_sem])
    | (refine run_dreg' (by decide) ?_; simp -implicitDefEqProofs [-List.map_take, -List.map_drop, go_sem])
    | ((first | refine end_tup _ (by simp) (by simp [go_sem]; rfl) (by simp [go_sem]) ?_); first | (simp [go_sem, *, nameOk]; done) | grind [nameOk] | (simp [go_sem, nameOk]; grind [nameOk]) | (simp_all [go_sem, nameOk]; done) | (simp_all [go_sem, nameOk]; omega))
  have hl0 : 1 ≤ s.length := by omega
  have hl8 : (s.length : Int) ≤ 8 := by assumption
  have hf := hfs hl0
  refine run_iter (s.length) (nameOk_L s) (fun i a => allSD (s.drop i) = allSD s) () (gh_auto (by simp [go_sem, nameOk_L, getD_str])) (by first | (simp; done) | (simp [nameOk, keywordsS]; done) | (simp [nameOk, keywordsS]; omega) | grind) ?_
  intro i a hi hj
  simp -implicitDefEqProofs [-List.map_take, -List.map_drop, go_sem, nameOk_L, getD_str]
  refine cnd_split (fun hc => ?_) (fun hc => ?_)
  · have hlt : i < s.length := by first | (simpa using hc) | (simp at hc; omega)
    rw [List.drop_eq_getElem_cons (l := s) (by omega)] at hj
    simp only [List.map_cons, allSD, sdB, small, digit] at hj
    simp -implicitDefEqProofs [-List.map_take, -List.map_drop, go_sem, hlt, getD_str]
    repeat' first
      | ((first | refine gv_split (fun h => ?_) (fun h => ?_) | refine cnd_split (fun h => ?_) (fun h => ?_) | refine cgv_split (fun h => ?_) (fun h => ?_)) <;> (try (have hp := h; simp at hp)) <;> simp -implicitDefEqProofs [-List.map_take, -List.map_drop, go_sem, h, hlt, getD_str])
      | (refine And.intro (by first | omega | (simp only [maxLen]; omega) | (simp_all; done) | (simp_all; omega)) ?_; try simp -implicitDefEqProofs [-List.map_take, -List.map_drop, go_sem, hlt, getD_str])
      | ((first | refine stp_ct (contains_ct _ _ (by decide)) (by simp [go_sem, hlt, getD_str]) ?_ ?_ | refine cstp_ct (contains_ct _ _ (by decide)) (by simp [go_sem, hlt, getD_str]) ?_ ?_); (simp [go_sem]); simp -implicitDefEqProofs [-List.map_take, -List.map_drop, go_sem, hlt, getD_str])
      | (refine run_dreg' (by decide) ?_; simp -implicitDefEqProofs [-List.map_take, -List.map_drop, go_sem, hlt, getD_str])
      | ((first | refine kx_next () hlt (gh_auto (by simp [go_sem, nameOk_L, wrap_succ hlt hm, hlt, getD_str])) ?_ | refine end_tup _ (by simp) (by simp [go_sem]; rfl) (by simp [go_sem]) ?_); first | (simp [go_sem, *, nameOk, keywordsS]; done) | grind [nameOk, keywordsS] | (simp [go_sem, nameOk, keywordsS]; grind [nameOk, keywordsS]) | (simp_all [go_sem, nameOk, keywordsS]; done) | (simp_all [go_sem, nameOk, keywordsS]; omega))
  · have hge : s.length ≤ i := by first | (simpa using hc) | (simp at hc; omega)
    rw [List.drop_of_length_le (l := s) (by omega)] at hj
    simp only [List.map_nil, allSD, sdB, small, digit] at hj
    try simp -implicitDefEqProofs [-List.map_take, -List.map_drop, go_sem, getD_str]
    repeat' first
      | ((first | refine gv_split (fun h => ?_) (fun h => ?_) | refine cnd_split (fun h => ?_) (fun h => ?_) | refine cgv_split (fun h => ?_) (fun h => ?_)) <;> (try (have hp := h; simp at hp)) <;> simp -implicitDefEqProofs [-List.map_take, -List.map_drop, go_sem, h, getD_str])
      | (refine And.intro (by first | omega | (simp only [maxLen]; omega) | (simp_all; done) | (simp_all; omega)) ?_; try simp -implicitDefEqProofs [-List.map_take, -List.map_drop, go_sem, getD_str])
      | ((first | refine stp_ct (contains_ct _ _ (by decide)) (by simp [go_sem, getD_str]) ?_ ?_ | refine cstp_ct (contains_ct _ _ (by decide)) (by simp [go_sem, getD_str]) ?_ ?_); (simp [go_sem]); simp -implicitDefEqProofs [-List.map_take, -List.map_drop, go_sem, getD_str])
      | (refine run_dreg' (by decide) ?_; simp -implicitDefEqProofs [-List.map_take, -List.map_drop, go_sem, getD_str])
      | ((first | refine end_tup _ (by simp) (by simp [go_sem]; rfl) (by simp [go_sem]) ?_); first | (simp [go_sem, *, nameOk, keywordsS]; done) | grind [nameOk, keywordsS] | (simp [go_sem, nameOk, keywordsS]; grind [nameOk, keywordsS]) | (simp_all [go_sem, nameOk, keywordsS]; done) | (simp_all [go_sem, nameOk, keywordsS]; omega))
def typeBase_L (i : Nat) (a : Str) : St := ⟨lk [(0, .str a), (4, .int .i64 i)], [], []⟩
def mf_impl_typeBase : MF := ⟨35, [(.t 2), (.t 3)], (.seq (.reg [⟨(some 2), (.mov (.c (.str []))), none⟩, ⟨(some 3), (.mov (.c (.bool false))), none⟩]) (.seq (.seq (.reg [⟨(some 4), (.mov (.c (.int .i64 0))), none⟩]) (.blk 0 (.loop (.seq (.reg [⟨(some 5), (.bin .lss (.t 4) (.c (.int .i64 2))), none⟩]) (.seq (.cond (.t 5) .skip (.exit 0)) (.seq (.blk 1 (.seq (.seq (.reg [⟨(some 6), (.mov (.t 0)), none⟩, ⟨(some 7), (.lens (.t 6)), none⟩, ⟨(some 8), (.bin .lss (.t 7) (.c (.int .i64 2))), none⟩, ⟨(some 9), (.mov (.t 8)), none⟩, ⟨(some 10), (.mov (.t 0)), (some (9, false))⟩, ⟨(some 11), (.idx (.t 10) (.c (.int .i64 0))), (some (9, false))⟩, ⟨(some 12), (.bin .neq (.t 11) (.c (.int .u8 91))), (some (9, false))⟩, ⟨(some 13), (.pick (.t 9) (.c (.bool true)) (.t 12)), none⟩, ⟨(some 14), (.mov (.t 13)), none⟩, ⟨(some 15), (.mov (.t 0)), (some (14, false))⟩, ⟨(some 16), (.mov (.t 0)), (some (14, false))⟩, ⟨(some 17), (.lens (.t 16)), (some (14, false))⟩, ⟨(some 18), (.bin .sub (.t 17) (.c (.int .i64 1))), (some (14, false))⟩, ⟨(some 19), (.idx (.t 15) (.t 18)), (some (14, false))⟩, ⟨(some 20), (.bin .neq (.t 19) (.c (.int .u8 93))), (some (14, false))⟩, ⟨(some 21), (.pick (.t 14) (.c (.bool true)) (.t 20)), none⟩]) (.cond (.t 21) (.exit 0) .skip)) (.reg [⟨(some 22), (.mov (.t 0)), none⟩, ⟨(some 23), (.mov (.t 0)), none⟩, ⟨(some 24), (.lens (.t 23)), none⟩, ⟨(some 25), (.bin .sub (.t 24) (.c (.int .i64 1))), none⟩, ⟨(some 26), (.sls (.t 22) (some (.c (.int .i64 1))) (some (.t 25))), none⟩, ⟨(some 0), (.mov (.t 26)), none⟩]))) (.reg [⟨(some 27), (.bin .add (.t 4) (.c (.int .i64 1))), none⟩, ⟨(some 4), (.mov (.t 27)), none⟩]))))))) (.seq (.reg [⟨(some 28), (.mov (.t 0)), none⟩, ⟨(some 29), (.mov (.t 0)), none⟩, ⟨(some 30), (.call (.c (.fn 149 [])) [(.t 29)]), none⟩, ⟨(some 31), (.mov (.t 30)), none⟩, ⟨(some 32), (.mov (.t 0)), (some (31, false))⟩, ⟨(some 33), (.call (.c (.fn 71 [])) [(.t 32)]), (some (31, false))⟩, ⟨(some 34), (.pick (.t 31) (.c (.bool true)) (.t 33)), none⟩, ⟨(some 2), (.mov (.t 28)), none⟩, ⟨(some 3), (.mov (.t 34)), none⟩]) .ret)))⟩
theorem fit_impl_typeBase : Fit Tryz.prog 90 Tryz.f90 mf_impl_typeBase := ⟨by kernel_rfl, Tryz.func90, by kernel_rfl, by kernel_rfl, by kernel_rfl, by kernel_rfl⟩
theorem typeBase_ct (t : Str) : Ct Tryz.prog 90 [.str t] (.tup [.str (stripN 2 t), .bool (baseOk t)]) := by
  refine ct_of_run fit_impl_typeBase (by simp [mf_impl_typeBase]) (by simp [go_sem]) fun hd => ?_
  simp -implicitDefEqProofs [-List.map_take, -List.map_drop, go_sem, mf_impl_typeBase]
  have hmt : t.length ≤ maxLen := by simp [deepL, deepV] at hd; omega
  have hm : 2 ≤ maxLen := by decide
  refine run_iter (2) (typeBase_L) (fun i a => stripN (2 - i) a = stripN 2 t ∧ a.length ≤ t.length) t (gh_auto (by simp [go_sem, typeBase_L])) (by first | (simp; done) | (simp [baseOk]; done) | (simp [baseOk]; omega) | grind) ?_
  intro i a hi hj
  simp -implicitDefEqProofs [-List.map_take, -List.map_drop, go_sem, typeBase_L]
  refine cnd_split (fun hc => ?_) (fun hc => ?_)
  · have hlt : i < 2 := by first | (simpa using hc) | (simp at hc; omega)
    obtain ⟨m, hm2⟩ : ∃ m, 2 - i = m + 1 := ⟨1 - i, by omega⟩
    rw [hm2, stripN] at hj
    have hm3 : 2 - (i + 1) = m := by omega
    have hbr : brk a = (decide (2 ≤ (a.length : Int)) && (byteAt a 0 == 91 && byteAt a ((a.length : Int) - 1) == 93)) := rfl
    have hml : (mid a).length ≤ a.length := by unfold mid; simp; omega
    have hw : IntKind.i64.wrap ((a.length : Int) - 1) = (a.length : Int) - 1 := wrap_small (by omega) (by simp only [maxLen] at hmt; omega)
    have hwm : mid a = (List.take (a.length - 1) a).tail := by simp [mid]
    simp -implicitDefEqProofs [-List.map_take, -List.map_drop, go_sem, hlt, hw, hwm]
    repeat' first
      | ((first | refine gv_split (fun h => ?_) (fun h => ?_) | refine cnd_split (fun h => ?_) (fun h => ?_) | refine cgv_split (fun h => ?_) (fun h => ?_)) <;> (try (have hp := h; simp at hp)) <;> simp -implicitDefEqProofs [-List.map_take, -List.map_drop, go_sem, h, hlt, hw, hwm])
      | (refine And.intro (by first | omega | (simp only [maxLen]; omega) | (simp_all; done) | (simp_all; omega)) ?_; try simp -implicitDefEqProofs [-List.map_take, -List.map_drop, go_sem, hlt, hw, hwm])
      | ((first | refine stp_ct (plainType_ct _) (by simp [go_sem, hlt, hw, hwm]) ?_ ?_ | refine cstp_ct (plainType_ct _) (by simp [go_sem, hlt, hw, hwm]) ?_ ?_ | refine stp_ct (nameOk_ct _) (by simp [go_sem, hlt, hw, hwm]) ?_ ?_ | refine cstp_ct (nameOk_ct _) (by simp [go_sem, hlt, hw, hwm]) ?_ ?_); (simp [go_sem]); simp -implicitDefEqProofs [-List.map_take, -List.map_drop, go_sem, hlt, hw, hwm])
      | (refine run_dreg' (by decide) ?_; simp -implicitDefEqProofs [-List.map_take, -List.map_drop, go_sem, hlt, hw, hwm])
      | ((first | refine kx_next (mid a) hlt (gh_auto (by simp [go_sem, typeBase_L, wrap_succ hlt hm, hlt, hw, hwm])) ?_ | refine end_tup _ (by simp) (by simp [go_sem]; rfl) (by simp [go_sem]) ?_); first | (simp [go_sem, *, baseOk]; done) | grind [baseOk] | (simp [go_sem, baseOk]; grind [baseOk]) | (simp_all [go_sem, baseOk]; done) | (simp_all [go_sem, baseOk]; omega))
  · have hge : 2 ≤ i := by first | (simpa using hc) | (simp at hc; omega)
    have hi2 : 2 - i = 0 := by omega
    have hj1 : a = stripN 2 t := by have := hj.1; rw [hi2] at this; exact this
    try simp -implicitDefEqProofs [-List.map_take, -List.map_drop, go_sem]
    have d1 := fun a1 => plainType_ct a1
    have d2 := fun a1 => nameOk_ct a1
    have hy := hy0
    have e1 := @baseOk.eq_1
    have hdf := @e1
    exact wk1
def mf_impl_TypeOk : MF := ⟨11, [(.t 2)], (.seq (.reg [⟨(some 2), (.mov (.c (.bool false))), none⟩]) (.seq (.reg [⟨(some 6), (.mov (.t 0)), none⟩, ⟨(some 7), (.call (.c (.fn 90 [])) [(.t 6)]), none⟩, ⟨(some 5), (.mov (.t 7)), none⟩, ⟨(some 8), (.ext (.t 5) 0), none⟩, ⟨(some 9), (.ext (.t 5) 1), none⟩, ⟨(some 3), (.mov (.t 8)), none⟩, ⟨(some 4), (.mov (.t 9)), none⟩]) (.seq (.reg [⟨(some 10), (.mov (.t 4)), none⟩, ⟨(some 2), (.mov (.t 10)), none⟩]) .ret)))⟩
theorem fit_impl_TypeOk : Fit Tryz.prog 43 Tryz.f43 mf_impl_TypeOk := ⟨by kernel_rfl, Tryz.func43, by kernel_rfl, by kernel_rfl, by kernel_rfl, by kernel_rfl⟩
theorem itypeOk_ct (t : Str) : Ct Tryz.prog 43 [.str t] (.bool (typeOk t)) := by
  refine ct_of_run fit_impl_TypeOk (by simp [mf_impl_TypeOk]) (by simp [go_sem]) fun hd => ?_
  simp -implicitDefEqProofs [-List.map_take, -List.map_drop, go_sem, mf_impl_TypeOk]
  have d1 := fun a1 => typeBase_ct a1
  have hy := hy0
  have e1 := @baseOk_eq
  have hdf := @e1
  exact wk1
def wordOk_L (s : Str) (i : Nat) (_ : Unit) : St := ⟨lk [(0, .str s), (5, .int .i64 s.length), (6, .int .i64 i)], [], []⟩
def mf_impl_wordOk : MF := ⟨29, [(.t 2)], (.seq (.reg [⟨(some 2), (.mov (.c (.bool false))), none⟩]) (.seq (.seq (.reg [⟨(some 4), (.mov (.t 0)), none⟩, ⟨(some 5), (.lens (.t 4)), none⟩, ⟨(some 6), (.mov (.c (.int .i64 0))), none⟩]) (.blk 0 (.loop (.seq (.reg [⟨(some 7), (.bin .lss (.t 6) (.t 5)), none⟩]) (.seq (.cond (.t 7) .skip (.exit 0)) (.seq (.blk 1 (.seq (.reg [⟨(some 8), (.mov (.t 6)), none⟩, ⟨(some 3), (.mov (.t 8)), none⟩]) (.seq (.reg [⟨(some 9), (.mov (.t 0)), none⟩, ⟨(some 10), (.mov (.t 3)), none⟩, ⟨(some 11), (.idx (.t 9) (.t 10)), none⟩, ⟨(some 12), (.bin .lss (.t 11) (.c (.int .u8 32))), none⟩, ⟨(some 13), (.mov (.t 12)), none⟩, ⟨(some 14), (.mov (.t 0)), (some (13, false))⟩, ⟨(some 15), (.mov (.t 3)), (some (13, false))⟩, ⟨(some 16), (.idx (.t 14) (.t 15)), (some (13, false))⟩, ⟨(some 17), (.bin .gtr (.t 16) (.c (.int .u8 126))), (some (13, false))⟩, ⟨(some 18), (.pick (.t 13) (.c (.bool true)) (.t 17)), none⟩, ⟨(some 19), (.mov (.t 18)), none⟩, ⟨(some 20), (.mov (.t 0)), (some (19, false))⟩, ⟨(some 21), (.mov (.t 3)), (some (19, false))⟩, ⟨(some 22), (.idx (.t 20) (.t 21)), (some (19, false))⟩, ⟨(some 23), (.bin .eql (.t 22) (.c (.int .u8 39))), (some (19, false))⟩, ⟨(some 24), (.pick (.t 19) (.c (.bool true)) (.t 23)), none⟩]) (.cond (.t 24) (.seq (.reg [⟨(some 2), (.mov (.c (.bool false))), none⟩]) .ret) .skip)))) (.reg [⟨(some 25), (.bin .add (.t 6) (.c (.int .i64 1))), none⟩, ⟨(some 6), (.mov (.t 25)), none⟩]))))))) (.seq (.reg [⟨(some 26), (.mov (.t 0)), none⟩, ⟨(some 27), (.lens (.t 26)), none⟩, ⟨(some 28), (.bin .leq (.t 27) (.c (.int .i64 20))), none⟩, ⟨(some 2), (.mov (.t 28)), none⟩]) .ret)))⟩
theorem fit_impl_wordOk : Fit Tryz.prog 148 Tryz.f148 mf_impl_wordOk := ⟨by kernel_rfl, Tryz.func148, by kernel_rfl, by kernel_rfl, by kernel_rfl, by kernel_rfl⟩
theorem wordOk_ct (s : Str) : Ct Tryz.prog 148 [.str s] (.bool (isWord s)) := by
  refine ct_of_run fit_impl_wordOk (by simp [mf_impl_wordOk]) (by simp [go_sem]) fun hd => ?_
  simp -implicitDefEqProofs [-List.map_take, -List.map_drop, go_sem, mf_impl_wordOk]
  have hm : s.length ≤ maxLen := by simp [deepL, deepV] at hd; omega
  refine run_iter (s.length) (wordOk_L s) (fun i a => wordChars (s.drop i) = wordChars s) () (gh_auto (by simp [go_sem, wordOk_L, getD_str])) (by first | (simp; done) | (simp [isWord]; done) | (simp [isWord]; omega) | grind) ?_
  intro i a hi hj
  simp -implicitDefEqProofs [-List.map_take, -List.map_drop, go_sem, wordOk_L, getD_str]
  refine cnd_split (fun hc => ?_) (fun hc => ?_)
  · have hlt : i < s.length := by first | (simpa using hc) | (simp at hc; omega)
    rw [List.drop_eq_getElem_cons (l := s) (by omega)] at hj
    simp only [List.map_cons, wordChars, wordCh] at hj
    simp -implicitDefEqProofs [-List.map_take, -List.map_drop, go_sem, hlt, getD_str]
    repeat' first
      | ((first | refine gv_split (fun h => ?_) (fun h => ?_) | refine cnd_split (fun h => ?_) (fun h => ?_) | refine cgv_split (fun h => ?_) (fun h => ?_)) <;> (try (have hp := h; simp at hp)) <;> simp -implicitDefEqProofs [-List.map_take, -List.map_drop, go_sem, h, hlt, getD_str])
      | (refine And.intro (by first | omega | (simp only [maxLen]; omega) | (simp_all; done) | (simp_all; omega)) ?_; try simp -implicitDefEqProofs [-List.map_take, -List.map_drop, go_sem, hlt, getD_str])
      | (refine run_dreg' (by decide) ?_; simp -implicitDefEqProofs [-List.map_take, -List.map_drop, go_sem, hlt, getD_str])
      | ((first | refine kx_next () hlt (gh_auto (by simp [go_sem, wordOk_L, wrap_succ hlt hm, hlt, getD_str])) ?_ | refine end_tup _ (by simp) (by simp [go_sem]; rfl) (by simp [go_sem]) ?_); first | (simp [go_sem, *, isWord]; done) | grind [isWord] | (simp [go_sem, isWord]; grind [isWord]) | (simp_all [go_sem, isWord]; done) | (simp_all [go_sem, isWord]; omega))
  · have hge : s.length ≤ i := by first | (simpa using hc) | (simp at hc; omega)
    rw [List.drop_of_length_le (l := s) (by omega)] at hj
    simp only [List.map_nil, wordChars, wordCh] at hj
    try simp -implicitDefEqProofs [-List.map_take, -List.map_drop, go_sem, getD_str]
    repeat' first
      | ((first | refine gv_split (fun h => ?_) (fun h => ?_) | refine cnd_split (fun h => ?_) (fun h => ?_) | refine cgv_split (fun h => ?_) (fun h => ?_)) <;> (try (have hp := h; simp at hp)) <;> simp -implicitDefEqProofs [-List.map_take, -List.map_drop, go_sem, h, getD_str])
      | (refine And.intro (by first | omega | (simp only [maxLen]; omega) | (simp_all; done) | (simp_all; omega)) ?_; try simp -implicitDefEqProofs [-List.map_take, -List.map_drop, go_sem, getD_str])
      | (refine run_dreg' (by decide) ?_; simp -implicitDefEqProofs [-List.map_take, -List.map_drop, go_sem, getD_str])
      | ((first | refine end_tup _ (by simp) (by simp [go_sem]; rfl) (by simp [go_sem]) ?_); first | (simp [go_sem, *, isWord]; done) | grind [isWord] | (simp [go_sem, isWord]; grind [isWord]) | (simp_all [go_sem, isWord]; done) | (simp_all [go_sem, isWord]; omega))
def index_L (l : Sl Str) (s : Str) (i : Nat) (_ : Unit) : St := ⟨lk [(0, l.I strC), (1, .str s), (7, .int .i64 l.es.length), (8, .int .i64 i)], [], []⟩
def mf_slices_Index_string_string : MF := ⟨19, [(.t 4)], (.seq (.reg [⟨(some 4), (.mov (.c (.int .i64 0))), none⟩]) (.seq (.seq (.reg [⟨(some 6), (.mov (.t 0)), none⟩, ⟨(some 7), (.lenl (.t 6)), none⟩, ⟨(some 8), (.mov (.c (.int .i64 0))), none⟩]) (.blk 0 (.loop (.seq (.reg [⟨(some 9), (.bin .lss (.t 8) (.t 7)), none⟩]) (.seq (.cond (.t 9) .skip (.exit 0)) (.seq (.blk 1 (.seq (.reg [⟨(some 10), (.mov (.t 8)), none⟩, ⟨(some 5), (.mov (.t 10)), none⟩]) (.seq (.reg [⟨(some 11), (.mov (.t 1)), none⟩, ⟨(some 12), (.mov (.t 0)), none⟩, ⟨(some 13), (.mov (.t 5)), none⟩, ⟨(some 14), (.iadr 1 (.t 12) (.t 13)), none⟩, ⟨(some 15), (.load false 1 (.t 14)), none⟩, ⟨(some 16), (.seq false (.t 11) (.t 15)), none⟩]) (.cond (.t 16) (.seq (.reg [⟨(some 17), (.mov (.t 5)), none⟩, ⟨(some 4), (.mov (.t 17)), none⟩]) .ret) .skip)))) (.reg [⟨(some 18), (.bin .add (.t 8) (.c (.int .i64 1))), none⟩, ⟨(some 8), (.mov (.t 18)), none⟩]))))))) (.seq (.reg [⟨(some 4), (.mov (.c (.int .i64 (-1)))), none⟩]) .ret)))⟩
theorem fit_slices_Index_string_string : Fit Tryz.prog 133 Tryz.f133 mf_slices_Index_string_string := ⟨by kernel_rfl, Tryz.func133, by kernel_rfl, by kernel_rfl, by kernel_rfl, by kernel_rfl⟩
theorem sIndexStr_ct (l : Sl Str) (s : Str) : Ct Tryz.prog 133 [l.I strC, .str s] (.int .i64 (idxFrom (fun x => s == x) l.es 0)) := by
  refine ct_of_run fit_slices_Index_string_string (by simp [mf_slices_Index_string_string]) (by simp [go_sem]) fun hd => ?_
  simp -implicitDefEqProofs [-List.map_take, -List.map_drop, go_sem, mf_slices_Index_string_string]
  have hm : l.es.length ≤ maxLen := sl_deep hd.1
  refine run_iter (l.es.length) (index_L l s) (fun i a => idxFrom (fun x => s == x) (l.es.drop i) i = idxFrom (fun x => s == x) l.es 0) () (gh_auto (by simp [go_sem, index_L])) (by first | (simp; done) | (simp []; done) | (simp []; omega) | grind) ?_
  intro i a hi hj
  simp -implicitDefEqProofs [-List.map_take, -List.map_drop, go_sem, index_L]
  refine cnd_split (fun hc => ?_) (fun hc => ?_)
  · have hlt : i < l.es.length := by first | (simpa using hc) | (simp at hc; omega)
    rw [List.drop_eq_getElem_cons (l := l.es) (by omega)] at hj
    simp only [List.map_cons, idxFrom] at hj
    simp -implicitDefEqProofs [-List.map_take, -List.map_drop, go_sem, hlt]
    have hy := hlt
    have hdf := hy0
    have eL := @index_L.eq_1
    have hm0 := hm
    have hlt0 := hlt
    exact wk0n
  · have hge : l.es.length ≤ i := by first | (simpa using hc) | (simp at hc; omega)
    rw [List.drop_of_length_le (l := l.es) (by omega)] at hj
    simp only [List.map_nil, idxFrom] at hj
    try simp -implicitDefEqProofs [-List.map_take, -List.map_drop, go_sem]
    have hy := hy0
    have hdf := hy0
    exact wk0
theorem any_contains (l : List Str) (s : Str) : l.any (fun x => s == x) = l.contains s := List.contains_eq_any_beq.symm
def mf_slices_Contains_string_string : MF := ⟨9, [(.t 4)], (.seq (.reg [⟨(some 4), (.mov (.c (.bool false))), none⟩]) (.seq (.reg [⟨(some 5), (.mov (.t 0)), none⟩, ⟨(some 6), (.mov (.t 1)), none⟩, ⟨(some 7), (.call (.c (.fn 133 [])) [(.t 5), (.t 6)]), none⟩, ⟨(some 8), (.bin .geq (.t 7) (.c (.int .i64 0))), none⟩, ⟨(some 4), (.mov (.t 8)), none⟩]) .ret))⟩
theorem fit_slices_Contains_string_string : Fit Tryz.prog 73 Tryz.f73 mf_slices_Contains_string_string := ⟨by kernel_rfl, Tryz.func73, by kernel_rfl, by kernel_rfl, by kernel_rfl, by kernel_rfl⟩
theorem sContainsStr_ct (l : Sl Str) (s : Str) : Ct Tryz.prog 73 [l.I strC, .str s] (.bool (l.es.contains s)) := by
  refine ct_of_run fit_slices_Contains_string_string (by simp [mf_slices_Contains_string_string]) (by simp [go_sem]) fun hd => ?_
  simp -implicitDefEqProofs [-List.map_take, -List.map_drop, go_sem, mf_slices_Contains_string_string]
  have c1 := sIndexStr_ct l s
  have hy := hy0
  have e1 := @idxFrom_nn
  have e2 := @any_contains
  have hdf := And.intro (@e1) (@e2)
  exact wk1

def mf_impl_Expr_shape : MF := ⟨174, [(.t 2)], (.seq (.reg [⟨(some 1), (.box 48 (.t 0)), none⟩, ⟨(some 2), (.mov (.c (.bool false))), none⟩]) (.seq (.reg [⟨(some 4), (.fadr 3 (.t 1)), none⟩, ⟨(some 5), (.load false 1 (.t 4)), none⟩, ⟨(some 6), (.lenl (.t 5)), none⟩, ⟨(some 3), (.mov (.t 6)), none⟩]) (.seq (.seq (.reg [⟨(some 7), (.fadr 0 (.t 1)), none⟩, ⟨(some 8), (.load false 1 (.t 7)), none⟩, ⟨(some 9), (.bin .neq (.t 8) (.c (.int .i64 0))), none⟩, ⟨(some 10), (.mov (.t 9)), none⟩, ⟨(some 11), (.fadr 0 (.t 1)), (some (10, true))⟩, ⟨(some 12), (.load false 1 (.t 11)), (some (10, true))⟩, ⟨(some 13), (.bin .neq (.t 12) (.c (.int .i64 1))), (some (10, true))⟩, ⟨(some 14), (.pick (.t 10) (.t 13) (.c (.bool false))), none⟩, ⟨(some 15), (.mov (.t 14)), none⟩, ⟨(some 16), (.fadr 1 (.t 1)), (some (15, true))⟩, ⟨(some 17), (.load false 1 (.t 16)), (some (15, true))⟩, ⟨(some 18), (.bin .neq (.t 17) (.c (.int .i64 0))), (some (15, true))⟩, ⟨(some 19), (.pick (.t 15) (.t 18) (.c (.bool false))), none⟩]) (.cond (.t 19) (.seq (.reg [⟨(some 2), (.mov (.c (.bool false))), none⟩]) .ret) .skip)) (.seq (.seq (.reg [⟨(some 20), (.fadr 0 (.t 1)), none⟩, ⟨(some 21), (.load false 1 (.t 20)), none⟩]) (.blk 0 (.seq (.reg [⟨(some 23), (.bin .eql (.t 21) (.c (.int .i64 0))), none⟩, ⟨(some 22), (.mov (.t 23)), none⟩]) (.cond (.t 22) (.seq (.reg [⟨(some 24), (.fadr 1 (.t 1)), none⟩, ⟨(some 25), (.load false 1 (.t 24)), none⟩, ⟨(some 26), (.bin .geq (.t 25) (.c (.int .i64 0))), none⟩, ⟨(some 27), (.mov (.t 26)), none⟩, ⟨(some 28), (.fadr 1 (.t 1)), (some (27, true))⟩, ⟨(some 29), (.load false 1 (.t 28)), (some (27, true))⟩, ⟨(some 30), (.bin .leq (.t 29) (.c (.int .i64 9999))), (some (27, true))⟩, ⟨(some 31), (.pick (.t 27) (.t 30) (.c (.bool false))), none⟩, ⟨(some 32), (.mov (.t 31)), none⟩, ⟨(some 33), (.fadr 2 (.t 1)), (some (32, true))⟩, ⟨(some 34), (.load false 1 (.t 33)), (some (32, true))⟩, ⟨(some 35), (.seq false (.t 34) (.c (.str []))), (some (32, true))⟩, ⟨(some 36), (.pick (.t 32) (.t 35) (.c (.bool false))), none⟩, ⟨(some 37), (.mov (.t 36)), none⟩, ⟨(some 38), (.mov (.t 3)), (some (37, true))⟩, ⟨(some 39), (.bin .eql (.t 38) (.c (.int .i64 0))), (some (37, true))⟩, ⟨(some 40), (.pick (.t 37) (.t 39) (.c (.bool false))), none⟩, ⟨(some 2), (.mov (.t 40)), none⟩]) .ret) (.seq (.reg [⟨(some 42), (.bin .eql (.t 21) (.c (.int .i64 1))), none⟩, ⟨(some 41), (.mov (.t 42)), none⟩]) (.cond (.t 41) (.seq (.reg [⟨(some 43), (.fadr 1 (.t 1)), none⟩, ⟨(some 44), (.load false 1 (.t 43)), none⟩, ⟨(some 45), (.bin .eql (.t 44) (.c (.int .i64 0))), none⟩, ⟨(some 46), (.mov (.t 45)), none⟩, ⟨(some 47), (.fadr 1 (.t 1)), (some (46, false))⟩, ⟨(some 48), (.load false 1 (.t 47)), (some (46, false))⟩, ⟨(some 49), (.bin .eql (.t 48) (.c (.int .i64 1))), (some (46, false))⟩, ⟨(some 50), (.pick (.t 46) (.c (.bool true)) (.t 49)), none⟩, ⟨(some 51), (.mov (.t 50)), none⟩, ⟨(some 52), (.fadr 2 (.t 1)), (some (51, true))⟩, ⟨(some 53), (.load false 1 (.t 52)), (some (51, true))⟩, ⟨(some 54), (.seq false (.t 53) (.c (.str []))), (some (51, true))⟩, ⟨(some 55), (.pick (.t 51) (.t 54) (.c (.bool false))), none⟩, ⟨(some 56), (.mov (.t 55)), none⟩, ⟨(some 57), (.mov (.t 3)), (some (56, true))⟩, ⟨(some 58), (.bin .eql (.t 57) (.c (.int .i64 0))), (some (56, true))⟩, ⟨(some 59), (.pick (.t 56) (.t 58) (.c (.bool false))), none⟩, ⟨(some 2), (.mov (.t 59)), none⟩]) .ret) (.seq (.reg [⟨(some 61), (.bin .eql (.t 21) (.c (.int .i64 2))), none⟩, ⟨(some 60), (.mov (.t 61)), none⟩]) (.cond (.t 60) (.seq (.reg [⟨(some 62), (.fadr 2 (.t 1)), none⟩, ⟨(some 63), (.load false 1 (.t 62)), none⟩, ⟨(some 64), (.call (.c (.fn 148 [])) [(.t 63)]), none⟩, ⟨(some 65), (.mov (.t 64)), none⟩, ⟨(some 66), (.mov (.t 3)), (some (65, true))⟩, ⟨(some 67), (.bin .eql (.t 66) (.c (.int .i64 0))), (some (65, true))⟩, ⟨(some 68), (.pick (.t 65) (.t 67) (.c (.bool false))), none⟩, ⟨(some 2), (.mov (.t 68)), none⟩]) .ret) (.seq (.reg [⟨(some 70), (.bin .eql (.t 21) (.c (.int .i64 3))), none⟩, ⟨(some 69), (.mov (.t 70)), none⟩]) (.cond (.t 69) (.seq (.reg [⟨(some 71), (.fadr 2 (.t 1)), none⟩, ⟨(some 72), (.load false 1 (.t 71)), none⟩, ⟨(some 73), (.call (.c (.fn 71 [])) [(.t 72)]), none⟩, ⟨(some 74), (.mov (.t 73)), none⟩, ⟨(some 75), (.mov (.t 3)), (some (74, true))⟩, ⟨(some 76), (.bin .eql (.t 75) (.c (.int .i64 0))), (some (74, true))⟩, ⟨(some 77), (.pick (.t 74) (.t 76) (.c (.bool false))), none⟩, ⟨(some 2), (.mov (.t 77)), none⟩]) .ret) (.seq (.reg [⟨(some 79), (.bin .eql (.t 21) (.c (.int .i64 4))), none⟩, ⟨(some 78), (.mov (.t 79)), none⟩]) (.cond (.t 78) (.seq (.reg [⟨(some 80), (.fadr 2 (.t 1)), none⟩, ⟨(some 81), (.load false 1 (.t 80)), none⟩, ⟨(some 82), (.call (.c (.fn 71 [])) [(.t 81)]), none⟩, ⟨(some 83), (.mov (.t 82)), none⟩, ⟨(some 84), (.mov (.t 3)), (some (83, true))⟩, ⟨(some 85), (.bin .leq (.t 84) (.c (.int .i64 4))), (some (83, true))⟩, ⟨(some 86), (.pick (.t 83) (.t 85) (.c (.bool false))), none⟩, ⟨(some 2), (.mov (.t 86)), none⟩]) .ret) (.seq (.reg [⟨(some 88), (.bin .eql (.t 21) (.c (.int .i64 5))), none⟩, ⟨(some 87), (.mov (.t 88)), none⟩]) (.cond (.t 87) (.seq (.reg [⟨(some 89), (.fadr 2 (.t 1)), none⟩, ⟨(some 90), (.load false 1 (.t 89)), none⟩, ⟨(some 91), (.call (.c (.fn 71 [])) [(.t 90)]), none⟩, ⟨(some 92), (.mov (.t 91)), none⟩, ⟨(some 93), (.mov (.t 3)), (some (92, true))⟩, ⟨(some 94), (.bin .geq (.t 93) (.c (.int .i64 1))), (some (92, true))⟩, ⟨(some 95), (.pick (.t 92) (.t 94) (.c (.bool false))), none⟩, ⟨(some 96), (.mov (.t 95)), none⟩, ⟨(some 97), (.mov (.t 3)), (some (96, true))⟩, ⟨(some 98), (.bin .leq (.t 97) (.c (.int .i64 4))), (some (96, true))⟩, ⟨(some 99), (.pick (.t 96) (.t 98) (.c (.bool false))), none⟩, ⟨(some 2), (.mov (.t 99)), none⟩]) .ret) (.seq (.reg [⟨(some 101), (.bin .eql (.t 21) (.c (.int .i64 6))), none⟩, ⟨(some 100), (.mov (.t 101)), none⟩]) (.cond (.t 100) (.seq (.reg [⟨(some 102), (.fadr 2 (.t 1)), none⟩, ⟨(some 103), (.load false 1 (.t 102)), none⟩, ⟨(some 104), (.call (.c (.fn 71 [])) [(.t 103)]), none⟩, ⟨(some 105), (.mov (.t 104)), none⟩, ⟨(some 106), (.mov (.t 3)), (some (105, true))⟩, ⟨(some 107), (.bin .eql (.t 106) (.c (.int .i64 1))), (some (105, true))⟩, ⟨(some 108), (.pick (.t 105) (.t 107) (.c (.bool false))), none⟩, ⟨(some 2), (.mov (.t 108)), none⟩]) .ret) (.seq (.reg [⟨(some 110), (.bin .eql (.t 21) (.c (.int .i64 7))), none⟩, ⟨(some 109), (.mov (.t 110)), none⟩]) (.cond (.t 109) (.seq (.reg [⟨(some 111), (.fadr 2 (.t 1)), none⟩, ⟨(some 112), (.load false 1 (.t 111)), none⟩, ⟨(some 113), (.call (.c (.fn 43 [])) [(.t 112)]), none⟩, ⟨(some 114), (.mov (.t 113)), none⟩, ⟨(some 115), (.fadr 2 (.t 1)), (some (114, true))⟩, ⟨(some 116), (.load false 1 (.t 115)), (some (114, true))⟩, ⟨(some 117), (.cat (.c (.str [91])) (.t 116)), (some (114, true))⟩, ⟨(some 118), (.cat (.t 117) (.c (.str [93]))), (some (114, true))⟩, ⟨(some 119), (.call (.c (.fn 43 [])) [(.t 118)]), (some (114, true))⟩, ⟨(some 120), (.pick (.t 114) (.t 119) (.c (.bool false))), none⟩, ⟨(some 121), (.mov (.t 120)), none⟩, ⟨(some 122), (.mov (.t 3)), (some (121, true))⟩, ⟨(some 123), (.bin .leq (.t 122) (.c (.int .i64 4))), (some (121, true))⟩, ⟨(some 124), (.pick (.t 121) (.t 123) (.c (.bool false))), none⟩, ⟨(some 2), (.mov (.t 124)), none⟩]) .ret) (.seq (.seq (.reg [⟨(some 126), (.bin .eql (.t 21) (.c (.int .i64 8))), none⟩, ⟨(some 125), (.mov (.t 126)), none⟩]) (.cond (.t 125) .skip (.seq (.reg [⟨(some 127), (.bin .eql (.t 21) (.c (.int .i64 13))), none⟩, ⟨(some 125), (.mov (.t 127)), none⟩]) (.cond (.t 125) .skip (.reg [⟨(some 128), (.bin .eql (.t 21) (.c (.int .i64 15))), none⟩, ⟨(some 125), (.mov (.t 128)), none⟩]))))) (.cond (.t 125) (.seq (.reg [⟨(some 129), (.fadr 2 (.t 1)), none⟩, ⟨(some 130), (.load false 1 (.t 129)), none⟩, ⟨(some 131), (.seq false (.t 130) (.c (.str []))), none⟩, ⟨(some 132), (.mov (.t 131)), none⟩, ⟨(some 133), (.mov (.t 3)), (some (132, true))⟩, ⟨(some 134), (.bin .eql (.t 133) (.c (.int .i64 1))), (some (132, true))⟩, ⟨(some 135), (.pick (.t 132) (.t 134) (.c (.bool false))), none⟩, ⟨(some 2), (.mov (.t 135)), none⟩]) .ret) (.seq (.reg [⟨(some 137), (.bin .eql (.t 21) (.c (.int .i64 9))), none⟩, ⟨(some 136), (.mov (.t 137)), none⟩]) (.cond (.t 136) (.seq (.reg [⟨(some 138), (.mov (.t 3)), none⟩, ⟨(some 139), (.bin .eql (.t 138) (.c (.int .i64 2))), none⟩, ⟨(some 140), (.mov (.t 139)), none⟩, ⟨(some 141), (.bsl 9 1 7 [(.str [])] [(0, (.c (.str [43]))), (1, (.c (.str [45]))), (2, (.c (.str [42]))), (3, (.c (.str [60]))), (4, (.c (.str [61, 61]))), (5, (.c (.str [38]))), (6, (.c (.str [124])))]), (some (140, true))⟩, ⟨(some 142), (.fadr 2 (.t 1)), (some (140, true))⟩, ⟨(some 143), (.load false 1 (.t 142)), (some (140, true))⟩, ⟨(some 144), (.call (.c (.fn 73 [])) [(.t 141), (.t 143)]), (some (140, true))⟩, ⟨(some 145), (.pick (.t 140) (.t 144) (.c (.bool false))), none⟩, ⟨(some 2), (.mov (.t 145)), none⟩]) .ret) (.seq (.reg [⟨(some 147), (.bin .eql (.t 21) (.c (.int .i64 10))), none⟩, ⟨(some 146), (.mov (.t 147)), none⟩]) (.cond (.t 146) (.seq (.reg [⟨(some 148), (.fadr 2 (.t 1)), none⟩, ⟨(some 149), (.load false 1 (.t 148)), none⟩, ⟨(some 150), (.seq false (.t 149) (.c (.str []))), none⟩, ⟨(some 151), (.mov (.t 150)), none⟩, ⟨(some 152), (.mov (.t 3)), (some (151, true))⟩, ⟨(some 153), (.bin .eql (.t 152) (.c (.int .i64 3))), (some (151, true))⟩, ⟨(some 154), (.pick (.t 151) (.t 153) (.c (.bool false))), none⟩, ⟨(some 2), (.mov (.t 154)), none⟩]) .ret) (.seq (.seq (.reg [⟨(some 156), (.bin .eql (.t 21) (.c (.int .i64 11))), none⟩, ⟨(some 155), (.mov (.t 156)), none⟩]) (.cond (.t 155) .skip (.reg [⟨(some 157), (.bin .eql (.t 21) (.c (.int .i64 12))), none⟩, ⟨(some 155), (.mov (.t 157)), none⟩]))) (.cond (.t 155) (.seq (.reg [⟨(some 158), (.fadr 2 (.t 1)), none⟩, ⟨(some 159), (.load false 1 (.t 158)), none⟩, ⟨(some 160), (.call (.c (.fn 71 [])) [(.t 159)]), none⟩, ⟨(some 161), (.mov (.t 160)), none⟩, ⟨(some 162), (.mov (.t 3)), (some (161, true))⟩, ⟨(some 163), (.bin .eql (.t 162) (.c (.int .i64 2))), (some (161, true))⟩, ⟨(some 164), (.pick (.t 161) (.t 163) (.c (.bool false))), none⟩, ⟨(some 2), (.mov (.t 164)), none⟩]) .ret) (.seq (.reg [⟨(some 166), (.bin .eql (.t 21) (.c (.int .i64 14))), none⟩, ⟨(some 165), (.mov (.t 166)), none⟩]) (.cond (.t 165) (.seq (.reg [⟨(some 167), (.fadr 2 (.t 1)), none⟩, ⟨(some 168), (.load false 1 (.t 167)), none⟩, ⟨(some 169), (.seq false (.t 168) (.c (.str []))), none⟩, ⟨(some 170), (.mov (.t 169)), none⟩, ⟨(some 171), (.mov (.t 3)), (some (170, true))⟩, ⟨(some 172), (.bin .eql (.t 171) (.c (.int .i64 2))), (some (170, true))⟩, ⟨(some 173), (.pick (.t 170) (.t 172) (.c (.bool false))), none⟩, ⟨(some 2), (.mov (.t 173)), none⟩]) .ret) .skip)))))))))))))))))))))))))))) (.seq (.reg [⟨(some 2), (.mov (.c (.bool false))), none⟩]) .ret)))))⟩
theorem fit_impl_Expr_shape : Fit Tryz.prog 162 Tryz.f162 mf_impl_Expr_shape := ⟨by kernel_rfl, Tryz.func162, by kernel_rfl, by kernel_rfl, by kernel_rfl, by kernel_rfl⟩
theorem shape_ct (e : LExpr) (hs : e.text.length ≤ 1000000) : Ct Tryz.prog 162 [.agg e.C] (.bool (shapeOk e.kind e.num e.text e.kids.length)) := by
  have hs1 : 1 + e.text.length ≤ maxLen := by simp only [maxLen]; omega
  have hs2 : 1 + e.text.length + 1 ≤ maxLen := by simp only [maxLen]; omega
  have htl : typeOk e.text = false → typeOk ([91] ++ e.text ++ [93]) = false := fun h => Bool.eq_false_iff.2 fun h' => by rw [typeOk_list h'] at h; cases h
  refine ct_of_run fit_impl_Expr_shape (by simp [mf_impl_Expr_shape]) (by simp [go_sem]) fun hd => ?_
  simp -implicitDefEqProofs [-List.map_take, -List.map_drop, go_sem, mf_impl_Expr_shape]
  repeat' first
    | ((first | refine gv_split (fun h => ?_) (fun h => ?_) | refine cnd_split (fun h => ?_) (fun h => ?_) | refine cgv_split (fun h => ?_) (fun h => ?_)) <;> (try (have hp := h; simp at hp)) <;> simp -implicitDefEqProofs [-List.map_take, -List.map_drop, go_sem, h])
    | (refine And.intro (by first | omega | (simp only [maxLen]; omega) | (simp_all; done) | (simp_all; omega)) ?_; try simp -implicitDefEqProofs [-List.map_take, -List.map_drop, go_sem])
    | ((first | refine stp_ct (wordOk_ct _) (by simp [go_sem]) ?_ ?_ | refine cstp_ct (wordOk_ct _) (by simp [go_sem]) ?_ ?_ | refine stp_ct (nameOk_ct _) (by simp [go_sem]) ?_ ?_ | refine cstp_ct (nameOk_ct _) (by simp [go_sem]) ?_ ?_ | refine stp_ct (itypeOk_ct _) (by simp [go_sem]) ?_ ?_ | refine cstp_ct (itypeOk_ct _) (by simp [go_sem]) ?_ ?_); (simp [go_sem]); simp -implicitDefEqProofs [-List.map_take, -List.map_drop, go_sem])
    | ((first | refine cstp_snap 3 (sContainsStr_ct ⟨opsL, [], false⟩ e.text) (by simp [go_sem, snapL, snapV, snapE, snapSp, mapO, frzV, opsL]) ?_ ?_ ?_ | refine stp_snap 3 (sContainsStr_ct ⟨opsL, [], false⟩ e.text) (by simp [go_sem, snapL, snapV, snapE, snapSp, mapO, frzV, opsL]) ?_ ?_ ?_); (simp [closedV]); (simp [go_sem]); simp -implicitDefEqProofs [-List.map_take, -List.map_drop, go_sem])
    | (refine run_dreg' (by decide) ?_; simp -implicitDefEqProofs [-List.map_take, -List.map_drop, go_sem])
    | ((first | refine end_tup _ (by simp) (by simp [go_sem]; rfl) (by simp [go_sem]) ?_); first | (simp [go_sem, *, shapeOk, validText, kidsOf, mostOf, inR]; done) | grind [shapeOk, validText, kidsOf, mostOf, inR] | (simp [go_sem, shapeOk, validText, kidsOf, mostOf, inR]; grind [shapeOk, validText, kidsOf, mostOf, inR]) | (simp_all [go_sem, shapeOk, validText, kidsOf, mostOf, inR]; done) | (simp_all [go_sem, shapeOk, validText, kidsOf, mostOf, inR]; omega))

def eqF_Expr_L (x y : Sl LExpr) (g : Nat) (i : Nat) (_ : Unit) : St := ⟨lk [(1, y.I LExpr.C), (2, .fn g []), (15, x.I LExpr.C), (16, .int .i64 x.es.length), (17, .int .i64 i)], [], []⟩
def mf_slices_EqualFunc_impl_Expr_impl_Expr_impl_Expr_impl_Expr : MF := ⟨32, [(.t 6)], (.seq (.reg [⟨(some 6), (.mov (.c (.bool false))), none⟩]) (.seq (.seq (.reg [⟨(some 10), (.mov (.t 0)), none⟩, ⟨(some 11), (.lenl (.t 10)), none⟩, ⟨(some 12), (.mov (.t 1)), none⟩, ⟨(some 13), (.lenl (.t 12)), none⟩, ⟨(some 14), (.bin .neq (.t 11) (.t 13)), none⟩]) (.cond (.t 14) (.seq (.reg [⟨(some 6), (.mov (.c (.bool false))), none⟩]) .ret) .skip)) (.seq (.seq (.reg [⟨(some 15), (.mov (.t 0)), none⟩, ⟨(some 16), (.lenl (.t 15)), none⟩, ⟨(some 17), (.mov (.c (.int .i64 0))), none⟩]) (.blk 0 (.loop (.seq (.reg [⟨(some 18), (.bin .lss (.t 17) (.t 16)), none⟩]) (.seq (.cond (.t 18) .skip (.exit 0)) (.seq (.blk 1 (.seq (.reg [⟨(some 19), (.mov (.t 17)), none⟩, ⟨(some 20), (.iadr 4 (.t 15) (.t 17)), none⟩, ⟨(some 21), (.load true 4 (.t 20)), none⟩, ⟨(some 8), (.alloc 48 [(.int .i64 0), (.int .i64 0), (.str []), (.imm [] [] true)]), none⟩, ⟨(some 7), (.mov (.t 19)), none⟩, ⟨none, (.store 4 (.t 8) (.t 21)), none⟩]) (.seq (.reg [⟨(some 22), (.mov (.t 1)), none⟩, ⟨(some 23), (.mov (.t 7)), none⟩, ⟨(some 24), (.iadr 4 (.t 22) (.t 23)), none⟩, ⟨(some 25), (.load true 4 (.t 24)), none⟩, ⟨(some 9), (.alloc 48 [(.int .i64 0), (.int .i64 0), (.str []), (.imm [] [] true)]), none⟩, ⟨none, (.store 4 (.t 9) (.t 25)), none⟩]) (.seq (.reg [⟨(some 26), (.mov (.t 2)), none⟩, ⟨(some 27), (.load true 4 (.t 8)), none⟩, ⟨(some 28), (.load true 4 (.t 9)), none⟩, ⟨(some 29), (.call (.t 26) [(.t 27), (.t 28)]), none⟩, ⟨(some 30), (.not (.t 29)), none⟩]) (.cond (.t 30) (.seq (.reg [⟨(some 6), (.mov (.c (.bool false))), none⟩]) .ret) .skip))))) (.reg [⟨(some 31), (.bin .add (.t 17) (.c (.int .i64 1))), none⟩, ⟨(some 17), (.mov (.t 31)), none⟩]))))))) (.seq (.reg [⟨(some 6), (.mov (.c (.bool true))), none⟩]) .ret))))⟩
theorem fit_slices_EqualFunc_impl_Expr_impl_Expr_impl_Expr_impl_Expr : Fit Tryz.prog 178 Tryz.f178 mf_slices_EqualFunc_impl_Expr_impl_Expr_impl_Expr_impl_Expr := ⟨by kernel_rfl, Tryz.func178, by kernel_rfl, by kernel_rfl, by kernel_rfl, by kernel_rfl⟩
theorem eqF_Expr_ct (x y : Sl LExpr) (g : Nat) (p : LExpr → LExpr → Bool) (hg : ∀ a, a ∈ x.es → ∀ b, Ct Tryz.prog g ([.agg a.C, .agg b.C] ++ []) (.bool (p a b))) : Ct Tryz.prog 178 [x.I LExpr.C, y.I LExpr.C, .fn g []] (.bool (all2 p x.es y.es)) := by
  refine ct_of_run fit_slices_EqualFunc_impl_Expr_impl_Expr_impl_Expr_impl_Expr (by simp [mf_slices_EqualFunc_impl_Expr_impl_Expr_impl_Expr_impl_Expr]) (by simp [go_sem]) fun hd => ?_
  simp -implicitDefEqProofs [-List.map_take, -List.map_drop, go_sem, mf_slices_EqualFunc_impl_Expr_impl_Expr_impl_Expr_impl_Expr]
  have hm : x.es.length ≤ maxLen := sl_deep hd.1
  have hne := all2_ne p x.es y.es
  repeat' first
    | ((first | refine gv_split (fun h => ?_) (fun h => ?_) | refine cnd_split (fun h => ?_) (fun h => ?_) | refine cgv_split (fun h => ?_) (fun h => ?_)) <;> (try (have hp := h; simp at hp)) <;> simp -implicitDefEqProofs [-List.map_take, -List.map_drop, go_sem, h])
    | (refine And.intro (by first | omega | (simp only [maxLen]; omega) | (simp_all; done) | (simp_all; omega)) ?_; try simp -implicitDefEqProofs [-List.map_take, -List.map_drop, go_sem])
    | (refine run_dreg' (by decide) ?_; simp -implicitDefEqProofs [-List.map_take, -List.map_drop, go_sem])
    | ((first | refine end_tup _ (by simp) (by simp [go_sem]; rfl) (by simp [go_sem]) ?_); first | (simp [go_sem, *]; done) | grind | (simp [go_sem]; grind) | (simp_all [go_sem]; done) | (simp_all [go_sem]; omega))
  have hlen : x.es.length = y.es.length := by omega
  refine run_iter (x.es.length) (eqF_Expr_L x y g) (fun i a => all2 p (x.es.drop i) (y.es.drop i) = all2 p x.es y.es) () (gh_auto (by simp [go_sem, eqF_Expr_L])) (by first | (simp; done) | (simp []; done) | (simp []; omega) | grind) ?_
  intro i a hi hj
  simp -implicitDefEqProofs [-List.map_take, -List.map_drop, go_sem, eqF_Expr_L]
  refine cnd_split (fun hc => ?_) (fun hc => ?_)
  · have hlt : i < x.es.length := by first | (simpa using hc) | (simp at hc; omega)
    rw [List.drop_eq_getElem_cons (l := x.es) (by omega)] at hj
    have hlt_1 : i < y.es.length := by omega
    rw [List.drop_eq_getElem_cons (l := y.es) (by omega)] at hj
    simp only [List.map_cons, all2] at hj
    simp -implicitDefEqProofs [-List.map_take, -List.map_drop, go_sem, hlt, hlt_1]
    have c1 := hg x.es[i] (List.getElem_mem hlt) y.es[i]
    have hy := And.intro (hlt) (hlt_1)
    have hdf := hy0
    have eL := @eqF_Expr_L.eq_1
    have hm0 := hm
    have hlt0 := hlt
    exact wk1n
  · have hge : x.es.length ≤ i := by first | (simpa using hc) | (simp at hc; omega)
    rw [List.drop_of_length_le (l := x.es) (by omega)] at hj
    rw [List.drop_of_length_le (l := y.es) (by omega)] at hj
    simp only [List.map_nil, all2] at hj
    try simp -implicitDefEqProofs [-List.map_take, -List.map_drop, go_sem]
    have hy := hy0
    have hdf := hy0
    exact wk0
theorem all2_same : ∀ (xs ys : List LExpr), all2 (fun a b => Expr.same a.core b.core) xs ys = Expr.sames (xs.map LExpr.core) (ys.map LExpr.core)
  | [], [] => rfl
  | [], _ :: _ => rfl
  | _ :: _, [] => rfl
  | x :: xs, y :: ys => by simp [all2, Expr.sames, all2_same xs ys]
def mf_impl_Expr_same : MF := ⟨31, [(.t 4)], (.seq (.reg [⟨(some 2), (.box 48 (.t 0)), none⟩, ⟨(some 3), (.box 48 (.t 1)), none⟩, ⟨(some 4), (.mov (.c (.bool false))), none⟩]) (.seq (.reg [⟨(some 5), (.fadr 0 (.t 2)), none⟩, ⟨(some 6), (.load false 1 (.t 5)), none⟩, ⟨(some 7), (.fadr 0 (.t 3)), none⟩, ⟨(some 8), (.load false 1 (.t 7)), none⟩, ⟨(some 9), (.bin .eql (.t 6) (.t 8)), none⟩, ⟨(some 10), (.mov (.t 9)), none⟩, ⟨(some 11), (.fadr 1 (.t 2)), (some (10, true))⟩, ⟨(some 12), (.load false 1 (.t 11)), (some (10, true))⟩, ⟨(some 13), (.fadr 1 (.t 3)), (some (10, true))⟩, ⟨(some 14), (.load false 1 (.t 13)), (some (10, true))⟩, ⟨(some 15), (.bin .eql (.t 12) (.t 14)), (some (10, true))⟩, ⟨(some 16), (.pick (.t 10) (.t 15) (.c (.bool false))), none⟩, ⟨(some 17), (.mov (.t 16)), none⟩, ⟨(some 18), (.fadr 2 (.t 2)), (some (17, true))⟩, ⟨(some 19), (.load false 1 (.t 18)), (some (17, true))⟩, ⟨(some 20), (.fadr 2 (.t 3)), (some (17, true))⟩, ⟨(some 21), (.load false 1 (.t 20)), (some (17, true))⟩, ⟨(some 22), (.seq false (.t 19) (.t 21)), (some (17, true))⟩, ⟨(some 23), (.pick (.t 17) (.t 22) (.c (.bool false))), none⟩, ⟨(some 24), (.mov (.t 23)), none⟩, ⟨(some 25), (.fadr 3 (.t 2)), (some (24, true))⟩, ⟨(some 26), (.load false 1 (.t 25)), (some (24, true))⟩, ⟨(some 27), (.fadr 3 (.t 3)), (some (24, true))⟩, ⟨(some 28), (.load false 1 (.t 27)), (some (24, true))⟩, ⟨(some 29), (.call (.c (.fn 178 [])) [(.t 26), (.t 28), (.c (.fn 137 []))]), (some (24, true))⟩, ⟨(some 30), (.pick (.t 24) (.t 29) (.c (.bool false))), none⟩, ⟨(some 4), (.mov (.t 30)), none⟩]) .ret))⟩
theorem fit_impl_Expr_same : Fit Tryz.prog 137 Tryz.f137 mf_impl_Expr_same := ⟨by kernel_rfl, Tryz.func137, by kernel_rfl, by kernel_rfl, by kernel_rfl, by kernel_rfl⟩
theorem isame_ct (x y : LExpr) : Ct Tryz.prog 137 [.agg x.C, .agg y.C] (.bool (Expr.same x.core y.core)) := by
  have h1 := Expr.same_eq x.core y.core
  rw [LExpr.core_kind, LExpr.core_num, LExpr.core_text, LExpr.core_kids, LExpr.core_kind, LExpr.core_num, LExpr.core_text, LExpr.core_kids, ← all2_same] at h1
  have h2 := eqF_Expr_ct ⟨x.kids, x.sp, x.lim⟩ ⟨y.kids, y.sp, y.lim⟩ 137 (fun a b => Expr.same a.core b.core) fun a ha b => isame_ct a b
  rw [h1]
  clear h1
  refine ct_of_run fit_impl_Expr_same (by simp [mf_impl_Expr_same]) (by simp [go_sem]) fun hd => ?_
  simp -implicitDefEqProofs [-List.map_take, -List.map_drop, go_sem, mf_impl_Expr_same]
  have c1 := h2
  have hy := hy0
  have hdf := hy0
  exact wk1
termination_by SizeOf.sizeOf x
decreasing_by exact LExpr.kid_lt ha
def eqF_Module_L (x y : Sl LModule) (g : Nat) (i : Nat) (_ : Unit) : St := ⟨lk [(1, y.I LModule.C), (2, .fn g []), (15, x.I LModule.C), (16, .int .i64 x.es.length), (17, .int .i64 i)], [], []⟩
def mf_slices_EqualFunc_impl_Module_impl_Module_impl_Module_impl_Module : MF := ⟨32, [(.t 6)], (.seq (.reg [⟨(some 6), (.mov (.c (.bool false))), none⟩]) (.seq (.seq (.reg [⟨(some 10), (.mov (.t 0)), none⟩, ⟨(some 11), (.lenl (.t 10)), none⟩, ⟨(some 12), (.mov (.t 1)), none⟩, ⟨(some 13), (.lenl (.t 12)), none⟩, ⟨(some 14), (.bin .neq (.t 11) (.t 13)), none⟩]) (.cond (.t 14) (.seq (.reg [⟨(some 6), (.mov (.c (.bool false))), none⟩]) .ret) .skip)) (.seq (.seq (.reg [⟨(some 15), (.mov (.t 0)), none⟩, ⟨(some 16), (.lenl (.t 15)), none⟩, ⟨(some 17), (.mov (.c (.int .i64 0))), none⟩]) (.blk 0 (.loop (.seq (.reg [⟨(some 18), (.bin .lss (.t 17) (.t 16)), none⟩]) (.seq (.cond (.t 18) .skip (.exit 0)) (.seq (.blk 1 (.seq (.reg [⟨(some 19), (.mov (.t 17)), none⟩, ⟨(some 20), (.iadr 3 (.t 15) (.t 17)), none⟩, ⟨(some 21), (.load true 3 (.t 20)), none⟩, ⟨(some 8), (.alloc 61 [(.str []), (.imm [] [] true), (.imm [] [] true)]), none⟩, ⟨(some 7), (.mov (.t 19)), none⟩, ⟨none, (.store 3 (.t 8) (.t 21)), none⟩]) (.seq (.reg [⟨(some 22), (.mov (.t 1)), none⟩, ⟨(some 23), (.mov (.t 7)), none⟩, ⟨(some 24), (.iadr 3 (.t 22) (.t 23)), none⟩, ⟨(some 25), (.load true 3 (.t 24)), none⟩, ⟨(some 9), (.alloc 61 [(.str []), (.imm [] [] true), (.imm [] [] true)]), none⟩, ⟨none, (.store 3 (.t 9) (.t 25)), none⟩]) (.seq (.reg [⟨(some 26), (.mov (.t 2)), none⟩, ⟨(some 27), (.load true 3 (.t 8)), none⟩, ⟨(some 28), (.load true 3 (.t 9)), none⟩, ⟨(some 29), (.call (.t 26) [(.t 27), (.t 28)]), none⟩, ⟨(some 30), (.not (.t 29)), none⟩]) (.cond (.t 30) (.seq (.reg [⟨(some 6), (.mov (.c (.bool false))), none⟩]) .ret) .skip))))) (.reg [⟨(some 31), (.bin .add (.t 17) (.c (.int .i64 1))), none⟩, ⟨(some 17), (.mov (.t 31)), none⟩]))))))) (.seq (.reg [⟨(some 6), (.mov (.c (.bool true))), none⟩]) .ret))))⟩
theorem fit_slices_EqualFunc_impl_Module_impl_Module_impl_Module_impl_Module : Fit Tryz.prog 75 Tryz.f75 mf_slices_EqualFunc_impl_Module_impl_Module_impl_Module_impl_Module := ⟨by kernel_rfl, Tryz.func75, by kernel_rfl, by kernel_rfl, by kernel_rfl, by kernel_rfl⟩
theorem eqF_Module_ct (x y : Sl LModule) (g : Nat) (p : LModule → LModule → Bool) (hg : ∀ a, a ∈ x.es → ∀ b, Ct Tryz.prog g ([.agg a.C, .agg b.C] ++ []) (.bool (p a b))) : Ct Tryz.prog 75 [x.I LModule.C, y.I LModule.C, .fn g []] (.bool (all2 p x.es y.es)) := by
  refine ct_of_run fit_slices_EqualFunc_impl_Module_impl_Module_impl_Module_impl_Module (by simp [mf_slices_EqualFunc_impl_Module_impl_Module_impl_Module_impl_Module]) (by simp [go_sem]) fun hd => ?_
  simp -implicitDefEqProofs [-List.map_take, -List.map_drop, go_sem, mf_slices_EqualFunc_impl_Module_impl_Module_impl_Module_impl_Module]
  have hm : x.es.length ≤ maxLen := sl_deep hd.1
  have hne := all2_ne p x.es y.es
  repeat' first
    | ((first | refine gv_split (fun h => ?_) (fun h => ?_) | refine cnd_split (fun h => ?_) (fun h => ?_) | refine cgv_split (fun h => ?_) (fun h => ?_)) <;> (try (have hp := h; simp at hp)) <;> simp -implicitDefEqProofs [-List.map_take, -List.map_drop, go_sem, h])
    | (refine And.intro (by first | omega | (simp only [maxLen]; omega) | (simp_all; done) | (simp_all; omega)) ?_; try simp -implicitDefEqProofs [-List.map_take, -List.map_drop, go_sem])
    | (refine run_dreg' (by decide) ?_; simp -implicitDefEqProofs [-List.map_take, -List.map_drop, go_sem])
    | ((first | refine end_tup _ (by simp) (by simp [go_sem]; rfl) (by simp [go_sem]) ?_); first | (simp [go_sem, *]; done) | grind | (simp [go_sem]; grind) | (simp_all [go_sem]; done) | (simp_all [go_sem]; omega))
  have hlen : x.es.length = y.es.length := by omega
  refine run_iter (x.es.length) (eqF_Module_L x y g) (fun i a => all2 p (x.es.drop i) (y.es.drop i) = all2 p x.es y.es) () (gh_auto (by simp [go_sem, eqF_Module_L])) (by first | (simp; done) | (simp []; done) | (simp []; omega) | grind) ?_
  intro i a hi hj
  simp -implicitDefEqProofs [-List.map_take, -List.map_drop, go_sem, eqF_Module_L]
  refine cnd_split (fun hc => ?_) (fun hc => ?_)
  · have hlt : i < x.es.length := by first | (simpa using hc) | (simp at hc; omega)
    rw [List.drop_eq_getElem_cons (l := x.es) (by omega)] at hj
    have hlt_1 : i < y.es.length := by omega
    rw [List.drop_eq_getElem_cons (l := y.es) (by omega)] at hj
    simp only [List.map_cons, all2] at hj
    simp -implicitDefEqProofs [-List.map_take, -List.map_drop, go_sem, hlt, hlt_1]
    have c1 := hg x.es[i] (List.getElem_mem hlt) y.es[i]
    have hy := And.intro (hlt) (hlt_1)
    have hdf := hy0
    have eL := @eqF_Module_L.eq_1
    have hm0 := hm
    have hlt0 := hlt
    exact wk1n
  · have hge : x.es.length ≤ i := by first | (simpa using hc) | (simp at hc; omega)
    rw [List.drop_of_length_le (l := x.es) (by omega)] at hj
    rw [List.drop_of_length_le (l := y.es) (by omega)] at hj
    simp only [List.map_nil, all2] at hj
    try simp -implicitDefEqProofs [-List.map_take, -List.map_drop, go_sem]
    have hy := hy0
    have hdf := hy0
    exact wk0
def eqF_Decl_L (x y : Sl LDecl) (g : Nat) (i : Nat) (_ : Unit) : St := ⟨lk [(1, y.I LDecl.C), (2, .fn g []), (15, x.I LDecl.C), (16, .int .i64 x.es.length), (17, .int .i64 i)], [], []⟩
def equal_Use_L (x y : Sl Use) (i : Nat) (_ : Unit) : St := ⟨lk [(0, x.I Use.C), (1, y.I Use.C), (12, .int .i64 x.es.length), (13, .int .i64 i)], [], []⟩
def equal_Bind_L (x y : Sl Bind) (i : Nat) (_ : Unit) : St := ⟨lk [(0, x.I Bind.C), (1, y.I Bind.C), (12, .int .i64 x.es.length), (13, .int .i64 i)], [], []⟩
def mf_slices_Equal_impl_Bind_impl_Bind : MF := ⟨26, [(.t 4)], (.seq (.reg [⟨(some 4), (.mov (.c (.bool false))), none⟩]) (.seq (.seq (.reg [⟨(some 6), (.mov (.t 0)), none⟩, ⟨(some 7), (.lenl (.t 6)), none⟩, ⟨(some 8), (.mov (.t 1)), none⟩, ⟨(some 9), (.lenl (.t 8)), none⟩, ⟨(some 10), (.bin .neq (.t 7) (.t 9)), none⟩]) (.cond (.t 10) (.seq (.reg [⟨(some 4), (.mov (.c (.bool false))), none⟩]) .ret) .skip)) (.seq (.seq (.reg [⟨(some 11), (.mov (.t 0)), none⟩, ⟨(some 12), (.lenl (.t 11)), none⟩, ⟨(some 13), (.mov (.c (.int .i64 0))), none⟩]) (.blk 0 (.loop (.seq (.reg [⟨(some 14), (.bin .lss (.t 13) (.t 12)), none⟩]) (.seq (.cond (.t 14) .skip (.exit 0)) (.seq (.blk 1 (.seq (.reg [⟨(some 15), (.mov (.t 13)), none⟩, ⟨(some 5), (.mov (.t 15)), none⟩]) (.seq (.dreg [(⟨(some 16), (.mov (.t 0)), none⟩, []), (⟨(some 17), (.mov (.t 5)), none⟩, []), (⟨(some 18), (.iadr 2 (.t 16) (.t 17)), none⟩, [0, 1]), (⟨(some 19), (.load true 2 (.t 18)), none⟩, [2]), (⟨(some 20), (.mov (.t 1)), none⟩, []), (⟨(some 21), (.mov (.t 5)), none⟩, []), (⟨(some 22), (.iadr 2 (.t 20) (.t 21)), none⟩, [4, 5]), (⟨(some 23), (.load true 2 (.t 22)), none⟩, [6]), (⟨(some 24), (.eqa true [.s, .s] (.t 19) (.t 23)), none⟩, [3, 7])]) (.cond (.t 24) (.seq (.reg [⟨(some 4), (.mov (.c (.bool false))), none⟩]) .ret) .skip)))) (.reg [⟨(some 25), (.bin .add (.t 13) (.c (.int .i64 1))), none⟩, ⟨(some 13), (.mov (.t 25)), none⟩]))))))) (.seq (.reg [⟨(some 4), (.mov (.c (.bool true))), none⟩]) .ret))))⟩
theorem fit_slices_Equal_impl_Bind_impl_Bind : Fit Tryz.prog 139 Tryz.f139 mf_slices_Equal_impl_Bind_impl_Bind := ⟨by kernel_rfl, Tryz.func139, by kernel_rfl, by kernel_rfl, by kernel_rfl, by kernel_rfl⟩
theorem equal_Bind_ct (x y : Sl Bind) : Ct Tryz.prog 139 [x.I Bind.C, y.I Bind.C] (.bool (all2 (· == ·) x.es y.es)) := by
  refine ct_of_run fit_slices_Equal_impl_Bind_impl_Bind (by simp [mf_slices_Equal_impl_Bind_impl_Bind]) (by simp [go_sem]) fun hd => ?_
  simp -implicitDefEqProofs [-List.map_take, -List.map_drop, go_sem, mf_slices_Equal_impl_Bind_impl_Bind]
  have hm : x.es.length ≤ maxLen := sl_deep hd.1
  have hne := all2_ne (· == ·) x.es y.es
  repeat' first
    | ((first | refine gv_split (fun h => ?_) (fun h => ?_) | refine cnd_split (fun h => ?_) (fun h => ?_) | refine cgv_split (fun h => ?_) (fun h => ?_)) <;> (try (have hp := h; simp at hp)) <;> simp -implicitDefEqProofs [-List.map_take, -List.map_drop, go_sem, h])
    | (refine And.intro (by first | omega | (simp only [maxLen]; omega) | (simp_all; done) | (simp_all; omega)) ?_; try simp -implicitDefEqProofs [-List.map_take, -List.map_drop, go_sem])
    | (refine run_dreg' (by decide) ?_; simp -implicitDefEqProofs [-List.map_take, -List.map_drop, go_sem])
    | ((first | refine end_tup _ (by simp) (by simp [go_sem]; rfl) (by simp [go_sem]) ?_); first | (simp [go_sem, *]; done) | grind | (simp [go_sem]; grind) | (simp_all [go_sem]; done) | (simp_all [go_sem]; omega))
  have hlen : x.es.length = y.es.length := by omega
  refine run_iter (x.es.length) (equal_Bind_L x y) (fun i a => all2 (· == ·) (x.es.drop i) (y.es.drop i) = all2 (· == ·) x.es y.es) () (gh_auto (by simp [go_sem, equal_Bind_L])) (by first | (simp; done) | (simp []; done) | (simp []; omega) | grind) ?_
  intro i a hi hj
  simp -implicitDefEqProofs [-List.map_take, -List.map_drop, go_sem, equal_Bind_L]
  refine cnd_split (fun hc => ?_) (fun hc => ?_)
  · have hlt : i < x.es.length := by first | (simpa using hc) | (simp at hc; omega)
    rw [List.drop_eq_getElem_cons (l := x.es) (by omega)] at hj
    have hlt_1 : i < y.es.length := by omega
    rw [List.drop_eq_getElem_cons (l := y.es) (by omega)] at hj
    simp only [List.map_cons, all2] at hj
    simp -implicitDefEqProofs [-List.map_take, -List.map_drop, go_sem, hlt, hlt_1]
    have hy := And.intro (hlt) (hlt_1)
    have hdf := hy0
    have eL := @equal_Bind_L.eq_1
    have hm0 := hm
    have hlt0 := hlt
    exact wk0n
  · have hge : x.es.length ≤ i := by first | (simpa using hc) | (simp at hc; omega)
    rw [List.drop_of_length_le (l := x.es) (by omega)] at hj
    rw [List.drop_of_length_le (l := y.es) (by omega)] at hj
    simp only [List.map_nil, all2] at hj
    try simp -implicitDefEqProofs [-List.map_take, -List.map_drop, go_sem]
    have hy := hy0
    have hdf := hy0
    exact wk0
def idxF_Module_L (x : Sl LModule) (g : Nat) (cs : List PV) (i : Nat) (_ : Unit) : St := ⟨lk [(0, x.I LModule.C), (1, .fn g cs), (7, .int .i64 x.es.length), (8, .int .i64 i)], [], []⟩
def mf_slices_IndexFunc_impl_Module_impl_Module : MF := ⟨19, [(.t 4)], (.seq (.reg [⟨(some 4), (.mov (.c (.int .i64 0))), none⟩]) (.seq (.seq (.reg [⟨(some 6), (.mov (.t 0)), none⟩, ⟨(some 7), (.lenl (.t 6)), none⟩, ⟨(some 8), (.mov (.c (.int .i64 0))), none⟩]) (.blk 0 (.loop (.seq (.reg [⟨(some 9), (.bin .lss (.t 8) (.t 7)), none⟩]) (.seq (.cond (.t 9) .skip (.exit 0)) (.seq (.blk 1 (.seq (.reg [⟨(some 10), (.mov (.t 8)), none⟩, ⟨(some 5), (.mov (.t 10)), none⟩]) (.seq (.reg [⟨(some 11), (.mov (.t 1)), none⟩, ⟨(some 12), (.mov (.t 0)), none⟩, ⟨(some 13), (.mov (.t 5)), none⟩, ⟨(some 14), (.iadr 3 (.t 12) (.t 13)), none⟩, ⟨(some 15), (.load true 3 (.t 14)), none⟩, ⟨(some 16), (.call (.t 11) [(.t 15)]), none⟩]) (.cond (.t 16) (.seq (.reg [⟨(some 17), (.mov (.t 5)), none⟩, ⟨(some 4), (.mov (.t 17)), none⟩]) .ret) .skip)))) (.reg [⟨(some 18), (.bin .add (.t 8) (.c (.int .i64 1))), none⟩, ⟨(some 8), (.mov (.t 18)), none⟩]))))))) (.seq (.reg [⟨(some 4), (.mov (.c (.int .i64 (-1)))), none⟩]) .ret)))⟩
theorem fit_slices_IndexFunc_impl_Module_impl_Module : Fit Tryz.prog 107 Tryz.f107 mf_slices_IndexFunc_impl_Module_impl_Module := ⟨by kernel_rfl, Tryz.func107, by kernel_rfl, by kernel_rfl, by kernel_rfl, by kernel_rfl⟩
theorem idxF_Module_ct (x : Sl LModule) (g : Nat) (cs : List PV) (hcs : pureL cs = true) (p : LModule → Bool) (hg : ∀ a, a ∈ x.es → Ct Tryz.prog g ([.agg a.C] ++ cs) (.bool (p a))) : Ct Tryz.prog 107 [x.I LModule.C, .fn g cs] (.int .i64 (idxFrom p x.es 0)) := by
  have hw1 : noOwnL cs = true := pureL_noOwn cs hcs
  have hw2 : ∀ m, bdL m cs = true := fun m => bdL_pure cs hcs
  refine ct_of_run fit_slices_IndexFunc_impl_Module_impl_Module (by simp [mf_slices_IndexFunc_impl_Module_impl_Module]) (by simp [go_sem, hw1]) fun hd => ?_
  simp -implicitDefEqProofs [-List.map_take, -List.map_drop, go_sem, mf_slices_IndexFunc_impl_Module_impl_Module]
  have hm : x.es.length ≤ maxLen := sl_deep hd.1
  refine run_iter (x.es.length) (idxF_Module_L x g cs) (fun i a => idxFrom p (x.es.drop i) i = idxFrom p x.es 0) () (gh_auto (by simp [go_sem, idxF_Module_L, hw2, hcs])) (by first | (simp; done) | (simp []; done) | (simp []; omega) | grind) ?_
  intro i a hi hj
  simp -implicitDefEqProofs [-List.map_take, -List.map_drop, go_sem, idxF_Module_L, hw2, hcs]
  refine cnd_split (fun hc => ?_) (fun hc => ?_)
  · have hlt : i < x.es.length := by first | (simpa using hc) | (simp at hc; omega)
    rw [List.drop_eq_getElem_cons (l := x.es) (by omega)] at hj
    simp only [List.map_cons, idxFrom] at hj
    simp -implicitDefEqProofs [-List.map_take, -List.map_drop, go_sem, hlt, hw2, hcs]
    have c1 := hg x.es[i] (List.getElem_mem hlt)
    have hy := And.intro (hlt) (And.intro (hw2) (hcs))
    have hdf := hy0
    have eL := @idxF_Module_L.eq_1
    have hm0 := hm
    have hlt0 := hlt
    exact wk1n
  · have hge : x.es.length ≤ i := by first | (simpa using hc) | (simp at hc; omega)
    rw [List.drop_of_length_le (l := x.es) (by omega)] at hj
    simp only [List.map_nil, idxFrom] at hj
    try simp -implicitDefEqProofs [-List.map_take, -List.map_drop, go_sem, hw2, hcs]
    have hy := And.intro (hw2) (hcs)
    have hdf := hy0
    exact wk0
def idxF_Decl_L (x : Sl LDecl) (g : Nat) (cs : List PV) (i : Nat) (_ : Unit) : St := ⟨lk [(0, x.I LDecl.C), (1, .fn g cs), (7, .int .i64 x.es.length), (8, .int .i64 i)], [], []⟩
def mf_slices_IndexFunc_impl_Decl_impl_Decl : MF := ⟨19, [(.t 4)], (.seq (.reg [⟨(some 4), (.mov (.c (.int .i64 0))), none⟩]) (.seq (.seq (.reg [⟨(some 6), (.mov (.t 0)), none⟩, ⟨(some 7), (.lenl (.t 6)), none⟩, ⟨(some 8), (.mov (.c (.int .i64 0))), none⟩]) (.blk 0 (.loop (.seq (.reg [⟨(some 9), (.bin .lss (.t 8) (.t 7)), none⟩]) (.seq (.cond (.t 9) .skip (.exit 0)) (.seq (.blk 1 (.seq (.reg [⟨(some 10), (.mov (.t 8)), none⟩, ⟨(some 5), (.mov (.t 10)), none⟩]) (.seq (.reg [⟨(some 11), (.mov (.t 1)), none⟩, ⟨(some 12), (.mov (.t 0)), none⟩, ⟨(some 13), (.mov (.t 5)), none⟩, ⟨(some 14), (.iadr 8 (.t 12) (.t 13)), none⟩, ⟨(some 15), (.load true 8 (.t 14)), none⟩, ⟨(some 16), (.call (.t 11) [(.t 15)]), none⟩]) (.cond (.t 16) (.seq (.reg [⟨(some 17), (.mov (.t 5)), none⟩, ⟨(some 4), (.mov (.t 17)), none⟩]) .ret) .skip)))) (.reg [⟨(some 18), (.bin .add (.t 8) (.c (.int .i64 1))), none⟩, ⟨(some 8), (.mov (.t 18)), none⟩]))))))) (.seq (.reg [⟨(some 4), (.mov (.c (.int .i64 (-1)))), none⟩]) .ret)))⟩
theorem fit_slices_IndexFunc_impl_Decl_impl_Decl : Fit Tryz.prog 131 Tryz.f131 mf_slices_IndexFunc_impl_Decl_impl_Decl := ⟨by kernel_rfl, Tryz.func131, by kernel_rfl, by kernel_rfl, by kernel_rfl, by kernel_rfl⟩
theorem idxF_Decl_ct (x : Sl LDecl) (g : Nat) (cs : List PV) (hcs : pureL cs = true) (p : LDecl → Bool) (hg : ∀ a, a ∈ x.es → Ct Tryz.prog g ([.agg a.C] ++ cs) (.bool (p a))) : Ct Tryz.prog 131 [x.I LDecl.C, .fn g cs] (.int .i64 (idxFrom p x.es 0)) := by
  have hw1 : noOwnL cs = true := pureL_noOwn cs hcs
  have hw2 : ∀ m, bdL m cs = true := fun m => bdL_pure cs hcs
  refine ct_of_run fit_slices_IndexFunc_impl_Decl_impl_Decl (by simp [mf_slices_IndexFunc_impl_Decl_impl_Decl]) (by simp [go_sem, hw1]) fun hd => ?_
  simp -implicitDefEqProofs [-List.map_take, -List.map_drop, go_sem, mf_slices_IndexFunc_impl_Decl_impl_Decl]
  have hm : x.es.length ≤ maxLen := sl_deep hd.1
  refine run_iter (x.es.length) (idxF_Decl_L x g cs) (fun i a => idxFrom p (x.es.drop i) i = idxFrom p x.es 0) () (gh_auto (by simp [go_sem, idxF_Decl_L, hw2, hcs])) (by first | (simp; done) | (simp []; done) | (simp []; omega) | grind) ?_
  intro i a hi hj
  simp -implicitDefEqProofs [-List.map_take, -List.map_drop, go_sem, idxF_Decl_L, hw2, hcs]
  refine cnd_split (fun hc => ?_) (fun hc => ?_)
  · have hlt : i < x.es.length := by first | (simpa using hc) | (simp at hc; omega)
    rw [List.drop_eq_getElem_cons (l := x.es) (by omega)] at hj
    simp only [List.map_cons, idxFrom] at hj
    simp -implicitDefEqProofs [-List.map_take, -List.map_drop, go_sem, hlt, hw2, hcs]
    have c1 := hg x.es[i] (List.getElem_mem hlt)
    have hy := And.intro (hlt) (And.intro (hw2) (hcs))
    have hdf := hy0
    have eL := @idxF_Decl_L.eq_1
    have hm0 := hm
    have hlt0 := hlt
    exact wk1n
  · have hge : x.es.length ≤ i := by first | (simpa using hc) | (simp at hc; omega)
    rw [List.drop_of_length_le (l := x.es) (by omega)] at hj
    simp only [List.map_nil, idxFrom] at hj
    try simp -implicitDefEqProofs [-List.map_take, -List.map_drop, go_sem, hw2, hcs]
    have hy := And.intro (hw2) (hcs)
    have hdf := hy0
    exact wk0
def idxF_Use_L (x : Sl Use) (g : Nat) (cs : List PV) (i : Nat) (_ : Unit) : St := ⟨lk [(0, x.I Use.C), (1, .fn g cs), (7, .int .i64 x.es.length), (8, .int .i64 i)], [], []⟩
def mf_slices_IndexFunc_impl_Use_impl_Use : MF := ⟨19, [(.t 4)], (.seq (.reg [⟨(some 4), (.mov (.c (.int .i64 0))), none⟩]) (.seq (.seq (.reg [⟨(some 6), (.mov (.t 0)), none⟩, ⟨(some 7), (.lenl (.t 6)), none⟩, ⟨(some 8), (.mov (.c (.int .i64 0))), none⟩]) (.blk 0 (.loop (.seq (.reg [⟨(some 9), (.bin .lss (.t 8) (.t 7)), none⟩]) (.seq (.cond (.t 9) .skip (.exit 0)) (.seq (.blk 1 (.seq (.reg [⟨(some 10), (.mov (.t 8)), none⟩, ⟨(some 5), (.mov (.t 10)), none⟩]) (.seq (.reg [⟨(some 11), (.mov (.t 1)), none⟩, ⟨(some 12), (.mov (.t 0)), none⟩, ⟨(some 13), (.mov (.t 5)), none⟩, ⟨(some 14), (.iadr 2 (.t 12) (.t 13)), none⟩, ⟨(some 15), (.load true 2 (.t 14)), none⟩, ⟨(some 16), (.call (.t 11) [(.t 15)]), none⟩]) (.cond (.t 16) (.seq (.reg [⟨(some 17), (.mov (.t 5)), none⟩, ⟨(some 4), (.mov (.t 17)), none⟩]) .ret) .skip)))) (.reg [⟨(some 18), (.bin .add (.t 8) (.c (.int .i64 1))), none⟩, ⟨(some 8), (.mov (.t 18)), none⟩]))))))) (.seq (.reg [⟨(some 4), (.mov (.c (.int .i64 (-1)))), none⟩]) .ret)))⟩
theorem fit_slices_IndexFunc_impl_Use_impl_Use : Fit Tryz.prog 201 Tryz.f201 mf_slices_IndexFunc_impl_Use_impl_Use := ⟨by kernel_rfl, Tryz.func201, by kernel_rfl, by kernel_rfl, by kernel_rfl, by kernel_rfl⟩
theorem idxF_Use_ct (x : Sl Use) (g : Nat) (cs : List PV) (hcs : pureL cs = true) (p : Use → Bool) (hg : ∀ a, a ∈ x.es → Ct Tryz.prog g ([.agg a.C] ++ cs) (.bool (p a))) : Ct Tryz.prog 201 [x.I Use.C, .fn g cs] (.int .i64 (idxFrom p x.es 0)) := by
  have hw1 : noOwnL cs = true := pureL_noOwn cs hcs
  have hw2 : ∀ m, bdL m cs = true := fun m => bdL_pure cs hcs
  refine ct_of_run fit_slices_IndexFunc_impl_Use_impl_Use (by simp [mf_slices_IndexFunc_impl_Use_impl_Use]) (by simp [go_sem, hw1]) fun hd => ?_
  simp -implicitDefEqProofs [-List.map_take, -List.map_drop, go_sem, mf_slices_IndexFunc_impl_Use_impl_Use]
  have hm : x.es.length ≤ maxLen := sl_deep hd.1
  refine run_iter (x.es.length) (idxF_Use_L x g cs) (fun i a => idxFrom p (x.es.drop i) i = idxFrom p x.es 0) () (gh_auto (by simp [go_sem, idxF_Use_L, hw2, hcs])) (by first | (simp; done) | (simp []; done) | (simp []; omega) | grind) ?_
  intro i a hi hj
  simp -implicitDefEqProofs [-List.map_take, -List.map_drop, go_sem, idxF_Use_L, hw2, hcs]
  refine cnd_split (fun hc => ?_) (fun hc => ?_)
  · have hlt : i < x.es.length := by first | (simpa using hc) | (simp at hc; omega)
    rw [List.drop_eq_getElem_cons (l := x.es) (by omega)] at hj
    simp only [List.map_cons, idxFrom] at hj
    simp -implicitDefEqProofs [-List.map_take, -List.map_drop, go_sem, hlt, hw2, hcs]
    have c1 := hg x.es[i] (List.getElem_mem hlt)
    have hy := And.intro (hlt) (And.intro (hw2) (hcs))
    have hdf := hy0
    have eL := @idxF_Use_L.eq_1
    have hm0 := hm
    have hlt0 := hlt
    exact wk1n
  · have hge : x.es.length ≤ i := by first | (simpa using hc) | (simp at hc; omega)
    rw [List.drop_of_length_le (l := x.es) (by omega)] at hj
    simp only [List.map_nil, idxFrom] at hj
    try simp -implicitDefEqProofs [-List.map_take, -List.map_drop, go_sem, hw2, hcs]
    have hy := And.intro (hw2) (hcs)
    have hdf := hy0
    exact wk0
def idxF_Bind_L (x : Sl Bind) (g : Nat) (cs : List PV) (i : Nat) (_ : Unit) : St := ⟨lk [(0, x.I Bind.C), (1, .fn g cs), (7, .int .i64 x.es.length), (8, .int .i64 i)], [], []⟩
def mf_slices_IndexFunc_impl_Bind_impl_Bind : MF := ⟨19, [(.t 4)], (.seq (.reg [⟨(some 4), (.mov (.c (.int .i64 0))), none⟩]) (.seq (.seq (.reg [⟨(some 6), (.mov (.t 0)), none⟩, ⟨(some 7), (.lenl (.t 6)), none⟩, ⟨(some 8), (.mov (.c (.int .i64 0))), none⟩]) (.blk 0 (.loop (.seq (.reg [⟨(some 9), (.bin .lss (.t 8) (.t 7)), none⟩]) (.seq (.cond (.t 9) .skip (.exit 0)) (.seq (.blk 1 (.seq (.reg [⟨(some 10), (.mov (.t 8)), none⟩, ⟨(some 5), (.mov (.t 10)), none⟩]) (.seq (.reg [⟨(some 11), (.mov (.t 1)), none⟩, ⟨(some 12), (.mov (.t 0)), none⟩, ⟨(some 13), (.mov (.t 5)), none⟩, ⟨(some 14), (.iadr 2 (.t 12) (.t 13)), none⟩, ⟨(some 15), (.load true 2 (.t 14)), none⟩, ⟨(some 16), (.call (.t 11) [(.t 15)]), none⟩]) (.cond (.t 16) (.seq (.reg [⟨(some 17), (.mov (.t 5)), none⟩, ⟨(some 4), (.mov (.t 17)), none⟩]) .ret) .skip)))) (.reg [⟨(some 18), (.bin .add (.t 8) (.c (.int .i64 1))), none⟩, ⟨(some 8), (.mov (.t 18)), none⟩]))))))) (.seq (.reg [⟨(some 4), (.mov (.c (.int .i64 (-1)))), none⟩]) .ret)))⟩
theorem fit_slices_IndexFunc_impl_Bind_impl_Bind : Fit Tryz.prog 177 Tryz.f177 mf_slices_IndexFunc_impl_Bind_impl_Bind := ⟨by kernel_rfl, Tryz.func177, by kernel_rfl, by kernel_rfl, by kernel_rfl, by kernel_rfl⟩
theorem idxF_Bind_ct (x : Sl Bind) (g : Nat) (cs : List PV) (hcs : pureL cs = true) (p : Bind → Bool) (hg : ∀ a, a ∈ x.es → Ct Tryz.prog g ([.agg a.C] ++ cs) (.bool (p a))) : Ct Tryz.prog 177 [x.I Bind.C, .fn g cs] (.int .i64 (idxFrom p x.es 0)) := by
  have hw1 : noOwnL cs = true := pureL_noOwn cs hcs
  have hw2 : ∀ m, bdL m cs = true := fun m => bdL_pure cs hcs
  refine ct_of_run fit_slices_IndexFunc_impl_Bind_impl_Bind (by simp [mf_slices_IndexFunc_impl_Bind_impl_Bind]) (by simp [go_sem, hw1]) fun hd => ?_
  simp -implicitDefEqProofs [-List.map_take, -List.map_drop, go_sem, mf_slices_IndexFunc_impl_Bind_impl_Bind]
  have hm : x.es.length ≤ maxLen := sl_deep hd.1
  refine run_iter (x.es.length) (idxF_Bind_L x g cs) (fun i a => idxFrom p (x.es.drop i) i = idxFrom p x.es 0) () (gh_auto (by simp [go_sem, idxF_Bind_L, hw2, hcs])) (by first | (simp; done) | (simp []; done) | (simp []; omega) | grind) ?_
  intro i a hi hj
  simp -implicitDefEqProofs [-List.map_take, -List.map_drop, go_sem, idxF_Bind_L, hw2, hcs]
  refine cnd_split (fun hc => ?_) (fun hc => ?_)
  · have hlt : i < x.es.length := by first | (simpa using hc) | (simp at hc; omega)
    rw [List.drop_eq_getElem_cons (l := x.es) (by omega)] at hj
    simp only [List.map_cons, idxFrom] at hj
    simp -implicitDefEqProofs [-List.map_take, -List.map_drop, go_sem, hlt, hw2, hcs]
    have c1 := hg x.es[i] (List.getElem_mem hlt)
    have hy := And.intro (hlt) (And.intro (hw2) (hcs))
    have hdf := hy0
    have eL := @idxF_Bind_L.eq_1
    have hm0 := hm
    have hlt0 := hlt
    exact wk1n
  · have hge : x.es.length ≤ i := by first | (simpa using hc) | (simp at hc; omega)
    rw [List.drop_of_length_le (l := x.es) (by omega)] at hj
    simp only [List.map_nil, idxFrom] at hj
    try simp -implicitDefEqProofs [-List.map_take, -List.map_drop, go_sem, hw2, hcs]
    have hy := And.intro (hw2) (hcs)
    have hdf := hy0
    exact wk0
end Go.Mach
