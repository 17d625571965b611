import Derived.Test.YtnkakbpefcoanaaGreatMh
import Derived.Test.YtnkakbpefcoanaaGreatWa
import Derived.Test.YtnkakbpefcoanaaGreatDa
import Derived.Test.YtnkakbpefcoanaaGreatSh
/- Programs of the reference, walked: whole programs. -/
set_option maxHeartbeats 4000000
namespace Go.Mach
open Go Go.Proofs
set_option linter.unusedVariables false
set_option linter.unusedSimpArgs false
attribute [local go_sem] Z.k Z.g Z.n Z.m Z.t Z.i Z.b Z.s Z.c Z.r Z.q run_seq run_skip run_reg run_blk run_exit run_ret run_cond cnd_true cnd_false kx_seq_normal kx_seq_exit kx_seq_ret kx_blk_normal kx_blk_same kx_blk_other kx_blk_ret kx_loop_exit kx_loop_ret kx_done ops_nil ops_plain ops_grd gv_tt gv_ff gv_tf gv_ft gv_tup stp_ok stp_ob stp_hp stp_bad stp_if get_t get_c putO_some putO_none put_same put_ne put_σ put_base withσ_τ withσ_σ withσ_base withσ_put withσ_withσ mk_τ mk_σ mk_base mk_withσ entry_τ entry_σ entry_base calm_nil calm_plain calm_grd cgv_tt cgv_ff cgv_tf cgv_ft cgv_tup cstp_ok cstp_ob cstp_if
attribute [local irreducible] Ct Co Cs
attribute [local go_sem] evalOp notV negV pickV binV intB seqV beqV catV lensV lenlV boxV_eq newV cellsOf cellV fadrV fldV fldC loadV loadC_ag loadC_one plainV isOwn iadrV storeV lk bdV bdL renO renL renV pureV pureL noOwnV noOwnL idxV slsV optI extV resL resV ret1 mmV cnviV cnvsV nilcV eqnV bslV bslGo appV elems okE appE getD_map okO_none okO_some strC intC Sl.I
attribute [local simp] Bind.eqa Use.eqa loadC_str loadC_int Bind.C_len Bind.C_pure Bind.C_noOwn Bind.C_cell Bind.C_bd Bind.C_bdL Bind.C_ren Bind.C_any Bind.C_any0 Bind.C_any1 Bind.C_anyt Bind.C_take Bind.C_load Bind.C_load0 Bind.C_load1 Bind.C_fld Bind.C_box Bind.C_fold Use.C_len Use.C_pure Use.C_noOwn Use.C_cell Use.C_bd Use.C_bdL Use.C_ren Use.C_any Use.C_any0 Use.C_any1 Use.C_anyt Use.C_take Use.C_load Use.C_load0 Use.C_load1 Use.C_fld Use.C_box Use.C_fold LExpr.C_len LExpr.C_pure LExpr.C_noOwn LExpr.C_cell LExpr.C_bd LExpr.C_bdL LExpr.C_ren LExpr.C_any LExpr.C_any0 LExpr.C_any1 LExpr.C_anyt LExpr.C_take LExpr.C_load LExpr.C_load0 LExpr.C_load1 LExpr.C_fld LExpr.C_box LExpr.C_fold LDecl.C_len LDecl.C_pure LDecl.C_noOwn LDecl.C_cell LDecl.C_bd LDecl.C_bdL LDecl.C_ren LDecl.C_any LDecl.C_any0 LDecl.C_any1 LDecl.C_anyt LDecl.C_take LDecl.C_load LDecl.C_load0 LDecl.C_load1 LDecl.C_fld LDecl.C_box LDecl.C_fold LModule.C_len LModule.C_pure LModule.C_noOwn LModule.C_cell LModule.C_bd LModule.C_bdL LModule.C_ren LModule.C_any LModule.C_any0 LModule.C_any1 LModule.C_anyt LModule.C_take LModule.C_load LModule.C_load0 LModule.C_load1 LModule.C_fld LModule.C_box LModule.C_fold

theorem declAt_cases (m : LModule) (name : Str) : declAt m.core name = -1 ∨ ∃ (k : Nat) (h : k < m.decls.es.length), declAt m.core name = k ∧ at' m.core.decls (declAt m.core name) = some (m.decls.es[k]).core := by
  rcases idxFrom_cases (fun d : Decl => d.name == name) m.core.decls 0 with ⟨h1, _⟩ | ⟨k, hk, h1, _, _⟩
  · exact .inl h1
  · refine .inr ⟨k, by simpa using hk, by simpa [declAt] using h1, ?_⟩
    have : declAt m.core name = (k : Int) := by simpa [declAt] using h1
    rw [this]
    simp only [at', Int.toNat_natCast]
    rw [if_neg (by omega)]
    have hk' : k < m.decls.es.length := by simpa using hk
    simp [hk']
theorem moduleAt_cases (p : List LModule) (name : Str) : moduleAt (p.map LModule.core) name = -1 ∨ ∃ (k : Nat) (h : k < p.length), moduleAt (p.map LModule.core) name = k ∧ at' (p.map LModule.core) (moduleAt (p.map LModule.core) name) = some (p[k]).core := by
  rcases idxFrom_cases (fun d : Module => d.name == name) (p.map LModule.core) 0 with ⟨h1, _⟩ | ⟨k, hk, h1, _, _⟩
  · exact .inl h1
  · refine .inr ⟨k, by simpa using hk, by simpa [moduleAt] using h1, ?_⟩
    have : moduleAt (p.map LModule.core) name = (k : Int) := by simpa [moduleAt] using h1
    rw [this]
    simp only [at', Int.toNat_natCast]
    rw [if_neg (by omega)]
    have hk' : k < p.length := by simpa using hk
    simp [hk']
theorem recIn_none {m : Module} {name : Str} (h : declAt m name = -1) : recIn m name = 0 := by simp [recIn, at', h]
theorem recIn_some {m : Module} {name : Str} {d : Decl} (h : at' m.decls (declAt m name) = some d) : recIn m name = if d.kind == 1 then 1 else 0 := by simp [recIn, h]
def records_L (p : Sl LModule) (name : Str) (i : Nat) (a : Nat) : St := ⟨lk [(0, p.I LModule.C), (1, .str name), (5, .int .i64 a), (6, .int .i64 i)], [], []⟩
open Z in
def mf_spec_records : MF := ⟨37, [(.t 4)], q (r [k 4 (.mov (i 0))]) (q (r [k 5 (.mov (i 0))]) (q (q (r [k 6 (.mov (i 0))]) (.blk 0 (.loop (q (q (r [m 8 6, m 9 0, k 10 (.lenl (t 9)), k 11 (.bin .lss (t 8) (t 10))]) (.cond (t 11) .skip (.exit 0))) (q (.blk 1 (q (r [m 14 0, m 15 6, k 16 (.iadr 3 (t 14) (t 15)), k 17 (.load true 3 (t 16)), m 18 1, k 19 (c 65 [t 17, t 18]), m 7 19]) (q (r [m 20 7, k 21 (.bin .geq (t 20) (i 0)), m 22 21, g 23 (.mov (t 0)) 22 true, g 24 (.mov (t 6)) 22 true, g 25 (.iadr 3 (t 23) (t 24)) 22 true, g 26 (.fadr 2 (t 25)) 22 true, g 27 (.load false 1 (t 26)) 22 true, g 28 (.mov (t 7)) 22 true, g 29 (.iadr 8 (t 27) (t 28)) 22 true, g 30 (.fadr 0 (t 29)) 22 true, g 31 (.load false 1 (t 30)) 22 true, g 32 (.bin .eql (t 31) (i 1)) 22 true, k 33 (.pick (t 22) (t 32) (b false))]) (.cond (t 33) (r [m 34 5, k 35 (.bin .add (t 34) (i 1)), m 5 35]) .skip)))) (r [m 12 6, k 13 (.bin .add (t 12) (i 1)), m 6 13])))))) (q (r [m 36 5, m 4 36]) .ret)))⟩
theorem fit_spec_records : Fit Tryz.prog 62 Tryz.f62 mf_spec_records := ⟨by kernel_rfl, Tryz.func62, by kernel_rfl, by kernel_rfl, by kernel_rfl, by kernel_rfl⟩
theorem records_ct (p : Sl LModule) (name : Str) : Ct Tryz.prog 62 [p.I LModule.C, .str name] (.int .i64 (records name (p.es.map LModule.core))) := by
  refine ct_of_run fit_spec_records (by simp [mf_spec_records]) (by simp [go_sem]) fun hd => ?_
  simp -implicitDefEqProofs [-List.map_take, -List.map_drop, go_sem, mf_spec_records]
  have hm : p.es.length ≤ maxLen := sl_deep hd.1
  refine run_iter (p.es.length) (records_L p name) (fun i a => a + records name ((p.es.drop i).map LModule.core) = records name (p.es.map LModule.core) ∧ a ≤ i) 0 (gh_auto (by simp [go_sem, records_L])) (by first | (simp; done) | (simp []; done) | (simp []; omega) | grind) ?_
  intro i a hi hj
  simp -implicitDefEqProofs [-List.map_take, -List.map_drop, go_sem, records_L]
  refine cnd_split (fun hc => ?_) (fun hc => ?_)
  · have hlt : i < p.es.length := by first | (simpa using hc) | (simp at hc; omega)
    rw [List.drop_eq_getElem_cons hlt] at hj
    simp only [List.map_cons, records] at hj
    have hw : IntKind.i64.wrap ((a : Int) + 1) = (a : Int) + 1 := wrap_small (by omega) (by simp only [maxLen] at hm; omega)
    simp -implicitDefEqProofs [-List.map_take, -List.map_drop, go_sem, hlt, hw]
    rcases declAt_cases p.es[i] name with h1 | ⟨k, hk, h1, h2⟩
    · rw [recIn_none h1] at hj
      repeat' first
        | ((first | refine gv_split (fun h => ?_) (fun h => ?_) | refine cnd_split (fun h => ?_) (fun h => ?_) | refine cgv_split (fun h => ?_) (fun h => ?_)) <;> (try (have hp := h; simp at hp)) <;> simp -implicitDefEqProofs [-List.map_take, -List.map_drop, go_sem, h, hlt, hw, h1])
        | (refine And.intro (by first | omega | (simp only [maxLen]; omega) | (simp_all; done) | (simp_all; omega)) ?_; try simp -implicitDefEqProofs [-List.map_take, -List.map_drop, go_sem, hlt, hw, h1])
        | ((first | refine stp_ct (declAt_ct p.es[i] name) (by simp [go_sem, hlt, hw, h1]) ?_ ?_ | refine cstp_ct (declAt_ct p.es[i] name) (by simp [go_sem, hlt, hw, h1]) ?_ ?_); (simp [go_sem]); simp -implicitDefEqProofs [-List.map_take, -List.map_drop, go_sem, hlt, hw, h1])
        | (refine run_dreg' (by decide) ?_; simp -implicitDefEqProofs [-List.map_take, -List.map_drop, go_sem, hlt, hw, h1])
        | ((first | refine kx_next a hlt (gh_auto (by simp [go_sem, records_L, wrap_succ hlt hm, hlt, hw, h1])) ?_ | refine end_tup _ (by simp) (by simp [go_sem]; rfl) (by simp [go_sem]) ?_); first | (simp [go_sem, *]; done) | grind | (simp [go_sem]; grind) | (simp_all [go_sem]; done) | (simp_all [go_sem]; omega))
    · rw [recIn_some h2] at hj
      repeat' first
        | ((first | refine gv_split (fun h => ?_) (fun h => ?_) | refine cnd_split (fun h => ?_) (fun h => ?_) | refine cgv_split (fun h => ?_) (fun h => ?_)) <;> (try (have hp := h; simp at hp)) <;> simp -implicitDefEqProofs [-List.map_take, -List.map_drop, go_sem, h, hlt, hw, h1, hk])
        | (refine And.intro (by first | omega | (simp only [maxLen]; omega) | (simp_all; done) | (simp_all; omega)) ?_; try simp -implicitDefEqProofs [-List.map_take, -List.map_drop, go_sem, hlt, hw, h1, hk])
        | ((first | refine stp_ct (declAt_ct p.es[i] name) (by simp [go_sem, hlt, hw, h1, hk]) ?_ ?_ | refine cstp_ct (declAt_ct p.es[i] name) (by simp [go_sem, hlt, hw, h1, hk]) ?_ ?_); (simp [go_sem]); simp -implicitDefEqProofs [-List.map_take, -List.map_drop, go_sem, hlt, hw, h1, hk])
        | (refine run_dreg' (by decide) ?_; simp -implicitDefEqProofs [-List.map_take, -List.map_drop, go_sem, hlt, hw, h1, hk])
        | (refine kx_next (a + 1) hlt (gh_auto (by simp [go_sem, records_L, wrap_succ hlt hm, hlt, hw, h1, hk])) ?_; first | (simp [go_sem, *]; done) | grind | (simp [go_sem]; grind) | (simp_all [go_sem]; done) | (simp_all [go_sem]; omega))
        | ((first | refine kx_next a hlt (gh_auto (by simp [go_sem, records_L, wrap_succ hlt hm, hlt, hw, h1, hk])) ?_ | refine end_tup _ (by simp) (by simp [go_sem]; rfl) (by simp [go_sem]) ?_); first | (simp [go_sem, *]; done) | grind | (simp [go_sem]; grind) | (simp_all [go_sem]; done) | (simp_all [go_sem]; omega))
  · have hge : p.es.length ≤ i := by first | (simpa using hc) | (simp at hc; omega)
    rw [List.drop_of_length_le (by omega)] at hj
    simp only [List.map_nil, records] at hj
    try simp -implicitDefEqProofs [-List.map_take, -List.map_drop, go_sem]
    have hy := hy0
    have hdf := hy0
    exact wk0
theorem useOk_none {p : List Module} {m : Module} {u : Use} (h : moduleAt p u.module = -1) : useOk p m u = false := by simp [useOk, at', h]
theorem useOk_some {p : List Module} {m o : Module} {u : Use} (h : at' p (moduleAt p u.module) = some o) : useOk p m u = (o.name != m.name && decide (0 ≤ declAt o u.name)) := by simp [useOk, h]
theorem Decl.Sm_body {d : LDecl} (h : d.core.Sm) : d.body.core.Sm := h.2.2.2
theorem Module.Sm_decl {m : LModule} (h : m.core.Sm) {i : Nat} (hi : i < m.decls.es.length) : (m.decls.es[i]).core.Sm := h.2.2.2.2 _ (by rw [LModule.core_decls]; exact List.mem_map_of_mem (List.getElem_mem hi))
theorem SmP_mod {p : List LModule} (h : SmP (p.map LModule.core)) {i : Nat} (hi : i < p.length) : (p[i]).core.Sm := h.2 _ (List.mem_map_of_mem (List.getElem_mem hi))
def validModule_L (p : Sl LModule) (m : LModule) (t : Nat) (i : Nat) (_ : Unit) : St := ⟨lk [(0, p.I LModule.C), (3, .ptr 0 1 0 0), (t, .int .i64 i)], [some ⟨[[.str m.name, .imm (m.uses.es.map Use.C) m.uses.sp m.uses.lim, .imm (m.decls.es.map LDecl.C) m.decls.sp m.decls.lim]], 3, 61, false, false⟩], []⟩
open Z in
def mf_spec_validModule : MF := ⟨113, [(.t 4)], q (r [k 3 (.box 61 (t 1)), k 4 (.mov (b false))]) (q (q (r [k 5 (.mov (i 0))]) (.blk 0 (.loop (q (q (r [m 8 5, k 9 (.fadr 2 (t 3)), k 10 (.load false 1 (t 9)), k 11 (.lenl (t 10)), k 12 (.bin .lss (t 8) (t 11))]) (.cond (t 12) .skip (.exit 0))) (q (.blk 1 (q (.dreg [(k 15 (.fadr 2 (t 3)), []), (k 16 (.load false 1 (t 15)), [0]), (m 17 5, []), (k 18 (.iadr 8 (t 16) (t 17)), [1, 2]), (k 19 (.load true 8 (t 18)), [3]), (k 20 (c 122 [t 19]), [4]), (k 21 (.not (t 20)), [5]), (m 22 21, [6, 5]), (g 23 (.load true 3 (t 3)) 22 false, [7]), (g 24 (.fadr 2 (t 3)) 22 false, [7]), (g 25 (.load false 1 (t 24)) 22 false, [9, 7]), (g 26 (.mov (t 5)) 22 false, [7]), (g 27 (.iadr 8 (t 25) (t 26)) 22 false, [10, 11, 7]), (g 28 (.fadr 1 (t 27)) 22 false, [12, 7]), (g 29 (.load false 1 (t 28)) 22 false, [13, 7]), (g 30 (c 65 [t 23, t 29]) 22 false, [8, 14, 7, 7]), (g 31 (.mov (t 5)) 22 false, [7]), (g 32 (.bin .neq (t 30) (t 31)) 22 false, [15, 16, 7]), (k 33 (.pick (t 22) (b true) (t 32)), [7, 17]), (m 34 33, [18, 15]), (g 35 (.load true 3 (t 3)) 34 false, [19]), (g 36 (.fadr 2 (t 3)) 34 false, [19]), (g 37 (.load false 1 (t 36)) 34 false, [21, 19]), (g 38 (.mov (t 5)) 34 false, [19]), (g 39 (.iadr 8 (t 37) (t 38)) 34 false, [22, 23, 19]), (g 40 (.fadr 1 (t 39)) 34 false, [24, 19]), (g 41 (.load false 1 (t 40)) 34 false, [25, 19]), (g 42 (c 123 [t 35, t 41]) 34 false, [20, 26, 19, 19]), (g 43 (.bin .geq (t 42) (i 0)) 34 false, [27, 19]), (k 44 (.pick (t 34) (b true) (t 43)), [19, 28])]) (.cond (t 44) (q (r [k 4 (.mov (b false))]) .ret) .skip))) (r [m 13 5, k 14 (.bin .add (t 13) (i 1)), m 5 14])))))) (q (q (r [k 6 (.mov (i 0))]) (.blk 2 (.loop (q (q (r [m 45 6, k 46 (.fadr 1 (t 3)), k 47 (.load false 1 (t 46)), k 48 (.lenl (t 47)), k 49 (.bin .lss (t 45) (t 48))]) (.cond (t 49) .skip (.exit 2))) (q (.blk 3 (q (r [m 52 0, k 53 (.fadr 1 (t 3)), k 54 (.load false 1 (t 53)), m 55 6, k 56 (.iadr 2 (t 54) (t 55)), k 57 (.fadr 0 (t 56)), k 58 (.load false 1 (t 57)), k 59 (c 51 [t 52, t 58]), m 7 59]) (q (.dreg [(m 60 7, []), (k 61 (.bin .lss (t 60) (i 0)), [0]), (m 62 61, [1]), (g 63 (.mov (t 0)) 62 false, [2]), (g 64 (.mov (t 7)) 62 false, [2]), (g 65 (.iadr 3 (t 63) (t 64)) 62 false, [3, 4, 2]), (g 66 (.fadr 0 (t 65)) 62 false, [5, 2]), (g 67 (.load false 1 (t 66)) 62 false, [6, 2]), (g 68 (.fadr 0 (t 3)) 62 false, [2]), (g 69 (.load false 1 (t 68)) 62 false, [8, 2]), (g 70 (.seq false (t 67) (t 69)) 62 false, [7, 9, 2]), (k 71 (.pick (t 62) (b true) (t 70)), [2, 10]), (m 72 71, [11, 2]), (g 73 (.mov (t 0)) 72 false, [12]), (g 74 (.mov (t 7)) 72 false, [12]), (g 75 (.iadr 3 (t 73) (t 74)) 72 false, [13, 14, 12]), (g 76 (.load true 3 (t 75)) 72 false, [15, 12]), (g 77 (.fadr 1 (t 3)) 72 false, [12]), (g 78 (.load false 1 (t 77)) 72 false, [17, 12]), (g 79 (.mov (t 6)) 72 false, [12]), (g 80 (.iadr 2 (t 78) (t 79)) 72 false, [18, 19, 12]), (g 81 (.fadr 1 (t 80)) 72 false, [20, 12]), (g 82 (.load false 1 (t 81)) 72 false, [21, 12]), (g 83 (c 65 [t 76, t 82]) 72 false, [16, 22, 12, 12]), (g 84 (.bin .lss (t 83) (i 0)) 72 false, [23, 12]), (k 85 (.pick (t 72) (b true) (t 84)), [12, 24]), (m 86 85, [25, 23]), (g 87 (.load true 3 (t 3)) 86 false, [26]), (g 88 (.fadr 1 (t 3)) 86 false, [26]), (g 89 (.load false 1 (t 88)) 86 false, [28, 26]), (g 90 (.mov (t 6)) 86 false, [26]), (g 91 (.iadr 2 (t 89) (t 90)) 86 false, [29, 30, 26]), (g 92 (.fadr 1 (t 91)) 86 false, [31, 26]), (g 93 (.load false 1 (t 92)) 86 false, [32, 26]), (g 94 (c 123 [t 87, t 93]) 86 false, [27, 33, 26, 26]), (g 95 (.mov (t 6)) 86 false, [26]), (g 96 (.bin .neq (t 94) (t 95)) 86 false, [34, 35, 26]), (k 97 (.pick (t 86) (b true) (t 96)), [26, 36])]) (.cond (t 97) (q (r [k 4 (.mov (b false))]) .ret) .skip)))) (r [m 50 6, k 51 (.bin .add (t 50) (i 1)), m 6 51])))))) (q (r [k 98 (.fadr 0 (t 3)), k 99 (.load false 1 (t 98)), k 100 (c 85 [t 99]), m 101 100, g 102 (.fadr 2 (t 3)) 101 true, g 103 (.load false 1 (t 102)) 101 true, g 104 (.lenl (t 103)) 101 true, g 105 (.bin .leq (t 104) (i 6)) 101 true, k 106 (.pick (t 101) (t 105) (b false)), m 107 106, g 108 (.fadr 1 (t 3)) 107 true, g 109 (.load false 1 (t 108)) 107 true, g 110 (.lenl (t 109)) 107 true, g 111 (.bin .leq (t 110) (i 4)) 107 true, k 112 (.pick (t 107) (t 111) (b false)), m 4 112]) .ret)))⟩
theorem fit_spec_validModule : Fit Tryz.prog 61 Tryz.f61 mf_spec_validModule := ⟨by kernel_rfl, Tryz.func61, by kernel_rfl, by kernel_rfl, by kernel_rfl, by kernel_rfl⟩
theorem validModule_ct (p : Sl LModule) (m : LModule) (hs : m.core.Sm) : Ct Tryz.prog 61 [p.I LModule.C, .agg m.C] (.bool (validModule (p.es.map LModule.core) m.core)) := by
  refine ct_of_run fit_spec_validModule (by simp [mf_spec_validModule]) (by simp [go_sem]) fun hd => ?_
  simp -implicitDefEqProofs [-List.map_take, -List.map_drop, go_sem, mf_spec_validModule]
  have hm : m.decls.es.length ≤ maxLen := decls_deep hd.2.1
  have hm2 : m.uses.es.length ≤ maxLen := uses_deep hd.2.1
  refine run_iter (m.decls.es.length) (validModule_L p m 5) (fun i a => declsOk m.core ((m.decls.es.drop i).map LDecl.core) i = declsOk m.core (m.decls.es.map LDecl.core) 0) () (gh_auto (by simp [go_sem, validModule_L])) (by first | (simp; done) | (simp [validModule]; done) | (simp [validModule]; omega) | grind) ?_
  intro i a hi hj
  simp -implicitDefEqProofs [-List.map_take, -List.map_drop, go_sem, validModule_L]
  refine cnd_split (fun hc => ?_) (fun hc => ?_)
  · have hlt : i < m.decls.es.length := by first | (simpa using hc) | (simp at hc; omega)
    rw [List.drop_eq_getElem_cons (l := m.decls.es) (by omega)] at hj
    simp only [List.map_cons, declsOk, LDecl.core_name] at hj
    simp -implicitDefEqProofs [-List.map_take, -List.map_drop, go_sem, hlt]
    have c1 := validDecl_ct m.decls.es[i] (Decl.Sm_body (Module.Sm_decl hs hlt))
    have d1 := fun a1 => declAt_ct m a1
    have d2 := fun a1 => useAt_ct m a1
    have hy := hlt
    have e1 := @validModule.eq_1
    have hdf := @e1
    have eL := @validModule_L.eq_1
    have hm0 := hm
    have hlt0 := hlt
    exact wk1n
  · have hge : m.decls.es.length ≤ i := by first | (simpa using hc) | (simp at hc; omega)
    rw [List.drop_of_length_le (l := m.decls.es) (by omega)] at hj
    simp only [List.map_nil, declsOk, LDecl.core_name] at hj
    try simp -implicitDefEqProofs [-List.map_take, -List.map_drop, go_sem]
    refine run_iter (m.uses.es.length) (validModule_L p m 6) (fun i2 a2 => usesOk (p.es.map LModule.core) m.core (m.uses.es.drop i2) i2 = usesOk (p.es.map LModule.core) m.core m.uses.es 0) () (gh_auto (by simp [go_sem, validModule_L])) (by first | (simp; done) | (simp [validModule]; done) | (simp [validModule]; omega) | grind) ?_
    intro i2 a2 hi2 hj2
    simp -implicitDefEqProofs [-List.map_take, -List.map_drop, go_sem, validModule_L]
    refine cnd_split (fun hc2 => ?_) (fun hc2 => ?_)
    · have hlt2 : i2 < m.uses.es.length := by first | (simpa using hc2) | (simp at hc2; omega)
      rw [List.drop_eq_getElem_cons (l := m.uses.es) (by omega)] at hj2
      simp only [List.map_cons, usesOk] at hj2
      simp -implicitDefEqProofs [-List.map_take, -List.map_drop, go_sem, hlt2]
      rcases moduleAt_cases p.es m.uses.es[i2].module with h1 | ⟨k, hk, h1, h2⟩
      · rw [useOk_none h1] at hj2
        have d1 := fun a1 => moduleAt_ct p a1
        have hy := And.intro (hlt2) (h1)
        have e1 := @validModule.eq_1
        have hdf := @e1
        have eL := @validModule_L.eq_1
        have hm0 := hm2
        have hlt0 := hlt2
        exact wk1n
      · rw [useOk_some h2, LModule.core_name, LModule.core_name] at hj2
        have d1 := fun a1 => moduleAt_ct p a1
        have d2 := fun a1 => declAt_ct p.es[k] a1
        have d3 := fun a1 => useAt_ct m a1
        have hy := And.intro (hlt2) (And.intro (h1) (hk))
        have e1 := @validModule.eq_1
        have hdf := @e1
        have eL := @validModule_L.eq_1
        have hm0 := hm2
        have hlt0 := hlt2
        exact wk1n
    · have hge2 : m.uses.es.length ≤ i2 := by first | (simpa using hc2) | (simp at hc2; omega)
      rw [List.drop_of_length_le (l := m.uses.es) (by omega)] at hj2
      simp only [List.map_nil, usesOk] at hj2
      try simp -implicitDefEqProofs [-List.map_take, -List.map_drop, go_sem]
      have d1 := fun a1 => isName_ct a1
      have hy := hy0
      have e1 := @validModule.eq_1
      have hdf := @e1
      exact wk1
def programOk_L (p : Sl LModule) (i : Nat) (_ : Unit) : St := ⟨lk [(0, p.I LModule.C), (3, .int .i64 i)], [], []⟩
def programOk_L2 (p : Sl LModule) (j i : Nat) (_ : Unit) : St := ⟨lk [(0, p.I LModule.C), (3, .int .i64 j), (4, .int .i64 i)], [], []⟩
open Z in
def mf_spec_ProgramOk : MF := ⟨66, [(.t 2)], q (r [k 2 (.mov (b false))]) (q (q (r [k 3 (.mov (i 0))]) (.blk 0 (.loop (q (q (r [m 5 3, m 6 0, k 7 (.lenl (t 6)), k 8 (.bin .lss (t 5) (t 7))]) (.cond (t 8) .skip (.exit 0))) (q (.blk 1 (q (q (r [m 11 0, m 12 0, m 13 3, k 14 (.iadr 3 (t 12) (t 13)), k 15 (.load true 3 (t 14)), k 16 (c 61 [t 11, t 15]), k 17 (.not (t 16)), m 18 17, g 19 (.mov (t 0)) 18 false, g 20 (.mov (t 0)) 18 false, g 21 (.mov (t 3)) 18 false, g 22 (.iadr 3 (t 20) (t 21)) 18 false, g 23 (.fadr 0 (t 22)) 18 false, g 24 (.load false 1 (t 23)) 18 false, g 25 (c 51 [t 19, t 24]) 18 false, g 26 (.mov (t 3)) 18 false, g 27 (.bin .neq (t 25) (t 26)) 18 false, k 28 (.pick (t 18) (b true) (t 27))]) (.cond (t 28) (q (r [k 2 (.mov (b false))]) .ret) .skip)) (q (r [k 4 (.mov (i 0))]) (.blk 2 (.loop (q (q (r [m 29 4, m 30 0, m 31 3, k 32 (.iadr 3 (t 30) (t 31)), k 33 (.fadr 2 (t 32)), k 34 (.load false 1 (t 33)), k 35 (.lenl (t 34)), k 36 (.bin .lss (t 29) (t 35))]) (.cond (t 36) .skip (.exit 2))) (q (.blk 3 (q (r [m 39 0, m 40 3, k 41 (.iadr 3 (t 39) (t 40)), k 42 (.fadr 2 (t 41)), k 43 (.load false 1 (t 42)), m 44 4, k 45 (.iadr 8 (t 43) (t 44)), k 46 (.fadr 0 (t 45)), k 47 (.load false 1 (t 46)), k 48 (.bin .eql (t 47) (i 1)), m 49 48, g 50 (.mov (t 0)) 49 true, g 51 (.mov (t 0)) 49 true, g 52 (.mov (t 3)) 49 true, g 53 (.iadr 3 (t 51) (t 52)) 49 true, g 54 (.fadr 2 (t 53)) 49 true, g 55 (.load false 1 (t 54)) 49 true, g 56 (.mov (t 4)) 49 true, g 57 (.iadr 8 (t 55) (t 56)) 49 true, g 58 (.fadr 1 (t 57)) 49 true, g 59 (.load false 1 (t 58)) 49 true, g 60 (c 62 [t 50, t 59]) 49 true, g 61 (.bin .gtr (t 60) (i 1)) 49 true, k 62 (.pick (t 49) (t 61) (b false))]) (.cond (t 62) (q (r [k 2 (.mov (b false))]) .ret) .skip))) (r [m 37 4, k 38 (.bin .add (t 37) (i 1)), m 4 38])))))))) (r [m 9 3, k 10 (.bin .add (t 9) (i 1)), m 3 10])))))) (q (r [m 63 0, k 64 (.lenl (t 63)), k 65 (c 63 [t 64, i 1, i 3]), m 2 65]) .ret))⟩
theorem fit_spec_ProgramOk : Fit Tryz.prog 28 Tryz.f28 mf_spec_ProgramOk := ⟨by kernel_rfl, Tryz.func28, by kernel_rfl, by kernel_rfl, by kernel_rfl, by kernel_rfl⟩
theorem programOk_ct (p : Sl LModule) (hs : SmP (p.es.map LModule.core)) : Ct Tryz.prog 28 [p.I LModule.C] (.bool (programOk (p.es.map LModule.core))) := by
  refine ct_of_run fit_spec_ProgramOk (by simp [mf_spec_ProgramOk]) (by simp [go_sem]) fun hd => ?_
  simp -implicitDefEqProofs [-List.map_take, -List.map_drop, go_sem, mf_spec_ProgramOk]
  have hm : p.es.length ≤ maxLen := sl_deep hd.1
  refine run_iter (p.es.length) (programOk_L p) (fun i a => modsOk (p.es.map LModule.core) ((p.es.drop i).map LModule.core) i = modsOk (p.es.map LModule.core) (p.es.map LModule.core) 0) () (gh_auto (by simp [go_sem, programOk_L])) (by first | (simp; done) | (simp [programOk]; done) | (simp [programOk]; omega) | grind) ?_
  intro i a hi hj
  simp -implicitDefEqProofs [-List.map_take, -List.map_drop, go_sem, programOk_L]
  refine cnd_split (fun hc => ?_) (fun hc => ?_)
  · have hlt : i < p.es.length := by first | (simpa using hc) | (simp at hc; omega)
    rw [List.drop_eq_getElem_cons (l := p.es) (by omega)] at hj
    simp only [List.map_cons, modsOk, LModule.core_name, LModule.core_decls] at hj
    have hsm := SmP_mod hs hlt
    have hm2 : p.es[i].decls.es.length ≤ maxLen := Nat.le_trans (by simpa using hsm.2.2.2.1) (by decide)
    simp -implicitDefEqProofs [-List.map_take, -List.map_drop, go_sem, hlt]
    repeat' first
      | ((first | refine gv_split (fun h => ?_) (fun h => ?_) | refine cnd_split (fun h => ?_) (fun h => ?_) | refine cgv_split (fun h => ?_) (fun h => ?_)) <;> (try (have hp := h; simp at hp)) <;> simp -implicitDefEqProofs [-List.map_take, -List.map_drop, go_sem, h, hlt])
      | (refine And.intro (by first | omega | (simp only [maxLen]; omega) | (simp_all; done) | (simp_all; omega)) ?_; try simp -implicitDefEqProofs [-List.map_take, -List.map_drop, go_sem, hlt])
      | ((first | refine stp_ct (validModule_ct p p.es[i] (SmP_mod hs hlt)) (by simp [go_sem, hlt]) ?_ ?_ | refine cstp_ct (validModule_ct p p.es[i] (SmP_mod hs hlt)) (by simp [go_sem, hlt]) ?_ ?_ | refine stp_ct (moduleAt_ct p _) (by simp [go_sem, hlt]) ?_ ?_ | refine cstp_ct (moduleAt_ct p _) (by simp [go_sem, hlt]) ?_ ?_); (simp [go_sem]); simp -implicitDefEqProofs [-List.map_take, -List.map_drop, go_sem, hlt])
      | (refine run_dreg' (by decide) ?_; simp -implicitDefEqProofs [-List.map_take, -List.map_drop, go_sem, hlt])
      | ((first | refine end_tup _ (by simp) (by simp [go_sem]; rfl) (by simp [go_sem]) ?_); first | (simp [go_sem, *, programOk]; done) | grind [programOk] | (simp [go_sem, programOk]; grind [programOk]) | (simp_all [go_sem, programOk]; done) | (simp_all [go_sem, programOk]; omega))
    refine run_iter (p.es[i].decls.es.length) (programOk_L2 p i) (fun i2 a2 => recsOk (p.es.map LModule.core) ((p.es[i].decls.es.drop i2).map LDecl.core) = recsOk (p.es.map LModule.core) (p.es[i].decls.es.map LDecl.core)) () (gh_auto (by simp [go_sem, programOk_L2, hlt])) (by first | (simp; done) | (simp [programOk]; done) | (simp [programOk]; omega) | grind) ?_
    intro i2 a2 hi2 hj2
    simp -implicitDefEqProofs [-List.map_take, -List.map_drop, go_sem, programOk_L2, hlt]
    refine cnd_split (fun hc2 => ?_) (fun hc2 => ?_)
    · have hlt2 : i2 < p.es[i].decls.es.length := by first | (simpa using hc2) | (simp at hc2; omega)
      rw [List.drop_eq_getElem_cons (l := p.es[i].decls.es) (by omega)] at hj2
      simp only [List.map_cons, recsOk, LDecl.core_kind, LDecl.core_name] at hj2
      simp -implicitDefEqProofs [-List.map_take, -List.map_drop, go_sem, hlt2, hlt]
      have d1 := fun a1 => records_ct p a1
      have hy := And.intro (hlt2) (hlt)
      have e1 := @programOk.eq_1
      have hdf := @e1
      have eL := @programOk_L2.eq_1
      have hm0 := hm2
      have hlt0 := hlt2
      exact wk1n
    · have hge2 : p.es[i].decls.es.length ≤ i2 := by first | (simpa using hc2) | (simp at hc2; omega)
      rw [List.drop_of_length_le (l := p.es[i].decls.es) (by omega)] at hj2
      simp only [List.map_nil, recsOk, LDecl.core_kind, LDecl.core_name] at hj2
      try simp -implicitDefEqProofs [-List.map_take, -List.map_drop, go_sem, hlt]
      have d1 := fun a1 => records_ct p a1
      have hy := And.intro (hlt) (hlt)
      have e1 := @programOk.eq_1
      have hdf := @e1
      have eL := @programOk_L.eq_1
      have hm0 := hm
      have hlt0 := hlt
      exact wk1n
  · have hge : p.es.length ≤ i := by first | (simpa using hc) | (simp at hc; omega)
    rw [List.drop_of_length_le (l := p.es) (by omega)] at hj
    simp only [List.map_nil, modsOk, LModule.core_name, LModule.core_decls] at hj
    try simp -implicitDefEqProofs [-List.map_take, -List.map_drop, go_sem]
    repeat' first
      | ((first | refine gv_split (fun h => ?_) (fun h => ?_) | refine cnd_split (fun h => ?_) (fun h => ?_) | refine cgv_split (fun h => ?_) (fun h => ?_)) <;> (try (have hp := h; simp at hp)) <;> simp -implicitDefEqProofs [-List.map_take, -List.map_drop, go_sem, h])
      | (refine And.intro (by first | omega | (simp only [maxLen]; omega) | (simp_all; done) | (simp_all; omega)) ?_; try simp -implicitDefEqProofs [-List.map_take, -List.map_drop, go_sem])
      | ((first | refine stp_ct (inRange_ct _ _ _) (by simp [go_sem]) ?_ ?_ | refine cstp_ct (inRange_ct _ _ _) (by simp [go_sem]) ?_ ?_); (simp [go_sem]); simp -implicitDefEqProofs [-List.map_take, -List.map_drop, go_sem])
      | (refine run_dreg' (by decide) ?_; simp -implicitDefEqProofs [-List.map_take, -List.map_drop, go_sem])
      | ((first | refine end_tup _ (by simp) (by simp [go_sem]; rfl) (by simp [go_sem]) ?_); first | (simp [go_sem, *, programOk]; done) | grind [programOk] | (simp [go_sem, programOk]; grind [programOk]) | (simp_all [go_sem, programOk]; done) | (simp_all [go_sem, programOk]; omega))

open Z in
def mf_strings_Contains : MF := ⟨9, [(.t 4)], q (r [k 4 (.mov (b false))]) (q (r [m 5 0, m 6 1, k 7 (c 176 [t 5, t 6]), k 8 (.bin .geq (t 7) (i 0)), m 4 8]) .ret)⟩
theorem fit_strings_Contains : Fit Tryz.prog 130 Tryz.f130 mf_strings_Contains := ⟨by kernel_rfl, Tryz.func130, by kernel_rfl, by kernel_rfl, by kernel_rfl, by kernel_rfl⟩
theorem contains_ct (s x : Str) (hs : s.length < 4294967281) : Ct Tryz.prog 130 [.str s, .str x] (.bool (Lib.contains s x)) := by
  refine ct_of_calls fit_strings_Contains.ent rfl ?_
  rintro w vs hg ⟨σ, ι, X, hv⟩
  obtain ⟨rfl, h1, h2⟩ := hv.strs
  refine (Tryz.strings_Contains_shaped ⟨s.toArray⟩ ⟨x.toArray⟩ w hg.1 (by show s.length < _; exact hs)).mono ?_
  rintro e w' ⟨rfl, rfl⟩
  exact ⟨_, rfl, rfl, fun B => .bool _⟩
def nameOk_L (s : Str) (i : Nat) (_ : Unit) : St := ⟨lk [(0, .str s), (23, .int .i64 s.length), (24, .int .i64 i)], [], []⟩
theorem firstSmall_eq {s : Str} (h : 1 ≤ s.length) : firstSmall s = (decide (97 ≤ byteAt s 0) && decide (byteAt s 0 ≤ 122)) := by
  cases s with
  | nil => simp at h
  | cons b r => rfl
open Z in
def mf_impl_nameOk : MF := ⟨55, [(.t 2)], q (r [k 2 (.mov (b false))]) (q (q (r [m 4 0, k 5 (.lens (t 4)), k 6 (.bin .lss (t 5) (i 1)), m 7 6, g 8 (.mov (t 0)) 7 false, g 9 (.lens (t 8)) 7 false, g 10 (.bin .gtr (t 9) (i 8)) 7 false, k 11 (.pick (t 7) (b true) (t 10)), m 12 11, g 13 (.mov (t 0)) 12 false, g 14 (.idx (t 13) (i 0)) 12 false, g 15 (.bin .lss (t 14) (.c (.int .u8 97))) 12 false, k 16 (.pick (t 12) (b true) (t 15)), m 17 16, g 18 (.mov (t 0)) 17 false, g 19 (.idx (t 18) (i 0)) 17 false, g 20 (.bin .gtr (t 19) (.c (.int .u8 122))) 17 false, k 21 (.pick (t 17) (b true) (t 20))]) (.cond (t 21) (q (r [k 2 (.mov (b false))]) .ret) .skip)) (q (q (r [m 22 0, k 23 (.lens (t 22)), k 24 (.mov (i 0))]) (.blk 0 (.loop (q (r [k 25 (.bin .lss (t 24) (t 23))]) (q (.cond (t 25) .skip (.exit 0)) (q (.blk 1 (q (r [m 26 24, m 3 26]) (q (r [m 27 0, m 28 3, k 29 (.idx (t 27) (t 28)), k 30 (.bin .lss (t 29) (.c (.int .u8 97))), m 31 30, g 32 (.mov (t 0)) 31 false, g 33 (.mov (t 3)) 31 false, g 34 (.idx (t 32) (t 33)) 31 false, g 35 (.bin .gtr (t 34) (.c (.int .u8 122))) 31 false, k 36 (.pick (t 31) (b true) (t 35)), m 37 36, g 38 (.mov (t 0)) 37 true, g 39 (.mov (t 3)) 37 true, g 40 (.idx (t 38) (t 39)) 37 true, g 41 (.bin .lss (t 40) (.c (.int .u8 48))) 37 true, g 42 (.mov (t 41)) 37 true, g 43 (.mov (t 0)) 42 false, g 44 (.mov (t 3)) 42 false, g 45 (.idx (t 43) (t 44)) 42 false, g 46 (.bin .gtr (t 45) (.c (.int .u8 57))) 42 false, g 47 (.pick (t 42) (b true) (t 46)) 37 true, k 48 (.pick (t 37) (t 47) (b false))]) (.cond (t 48) (q (r [k 2 (.mov (b false))]) .ret) .skip)))) (r [k 49 (.bin .add (t 24) (i 1)), m 24 49]))))))) (q (r [m 50 0, k 51 (.cat (s [32]) (t 50)), k 52 (.cat (t 51) (s [32])), k 53 (c 130 [s [32, 105, 110, 116, 32, 98, 111, 111, 108, 32, 116, 101, 120, 116, 32, 116, 114, 117, 101, 32, 102, 97, 108, 115, 101, 32, 105, 102, 32, 116, 104, 101, 110, 32, 101, 108, 115, 101, 32, 108, 101, 116, 32, 105, 110, 32, 102, 111, 114, 32, 102, 117, 110, 32, 116, 121, 112, 101, 32, 117, 115, 101, 32, 110, 111, 116, 32, 115, 105, 122, 101, 32, 97, 116, 32, 115, 97, 121, 32], t 52]), k 54 (.not (t 53)), m 2 54]) .ret)))⟩
theorem fit_impl_nameOk : Fit Tryz.prog 71 Tryz.f71 mf_impl_nameOk := ⟨by kernel_rfl, Tryz.func71, by kernel_rfl, by kernel_rfl, by kernel_rfl, by kernel_rfl⟩
theorem nameOk_ct (s : Str) : Ct Tryz.prog 71 [.str s] (.bool (isName s)) := by
  rw [← nameOk_eq]
  refine ct_of_run fit_impl_nameOk (by simp [mf_impl_nameOk]) (by simp [go_sem]) fun hd => ?_
  simp -implicitDefEqProofs [-List.map_take, -List.map_drop, go_sem, mf_impl_nameOk]
  have hm : s.length ≤ maxLen := by simp [deepL, deepV] at hd; omega
  have hfs := @firstSmall_eq s
  have hz : (s.length : Int) < 1 → firstSmall s = false := by intro h; cases s with
    | nil => rfl
    | cons b r => simp at h; omega
  repeat' first
    | ((first | refine gv_split (fun h => ?_) (fun h => ?_) | refine cnd_split (fun h => ?_) (fun h => ?_) | refine cgv_split (fun h => ?_) (fun h => ?_)) <;> (try (have hp := h; simp at hp)) <;> simp -implicitDefEqProofs [-List.map_take, -List.map_drop, go_sem, h])
    | (refine And.intro (by first | omega | (simp only [maxLen]; omega) | (simp_all; done) | (simp_all; omega)) ?_; try simp -implicitDefEqProofs [-List.map_take, -List.map_drop, go_sem])
    | (refine run_dreg' (by decide) ?_; simp -implicitDefEqProofs [-List.map_take, -List.map_drop, go_sem])
    | ((first | refine end_tup _ (by simp) (by simp [go_sem]; rfl) (by simp [go_sem]) ?_); first | (simp [go_sem, *, nameOk]; done) | grind [nameOk] | (simp [go_sem, nameOk]; grind [nameOk]) | (simp_all [go_sem, nameOk]; done) | (simp_all [go_sem, nameOk]; omega))
  have hl0 : 1 ≤ s.length := by omega
  have hl8 : (s.length : Int) ≤ 8 := by assumption
  have hf := hfs hl0
  refine run_iter (s.length) (nameOk_L s) (fun i a => allSD (s.drop i) = allSD s) () (gh_auto (by simp [go_sem, nameOk_L, getD_str])) (by first | (simp; done) | (simp [nameOk, keywordsS]; done) | (simp [nameOk, keywordsS]; omega) | grind) ?_
  intro i a hi hj
  simp -implicitDefEqProofs [-List.map_take, -List.map_drop, go_sem, nameOk_L, getD_str]
  refine cnd_split (fun hc => ?_) (fun hc => ?_)
  · have hlt : i < s.length := by first | (simpa using hc) | (simp at hc; omega)
    rw [List.drop_eq_getElem_cons (l := s) (by omega)] at hj
    simp only [List.map_cons, allSD, sdB, small, digit] at hj
    simp -implicitDefEqProofs [-List.map_take, -List.map_drop, go_sem, hlt, getD_str]
    repeat' first
      | ((first | refine gv_split (fun h => ?_) (fun h => ?_) | refine cnd_split (fun h => ?_) (fun h => ?_) | refine cgv_split (fun h => ?_) (fun h => ?_)) <;> (try (have hp := h; simp at hp)) <;> simp -implicitDefEqProofs [-List.map_take, -List.map_drop, go_sem, h, hlt, getD_str])
      | (refine And.intro (by first | omega | (simp only [maxLen]; omega) | (simp_all; done) | (simp_all; omega)) ?_; try simp -implicitDefEqProofs [-List.map_take, -List.map_drop, go_sem, hlt, getD_str])
      | ((first | refine stp_ct (contains_ct _ _ (by decide)) (by simp [go_sem, hlt, getD_str]) ?_ ?_ | refine cstp_ct (contains_ct _ _ (by decide)) (by simp [go_sem, hlt, getD_str]) ?_ ?_); (simp [go_sem]); simp -implicitDefEqProofs [-List.map_take, -List.map_drop, go_sem, hlt, getD_str])
      | (refine run_dreg' (by decide) ?_; simp -implicitDefEqProofs [-List.map_take, -List.map_drop, go_sem, hlt, getD_str])
      | ((first | refine kx_next () hlt (gh_auto (by simp [go_sem, nameOk_L, wrap_succ hlt hm, hlt, getD_str])) ?_ | refine end_tup _ (by simp) (by simp [go_sem]; rfl) (by simp [go_sem]) ?_); first | (simp [go_sem, *, nameOk, keywordsS]; done) | grind [nameOk, keywordsS] | (simp [go_sem, nameOk, keywordsS]; grind [nameOk, keywordsS]) | (simp_all [go_sem, nameOk, keywordsS]; done) | (simp_all [go_sem, nameOk, keywordsS]; omega))
  · have hge : s.length ≤ i := by first | (simpa using hc) | (simp at hc; omega)
    rw [List.drop_of_length_le (l := s) (by omega)] at hj
    simp only [List.map_nil, allSD, sdB, small, digit] at hj
    try simp -implicitDefEqProofs [-List.map_take, -List.map_drop, go_sem, getD_str]
    repeat' first
      | ((first | refine gv_split (fun h => ?_) (fun h => ?_) | refine cnd_split (fun h => ?_) (fun h => ?_) | refine cgv_split (fun h => ?_) (fun h => ?_)) <;> (try (have hp := h; simp at hp)) <;> simp -implicitDefEqProofs [-List.map_take, -List.map_drop, go_sem, h, getD_str])
      | (refine And.intro (by first | omega | (simp only [maxLen]; omega) | (simp_all; done) | (simp_all; omega)) ?_; try simp -implicitDefEqProofs [-List.map_take, -List.map_drop, go_sem, getD_str])
      | ((first | refine stp_ct (contains_ct _ _ (by decide)) (by simp [go_sem, getD_str]) ?_ ?_ | refine cstp_ct (contains_ct _ _ (by decide)) (by simp [go_sem, getD_str]) ?_ ?_); (simp [go_sem]); simp -implicitDefEqProofs [-List.map_take, -List.map_drop, go_sem, getD_str])
      | (refine run_dreg' (by decide) ?_; simp -implicitDefEqProofs [-List.map_take, -List.map_drop, go_sem, getD_str])
      | ((first | refine end_tup _ (by simp) (by simp [go_sem]; rfl) (by simp [go_sem]) ?_); first | (simp [go_sem, *, nameOk, keywordsS]; done) | grind [nameOk, keywordsS] | (simp [go_sem, nameOk, keywordsS]; grind [nameOk, keywordsS]) | (simp_all [go_sem, nameOk, keywordsS]; done) | (simp_all [go_sem, nameOk, keywordsS]; omega))
def typeBase_L (i : Nat) (a : Str) : St := ⟨lk [(0, .str a), (4, .int .i64 i)], [], []⟩
open Z in
def mf_impl_typeBase : MF := ⟨35, [(.t 2), (.t 3)], q (r [k 2 (.mov (s [])), k 3 (.mov (b false))]) (q (q (r [k 4 (.mov (i 0))]) (.blk 0 (.loop (q (r [k 5 (.bin .lss (t 4) (i 2))]) (q (.cond (t 5) .skip (.exit 0)) (q (.blk 1 (q (q (r [m 6 0, k 7 (.lens (t 6)), k 8 (.bin .lss (t 7) (i 2)), m 9 8, g 10 (.mov (t 0)) 9 false, g 11 (.idx (t 10) (i 0)) 9 false, g 12 (.bin .neq (t 11) (.c (.int .u8 91))) 9 false, k 13 (.pick (t 9) (b true) (t 12)), m 14 13, g 15 (.mov (t 0)) 14 false, g 16 (.mov (t 0)) 14 false, g 17 (.lens (t 16)) 14 false, g 18 (.bin .sub (t 17) (i 1)) 14 false, g 19 (.idx (t 15) (t 18)) 14 false, g 20 (.bin .neq (t 19) (.c (.int .u8 93))) 14 false, k 21 (.pick (t 14) (b true) (t 20))]) (.cond (t 21) (.exit 0) .skip)) (r [m 22 0, m 23 0, k 24 (.lens (t 23)), k 25 (.bin .sub (t 24) (i 1)), k 26 (.sls (t 22) (some (i 1)) (some (t 25))), m 0 26]))) (r [k 27 (.bin .add (t 4) (i 1)), m 4 27]))))))) (q (r [m 28 0, m 29 0, k 30 (c 149 [t 29]), m 31 30, g 32 (.mov (t 0)) 31 false, g 33 (c 71 [t 32]) 31 false, k 34 (.pick (t 31) (b true) (t 33)), m 2 28, m 3 34]) .ret))⟩
theorem fit_impl_typeBase : Fit Tryz.prog 90 Tryz.f90 mf_impl_typeBase := ⟨by kernel_rfl, Tryz.func90, by kernel_rfl, by kernel_rfl, by kernel_rfl, by kernel_rfl⟩
theorem typeBase_ct (t : Str) : Ct Tryz.prog 90 [.str t] (.tup [.str (stripN 2 t), .bool (baseOk t)]) := by
  refine ct_of_run fit_impl_typeBase (by simp [mf_impl_typeBase]) (by simp [go_sem]) fun hd => ?_
  simp -implicitDefEqProofs [-List.map_take, -List.map_drop, go_sem, mf_impl_typeBase]
  have hmt : t.length ≤ maxLen := by simp [deepL, deepV] at hd; omega
  have hm : 2 ≤ maxLen := by decide
  refine run_iter (2) (typeBase_L) (fun i a => stripN (2 - i) a = stripN 2 t ∧ a.length ≤ t.length) t (gh_auto (by simp [go_sem, typeBase_L])) (by first | (simp; done) | (simp [baseOk]; done) | (simp [baseOk]; omega) | grind) ?_
  intro i a hi hj
  simp -implicitDefEqProofs [-List.map_take, -List.map_drop, go_sem, typeBase_L]
  refine cnd_split (fun hc => ?_) (fun hc => ?_)
  · have hlt : i < 2 := by first | (simpa using hc) | (simp at hc; omega)
    obtain ⟨m, hm2⟩ : ∃ m, 2 - i = m + 1 := ⟨1 - i, by omega⟩
    rw [hm2, stripN] at hj
    have hm3 : 2 - (i + 1) = m := by omega
    have hbr : brk a = (decide (2 ≤ (a.length : Int)) && (byteAt a 0 == 91 && byteAt a ((a.length : Int) - 1) == 93)) := rfl
    have hml : (mid a).length ≤ a.length := by unfold mid; simp; omega
    have hw : IntKind.i64.wrap ((a.length : Int) - 1) = (a.length : Int) - 1 := wrap_small (by omega) (by simp only [maxLen] at hmt; omega)
    have hwm : mid a = (List.take (a.length - 1) a).tail := by simp [mid]
    simp -implicitDefEqProofs [-List.map_take, -List.map_drop, go_sem, hlt, hw, hwm]
    repeat' first
      | ((first | refine gv_split (fun h => ?_) (fun h => ?_) | refine cnd_split (fun h => ?_) (fun h => ?_) | refine cgv_split (fun h => ?_) (fun h => ?_)) <;> (try (have hp := h; simp at hp)) <;> simp -implicitDefEqProofs [-List.map_take, -List.map_drop, go_sem, h, hlt, hw, hwm])
      | (refine And.intro (by first | omega | (simp only [maxLen]; omega) | (simp_all; done) | (simp_all; omega)) ?_; try simp -implicitDefEqProofs [-List.map_take, -List.map_drop, go_sem, hlt, hw, hwm])
      | ((first | refine stp_ct (plainType_ct _) (by simp [go_sem, hlt, hw, hwm]) ?_ ?_ | refine cstp_ct (plainType_ct _) (by simp [go_sem, hlt, hw, hwm]) ?_ ?_ | refine stp_ct (nameOk_ct _) (by simp [go_sem, hlt, hw, hwm]) ?_ ?_ | refine cstp_ct (nameOk_ct _) (by simp [go_sem, hlt, hw, hwm]) ?_ ?_); (simp [go_sem]); simp -implicitDefEqProofs [-List.map_take, -List.map_drop, go_sem, hlt, hw, hwm])
      | (refine run_dreg' (by decide) ?_; simp -implicitDefEqProofs [-List.map_take, -List.map_drop, go_sem, hlt, hw, hwm])
      | ((first | refine kx_next (mid a) hlt (gh_auto (by simp [go_sem, typeBase_L, wrap_succ hlt hm, hlt, hw, hwm])) ?_ | refine end_tup _ (by simp) (by simp [go_sem]; rfl) (by simp [go_sem]) ?_); first | (simp [go_sem, *, baseOk]; done) | grind [baseOk] | (simp [go_sem, baseOk]; grind [baseOk]) | (simp_all [go_sem, baseOk]; done) | (simp_all [go_sem, baseOk]; omega))
  · have hge : 2 ≤ i := by first | (simpa using hc) | (simp at hc; omega)
    have hi2 : 2 - i = 0 := by omega
    have hj1 : a = stripN 2 t := by have := hj.1; rw [hi2] at this; exact this
    try simp -implicitDefEqProofs [-List.map_take, -List.map_drop, go_sem]
    have d1 := fun a1 => plainType_ct a1
    have d2 := fun a1 => nameOk_ct a1
    have hy := hy0
    have e1 := @baseOk.eq_1
    have hdf := @e1
    exact wk1
open Z in
def mf_impl_TypeOk : MF := ⟨11, [(.t 2)], q (r [k 2 (.mov (b false))]) (q (r [m 6 0, k 7 (c 90 [t 6]), m 5 7, k 8 (.ext (t 5) 0), k 9 (.ext (t 5) 1), m 3 8, m 4 9]) (q (r [m 10 4, m 2 10]) .ret))⟩
theorem fit_impl_TypeOk : Fit Tryz.prog 43 Tryz.f43 mf_impl_TypeOk := ⟨by kernel_rfl, Tryz.func43, by kernel_rfl, by kernel_rfl, by kernel_rfl, by kernel_rfl⟩
theorem itypeOk_ct (t : Str) : Ct Tryz.prog 43 [.str t] (.bool (typeOk t)) := by
  refine ct_of_run fit_impl_TypeOk (by simp [mf_impl_TypeOk]) (by simp [go_sem]) fun hd => ?_
  simp -implicitDefEqProofs [-List.map_take, -List.map_drop, go_sem, mf_impl_TypeOk]
  have d1 := fun a1 => typeBase_ct a1
  have hy := hy0
  have e1 := @baseOk_eq
  have hdf := @e1
  exact wk1
def wordOk_L (s : Str) (i : Nat) (_ : Unit) : St := ⟨lk [(0, .str s), (5, .int .i64 s.length), (6, .int .i64 i)], [], []⟩
open Z in
def mf_impl_wordOk : MF := ⟨29, [(.t 2)], q (r [k 2 (.mov (b false))]) (q (q (r [m 4 0, k 5 (.lens (t 4)), k 6 (.mov (i 0))]) (.blk 0 (.loop (q (r [k 7 (.bin .lss (t 6) (t 5))]) (q (.cond (t 7) .skip (.exit 0)) (q (.blk 1 (q (r [m 8 6, m 3 8]) (q (r [m 9 0, m 10 3, k 11 (.idx (t 9) (t 10)), k 12 (.bin .lss (t 11) (.c (.int .u8 32))), m 13 12, g 14 (.mov (t 0)) 13 false, g 15 (.mov (t 3)) 13 false, g 16 (.idx (t 14) (t 15)) 13 false, g 17 (.bin .gtr (t 16) (.c (.int .u8 126))) 13 false, k 18 (.pick (t 13) (b true) (t 17)), m 19 18, g 20 (.mov (t 0)) 19 false, g 21 (.mov (t 3)) 19 false, g 22 (.idx (t 20) (t 21)) 19 false, g 23 (.bin .eql (t 22) (.c (.int .u8 39))) 19 false, k 24 (.pick (t 19) (b true) (t 23))]) (.cond (t 24) (q (r [k 2 (.mov (b false))]) .ret) .skip)))) (r [k 25 (.bin .add (t 6) (i 1)), m 6 25]))))))) (q (r [m 26 0, k 27 (.lens (t 26)), k 28 (.bin .leq (t 27) (i 20)), m 2 28]) .ret))⟩
theorem fit_impl_wordOk : Fit Tryz.prog 148 Tryz.f148 mf_impl_wordOk := ⟨by kernel_rfl, Tryz.func148, by kernel_rfl, by kernel_rfl, by kernel_rfl, by kernel_rfl⟩
theorem wordOk_ct (s : Str) : Ct Tryz.prog 148 [.str s] (.bool (isWord s)) := by
  refine ct_of_run fit_impl_wordOk (by simp [mf_impl_wordOk]) (by simp [go_sem]) fun hd => ?_
  simp -implicitDefEqProofs [-List.map_take, -List.map_drop, go_sem, mf_impl_wordOk]
  have hm : s.length ≤ maxLen := by simp [deepL, deepV] at hd; omega
  refine run_iter (s.length) (wordOk_L s) (fun i a => wordChars (s.drop i) = wordChars s) () (gh_auto (by simp [go_sem, wordOk_L, getD_str])) (by first | (simp; done) | (simp [isWord]; done) | (simp [isWord]; omega) | grind) ?_
  intro i a hi hj
  simp -implicitDefEqProofs [-List.map_take, -List.map_drop, go_sem, wordOk_L, getD_str]
  refine cnd_split (fun hc => ?_) (fun hc => ?_)
  · have hlt : i < s.length := by first | (simpa using hc) | (simp at hc; omega)
    rw [List.drop_eq_getElem_cons (l := s) (by omega)] at hj
    simp only [List.map_cons, wordChars, wordCh] at hj
    simp -implicitDefEqProofs [-List.map_take, -List.map_drop, go_sem, hlt, getD_str]
    repeat' first
      | ((first | refine gv_split (fun h => ?_) (fun h => ?_) | refine cnd_split (fun h => ?_) (fun h => ?_) | refine cgv_split (fun h => ?_) (fun h => ?_)) <;> (try (have hp := h; simp at hp)) <;> simp -implicitDefEqProofs [-List.map_take, -List.map_drop, go_sem, h, hlt, getD_str])
      | (refine And.intro (by first | omega | (simp only [maxLen]; omega) | (simp_all; done) | (simp_all; omega)) ?_; try simp -implicitDefEqProofs [-List.map_take, -List.map_drop, go_sem, hlt, getD_str])
      | (refine run_dreg' (by decide) ?_; simp -implicitDefEqProofs [-List.map_take, -List.map_drop, go_sem, hlt, getD_str])
      | ((first | refine kx_next () hlt (gh_auto (by simp [go_sem, wordOk_L, wrap_succ hlt hm, hlt, getD_str])) ?_ | refine end_tup _ (by simp) (by simp [go_sem]; rfl) (by simp [go_sem]) ?_); first | (simp [go_sem, *, isWord]; done) | grind [isWord] | (simp [go_sem, isWord]; grind [isWord]) | (simp_all [go_sem, isWord]; done) | (simp_all [go_sem, isWord]; omega))
  · have hge : s.length ≤ i := by first | (simpa using hc) | (simp at hc; omega)
    rw [List.drop_of_length_le (l := s) (by omega)] at hj
    simp only [List.map_nil, wordChars, wordCh] at hj
    try simp -implicitDefEqProofs [-List.map_take, -List.map_drop, go_sem, getD_str]
    repeat' first
      | ((first | refine gv_split (fun h => ?_) (fun h => ?_) | refine cnd_split (fun h => ?_) (fun h => ?_) | refine cgv_split (fun h => ?_) (fun h => ?_)) <;> (try (have hp := h; simp at hp)) <;> simp -implicitDefEqProofs [-List.map_take, -List.map_drop, go_sem, h, getD_str])
      | (refine And.intro (by first | omega | (simp only [maxLen]; omega) | (simp_all; done) | (simp_all; omega)) ?_; try simp -implicitDefEqProofs [-List.map_take, -List.map_drop, go_sem, getD_str])
      | (refine run_dreg' (by decide) ?_; simp -implicitDefEqProofs [-List.map_take, -List.map_drop, go_sem, getD_str])
      | ((first | refine end_tup _ (by simp) (by simp [go_sem]; rfl) (by simp [go_sem]) ?_); first | (simp [go_sem, *, isWord]; done) | grind [isWord] | (simp [go_sem, isWord]; grind [isWord]) | (simp_all [go_sem, isWord]; done) | (simp_all [go_sem, isWord]; omega))
def index_L (l : Sl Str) (s : Str) (i : Nat) (_ : Unit) : St := ⟨lk [(0, l.I strC), (1, .str s), (7, .int .i64 l.es.length), (8, .int .i64 i)], [], []⟩
open Z in
def mf_slices_Index_string_string : MF := ⟨19, [(.t 4)], q (r [k 4 (.mov (i 0))]) (q (q (r [m 6 0, k 7 (.lenl (t 6)), k 8 (.mov (i 0))]) (.blk 0 (.loop (q (r [k 9 (.bin .lss (t 8) (t 7))]) (q (.cond (t 9) .skip (.exit 0)) (q (.blk 1 (q (r [m 10 8, m 5 10]) (q (r [m 11 1, m 12 0, m 13 5, k 14 (.iadr 1 (t 12) (t 13)), k 15 (.load false 1 (t 14)), k 16 (.seq false (t 11) (t 15))]) (.cond (t 16) (q (r [m 17 5, m 4 17]) .ret) .skip)))) (r [k 18 (.bin .add (t 8) (i 1)), m 8 18]))))))) (q (r [k 4 (.mov (i (-1)))]) .ret))⟩
theorem fit_slices_Index_string_string : Fit Tryz.prog 133 Tryz.f133 mf_slices_Index_string_string := ⟨by kernel_rfl, Tryz.func133, by kernel_rfl, by kernel_rfl, by kernel_rfl, by kernel_rfl⟩
theorem sIndexStr_ct (l : Sl Str) (s : Str) : Ct Tryz.prog 133 [l.I strC, .str s] (.int .i64 (idxFrom (fun x => s == x) l.es 0)) := by
  refine ct_of_run fit_slices_Index_string_string (by simp [mf_slices_Index_string_string]) (by simp [go_sem]) fun hd => ?_
  simp -implicitDefEqProofs [-List.map_take, -List.map_drop, go_sem, mf_slices_Index_string_string]
  have hm : l.es.length ≤ maxLen := sl_deep hd.1
  refine run_iter (l.es.length) (index_L l s) (fun i a => idxFrom (fun x => s == x) (l.es.drop i) i = idxFrom (fun x => s == x) l.es 0) () (gh_auto (by simp [go_sem, index_L])) (by first | (simp; done) | (simp []; done) | (simp []; omega) | grind) ?_
  intro i a hi hj
  simp -implicitDefEqProofs [-List.map_take, -List.map_drop, go_sem, index_L]
  refine cnd_split (fun hc => ?_) (fun hc => ?_)
  · have hlt : i < l.es.length := by first | (simpa using hc) | (simp at hc; omega)
    rw [List.drop_eq_getElem_cons (l := l.es) (by omega)] at hj
    simp only [List.map_cons, idxFrom] at hj
    simp -implicitDefEqProofs [-List.map_take, -List.map_drop, go_sem, hlt]
    have hy := hlt
    have hdf := hy0
    have eL := @index_L.eq_1
    have hm0 := hm
    have hlt0 := hlt
    exact wk0n
  · have hge : l.es.length ≤ i := by first | (simpa using hc) | (simp at hc; omega)
    rw [List.drop_of_length_le (l := l.es) (by omega)] at hj
    simp only [List.map_nil, idxFrom] at hj
    try simp -implicitDefEqProofs [-List.map_take, -List.map_drop, go_sem]
    have hy := hy0
    have hdf := hy0
    exact wk0
theorem any_contains (l : List Str) (s : Str) : l.any (fun x => s == x) = l.contains s := List.contains_eq_any_beq.symm
open Z in
def mf_slices_Contains_string_string : MF := ⟨9, [(.t 4)], q (r [k 4 (.mov (b false))]) (q (r [m 5 0, m 6 1, k 7 (c 133 [t 5, t 6]), k 8 (.bin .geq (t 7) (i 0)), m 4 8]) .ret)⟩
theorem fit_slices_Contains_string_string : Fit Tryz.prog 73 Tryz.f73 mf_slices_Contains_string_string := ⟨by kernel_rfl, Tryz.func73, by kernel_rfl, by kernel_rfl, by kernel_rfl, by kernel_rfl⟩
theorem sContainsStr_ct (l : Sl Str) (s : Str) : Ct Tryz.prog 73 [l.I strC, .str s] (.bool (l.es.contains s)) := by
  refine ct_of_run fit_slices_Contains_string_string (by simp [mf_slices_Contains_string_string]) (by simp [go_sem]) fun hd => ?_
  simp -implicitDefEqProofs [-List.map_take, -List.map_drop, go_sem, mf_slices_Contains_string_string]
  have c1 := sIndexStr_ct l s
  have hy := hy0
  have e1 := @idxFrom_nn
  have e2 := @any_contains
  have hdf := And.intro (@e1) (@e2)
  exact wk1

def eqF_Expr_L (x y : Sl LExpr) (g : Nat) (i : Nat) (_ : Unit) : St := ⟨lk [(1, y.I LExpr.C), (2, .fn g []), (15, x.I LExpr.C), (16, .int .i64 x.es.length), (17, .int .i64 i)], [], []⟩
open Z in
def mf_slices_EqualFunc_impl_Expr_impl_Expr_impl_Expr_impl_Expr : MF := ⟨32, [(.t 6)], q (r [k 6 (.mov (b false))]) (q (q (r [m 10 0, k 11 (.lenl (t 10)), m 12 1, k 13 (.lenl (t 12)), k 14 (.bin .neq (t 11) (t 13))]) (.cond (t 14) (q (r [k 6 (.mov (b false))]) .ret) .skip)) (q (q (r [m 15 0, k 16 (.lenl (t 15)), k 17 (.mov (i 0))]) (.blk 0 (.loop (q (r [k 18 (.bin .lss (t 17) (t 16))]) (q (.cond (t 18) .skip (.exit 0)) (q (.blk 1 (q (r [m 19 17, k 20 (.iadr 4 (t 15) (t 17)), k 21 (.load true 4 (t 20)), k 8 (.alloc 48 [.int .i64 0, .int .i64 0, .str [], .imm [] [] true]), m 7 19, n (.store 4 (t 8) (t 21))]) (q (r [m 22 1, m 23 7, k 24 (.iadr 4 (t 22) (t 23)), k 25 (.load true 4 (t 24)), k 9 (.alloc 48 [.int .i64 0, .int .i64 0, .str [], .imm [] [] true]), n (.store 4 (t 9) (t 25))]) (q (r [m 26 2, k 27 (.load true 4 (t 8)), k 28 (.load true 4 (t 9)), k 29 (.call (t 26) [t 27, t 28]), k 30 (.not (t 29))]) (.cond (t 30) (q (r [k 6 (.mov (b false))]) .ret) .skip))))) (r [k 31 (.bin .add (t 17) (i 1)), m 17 31]))))))) (q (r [k 6 (.mov (b true))]) .ret)))⟩
theorem fit_slices_EqualFunc_impl_Expr_impl_Expr_impl_Expr_impl_Expr : Fit Tryz.prog 178 Tryz.f178 mf_slices_EqualFunc_impl_Expr_impl_Expr_impl_Expr_impl_Expr := ⟨by kernel_rfl, Tryz.func178, by kernel_rfl, by kernel_rfl, by kernel_rfl, by kernel_rfl⟩
theorem eqF_Expr_ct (x y : Sl LExpr) (g : Nat) (p : LExpr → LExpr → Bool) (hg : ∀ a, a ∈ x.es → ∀ b, Ct Tryz.prog g ([.agg a.C, .agg b.C] ++ []) (.bool (p a b))) : Ct Tryz.prog 178 [x.I LExpr.C, y.I LExpr.C, .fn g []] (.bool (all2 p x.es y.es)) := by
  refine ct_of_run fit_slices_EqualFunc_impl_Expr_impl_Expr_impl_Expr_impl_Expr (by simp [mf_slices_EqualFunc_impl_Expr_impl_Expr_impl_Expr_impl_Expr]) (by simp [go_sem]) fun hd => ?_
  simp -implicitDefEqProofs [-List.map_take, -List.map_drop, go_sem, mf_slices_EqualFunc_impl_Expr_impl_Expr_impl_Expr_impl_Expr]
  have hm : x.es.length ≤ maxLen := sl_deep hd.1
  have hne := all2_ne p x.es y.es
  repeat' first
    | ((first | refine gv_split (fun h => ?_) (fun h => ?_) | refine cnd_split (fun h => ?_) (fun h => ?_) | refine cgv_split (fun h => ?_) (fun h => ?_)) <;> (try (have hp := h; simp at hp)) <;> simp -implicitDefEqProofs [-List.map_take, -List.map_drop, go_sem, h])
    | (refine And.intro (by first | omega | (simp only [maxLen]; omega) | (simp_all; done) | (simp_all; omega)) ?_; try simp -implicitDefEqProofs [-List.map_take, -List.map_drop, go_sem])
    | (refine run_dreg' (by decide) ?_; simp -implicitDefEqProofs [-List.map_take, -List.map_drop, go_sem])
    | ((first | refine end_tup _ (by simp) (by simp [go_sem]; rfl) (by simp [go_sem]) ?_); first | (simp [go_sem, *]; done) | grind | (simp [go_sem]; grind) | (simp_all [go_sem]; done) | (simp_all [go_sem]; omega))
  have hlen : x.es.length = y.es.length := by omega
  refine run_iter (x.es.length) (eqF_Expr_L x y g) (fun i a => all2 p (x.es.drop i) (y.es.drop i) = all2 p x.es y.es) () (gh_auto (by simp [go_sem, eqF_Expr_L])) (by first | (simp; done) | (simp []; done) | (simp []; omega) | grind) ?_
  intro i a hi hj
  simp -implicitDefEqProofs [-List.map_take, -List.map_drop, go_sem, eqF_Expr_L]
  refine cnd_split (fun hc => ?_) (fun hc => ?_)
  · have hlt : i < x.es.length := by first | (simpa using hc) | (simp at hc; omega)
    rw [List.drop_eq_getElem_cons (l := x.es) (by omega)] at hj
    have hlt_1 : i < y.es.length := by omega
    rw [List.drop_eq_getElem_cons (l := y.es) (by omega)] at hj
    simp only [List.map_cons, all2] at hj
    simp -implicitDefEqProofs [-List.map_take, -List.map_drop, go_sem, hlt, hlt_1]
    have c1 := hg x.es[i] (List.getElem_mem hlt) y.es[i]
    have hy := And.intro (hlt) (hlt_1)
    have hdf := hy0
    have eL := @eqF_Expr_L.eq_1
    have hm0 := hm
    have hlt0 := hlt
    exact wk1n
  · have hge : x.es.length ≤ i := by first | (simpa using hc) | (simp at hc; omega)
    rw [List.drop_of_length_le (l := x.es) (by omega)] at hj
    rw [List.drop_of_length_le (l := y.es) (by omega)] at hj
    simp only [List.map_nil, all2] at hj
    try simp -implicitDefEqProofs [-List.map_take, -List.map_drop, go_sem]
    have hy := hy0
    have hdf := hy0
    exact wk0
theorem all2_same : ∀ (xs ys : List LExpr), all2 (fun a b => Expr.same a.core b.core) xs ys = Expr.sames (xs.map LExpr.core) (ys.map LExpr.core)
  | [], [] => rfl
  | [], _ :: _ => rfl
  | _ :: _, [] => rfl
  | x :: xs, y :: ys => by simp [all2, Expr.sames, all2_same xs ys]
open Z in
def mf_impl_Expr_same : MF := ⟨31, [(.t 4)], q (r [k 2 (.box 48 (t 0)), k 3 (.box 48 (t 1)), k 4 (.mov (b false))]) (q (r [k 5 (.fadr 0 (t 2)), k 6 (.load false 1 (t 5)), k 7 (.fadr 0 (t 3)), k 8 (.load false 1 (t 7)), k 9 (.bin .eql (t 6) (t 8)), m 10 9, g 11 (.fadr 1 (t 2)) 10 true, g 12 (.load false 1 (t 11)) 10 true, g 13 (.fadr 1 (t 3)) 10 true, g 14 (.load false 1 (t 13)) 10 true, g 15 (.bin .eql (t 12) (t 14)) 10 true, k 16 (.pick (t 10) (t 15) (b false)), m 17 16, g 18 (.fadr 2 (t 2)) 17 true, g 19 (.load false 1 (t 18)) 17 true, g 20 (.fadr 2 (t 3)) 17 true, g 21 (.load false 1 (t 20)) 17 true, g 22 (.seq false (t 19) (t 21)) 17 true, k 23 (.pick (t 17) (t 22) (b false)), m 24 23, g 25 (.fadr 3 (t 2)) 24 true, g 26 (.load false 1 (t 25)) 24 true, g 27 (.fadr 3 (t 3)) 24 true, g 28 (.load false 1 (t 27)) 24 true, g 29 (c 178 [t 26, t 28, .c (.fn 137 [])]) 24 true, k 30 (.pick (t 24) (t 29) (b false)), m 4 30]) .ret)⟩
theorem fit_impl_Expr_same : Fit Tryz.prog 137 Tryz.f137 mf_impl_Expr_same := ⟨by kernel_rfl, Tryz.func137, by kernel_rfl, by kernel_rfl, by kernel_rfl, by kernel_rfl⟩
theorem isame_ct (x y : LExpr) : Ct Tryz.prog 137 [.agg x.C, .agg y.C] (.bool (Expr.same x.core y.core)) := by
  have h1 := Expr.same_eq x.core y.core
  rw [LExpr.core_kind, LExpr.core_num, LExpr.core_text, LExpr.core_kids, LExpr.core_kind, LExpr.core_num, LExpr.core_text, LExpr.core_kids, ← all2_same] at h1
  have h2 := eqF_Expr_ct ⟨x.kids, x.sp, x.lim⟩ ⟨y.kids, y.sp, y.lim⟩ 137 (fun a b => Expr.same a.core b.core) fun a ha b => isame_ct a b
  rw [h1]
  clear h1
  refine ct_of_run fit_impl_Expr_same (by simp [mf_impl_Expr_same]) (by simp [go_sem]) fun hd => ?_
  simp -implicitDefEqProofs [-List.map_take, -List.map_drop, go_sem, mf_impl_Expr_same]
  have c1 := h2
  have hy := hy0
  have hdf := hy0
  exact wk1
termination_by SizeOf.sizeOf x
decreasing_by exact LExpr.kid_lt ha
def eqF_Module_L (x y : Sl LModule) (g : Nat) (i : Nat) (_ : Unit) : St := ⟨lk [(1, y.I LModule.C), (2, .fn g []), (15, x.I LModule.C), (16, .int .i64 x.es.length), (17, .int .i64 i)], [], []⟩
open Z in
def mf_slices_EqualFunc_impl_Module_impl_Module_impl_Module_impl_Module : MF := ⟨32, [(.t 6)], q (r [k 6 (.mov (b false))]) (q (q (r [m 10 0, k 11 (.lenl (t 10)), m 12 1, k 13 (.lenl (t 12)), k 14 (.bin .neq (t 11) (t 13))]) (.cond (t 14) (q (r [k 6 (.mov (b false))]) .ret) .skip)) (q (q (r [m 15 0, k 16 (.lenl (t 15)), k 17 (.mov (i 0))]) (.blk 0 (.loop (q (r [k 18 (.bin .lss (t 17) (t 16))]) (q (.cond (t 18) .skip (.exit 0)) (q (.blk 1 (q (r [m 19 17, k 20 (.iadr 3 (t 15) (t 17)), k 21 (.load true 3 (t 20)), k 8 (.alloc 61 [.str [], .imm [] [] true, .imm [] [] true]), m 7 19, n (.store 3 (t 8) (t 21))]) (q (r [m 22 1, m 23 7, k 24 (.iadr 3 (t 22) (t 23)), k 25 (.load true 3 (t 24)), k 9 (.alloc 61 [.str [], .imm [] [] true, .imm [] [] true]), n (.store 3 (t 9) (t 25))]) (q (r [m 26 2, k 27 (.load true 3 (t 8)), k 28 (.load true 3 (t 9)), k 29 (.call (t 26) [t 27, t 28]), k 30 (.not (t 29))]) (.cond (t 30) (q (r [k 6 (.mov (b false))]) .ret) .skip))))) (r [k 31 (.bin .add (t 17) (i 1)), m 17 31]))))))) (q (r [k 6 (.mov (b true))]) .ret)))⟩
theorem fit_slices_EqualFunc_impl_Module_impl_Module_impl_Module_impl_Module : Fit Tryz.prog 75 Tryz.f75 mf_slices_EqualFunc_impl_Module_impl_Module_impl_Module_impl_Module := ⟨by kernel_rfl, Tryz.func75, by kernel_rfl, by kernel_rfl, by kernel_rfl, by kernel_rfl⟩
theorem eqF_Module_ct (x y : Sl LModule) (g : Nat) (p : LModule → LModule → Bool) (hg : ∀ a, a ∈ x.es → ∀ b, Ct Tryz.prog g ([.agg a.C, .agg b.C] ++ []) (.bool (p a b))) : Ct Tryz.prog 75 [x.I LModule.C, y.I LModule.C, .fn g []] (.bool (all2 p x.es y.es)) := by
  refine ct_of_run fit_slices_EqualFunc_impl_Module_impl_Module_impl_Module_impl_Module (by simp [mf_slices_EqualFunc_impl_Module_impl_Module_impl_Module_impl_Module]) (by simp [go_sem]) fun hd => ?_
  simp -implicitDefEqProofs [-List.map_take, -List.map_drop, go_sem, mf_slices_EqualFunc_impl_Module_impl_Module_impl_Module_impl_Module]
  have hm : x.es.length ≤ maxLen := sl_deep hd.1
  have hne := all2_ne p x.es y.es
  repeat' first
    | ((first | refine gv_split (fun h => ?_) (fun h => ?_) | refine cnd_split (fun h => ?_) (fun h => ?_) | refine cgv_split (fun h => ?_) (fun h => ?_)) <;> (try (have hp := h; simp at hp)) <;> simp -implicitDefEqProofs [-List.map_take, -List.map_drop, go_sem, h])
    | (refine And.intro (by first | omega | (simp only [maxLen]; omega) | (simp_all; done) | (simp_all; omega)) ?_; try simp -implicitDefEqProofs [-List.map_take, -List.map_drop, go_sem])
    | (refine run_dreg' (by decide) ?_; simp -implicitDefEqProofs [-List.map_take, -List.map_drop, go_sem])
    | ((first | refine end_tup _ (by simp) (by simp [go_sem]; rfl) (by simp [go_sem]) ?_); first | (simp [go_sem, *]; done) | grind | (simp [go_sem]; grind) | (simp_all [go_sem]; done) | (simp_all [go_sem]; omega))
  have hlen : x.es.length = y.es.length := by omega
  refine run_iter (x.es.length) (eqF_Module_L x y g) (fun i a => all2 p (x.es.drop i) (y.es.drop i) = all2 p x.es y.es) () (gh_auto (by simp [go_sem, eqF_Module_L])) (by first | (simp; done) | (simp []; done) | (simp []; omega) | grind) ?_
  intro i a hi hj
  simp -implicitDefEqProofs [-List.map_take, -List.map_drop, go_sem, eqF_Module_L]
  refine cnd_split (fun hc => ?_) (fun hc => ?_)
  · have hlt : i < x.es.length := by first | (simpa using hc) | (simp at hc; omega)
    rw [List.drop_eq_getElem_cons (l := x.es) (by omega)] at hj
    have hlt_1 : i < y.es.length := by omega
    rw [List.drop_eq_getElem_cons (l := y.es) (by omega)] at hj
    simp only [List.map_cons, all2] at hj
    simp -implicitDefEqProofs [-List.map_take, -List.map_drop, go_sem, hlt, hlt_1]
    have c1 := hg x.es[i] (List.getElem_mem hlt) y.es[i]
    have hy := And.intro (hlt) (hlt_1)
    have hdf := hy0
    have eL := @eqF_Module_L.eq_1
    have hm0 := hm
    have hlt0 := hlt
    exact wk1n
  · have hge : x.es.length ≤ i := by first | (simpa using hc) | (simp at hc; omega)
    rw [List.drop_of_length_le (l := x.es) (by omega)] at hj
    rw [List.drop_of_length_le (l := y.es) (by omega)] at hj
    simp only [List.map_nil, all2] at hj
    try simp -implicitDefEqProofs [-List.map_take, -List.map_drop, go_sem]
    have hy := hy0
    have hdf := hy0
    exact wk0
def eqF_Decl_L (x y : Sl LDecl) (g : Nat) (i : Nat) (_ : Unit) : St := ⟨lk [(1, y.I LDecl.C), (2, .fn g []), (15, x.I LDecl.C), (16, .int .i64 x.es.length), (17, .int .i64 i)], [], []⟩
def equal_Use_L (x y : Sl Use) (i : Nat) (_ : Unit) : St := ⟨lk [(0, x.I Use.C), (1, y.I Use.C), (12, .int .i64 x.es.length), (13, .int .i64 i)], [], []⟩
def equal_Bind_L (x y : Sl Bind) (i : Nat) (_ : Unit) : St := ⟨lk [(0, x.I Bind.C), (1, y.I Bind.C), (12, .int .i64 x.es.length), (13, .int .i64 i)], [], []⟩
open Z in
def mf_slices_Equal_impl_Bind_impl_Bind : MF := ⟨26, [(.t 4)], q (r [k 4 (.mov (b false))]) (q (q (r [m 6 0, k 7 (.lenl (t 6)), m 8 1, k 9 (.lenl (t 8)), k 10 (.bin .neq (t 7) (t 9))]) (.cond (t 10) (q (r [k 4 (.mov (b false))]) .ret) .skip)) (q (q (r [m 11 0, k 12 (.lenl (t 11)), k 13 (.mov (i 0))]) (.blk 0 (.loop (q (r [k 14 (.bin .lss (t 13) (t 12))]) (q (.cond (t 14) .skip (.exit 0)) (q (.blk 1 (q (r [m 15 13, m 5 15]) (q (.dreg [(m 16 0, []), (m 17 5, []), (k 18 (.iadr 2 (t 16) (t 17)), [0, 1]), (k 19 (.load true 2 (t 18)), [2]), (m 20 1, []), (m 21 5, []), (k 22 (.iadr 2 (t 20) (t 21)), [4, 5]), (k 23 (.load true 2 (t 22)), [6]), (k 24 (.eqa true [.s, .s] (t 19) (t 23)), [3, 7])]) (.cond (t 24) (q (r [k 4 (.mov (b false))]) .ret) .skip)))) (r [k 25 (.bin .add (t 13) (i 1)), m 13 25]))))))) (q (r [k 4 (.mov (b true))]) .ret)))⟩
theorem fit_slices_Equal_impl_Bind_impl_Bind : Fit Tryz.prog 139 Tryz.f139 mf_slices_Equal_impl_Bind_impl_Bind := ⟨by kernel_rfl, Tryz.func139, by kernel_rfl, by kernel_rfl, by kernel_rfl, by kernel_rfl⟩
theorem equal_Bind_ct (x y : Sl Bind) : Ct Tryz.prog 139 [x.I Bind.C, y.I Bind.C] (.bool (all2 (· == ·) x.es y.es)) := by
  refine ct_of_run fit_slices_Equal_impl_Bind_impl_Bind (by simp [mf_slices_Equal_impl_Bind_impl_Bind]) (by simp [go_sem]) fun hd => ?_
  simp -implicitDefEqProofs [-List.map_take, -List.map_drop, go_sem, mf_slices_Equal_impl_Bind_impl_Bind]
  have hm : x.es.length ≤ maxLen := sl_deep hd.1
  have hne := all2_ne (· == ·) x.es y.es
  repeat' first
    | ((first | refine gv_split (fun h => ?_) (fun h => ?_) | refine cnd_split (fun h => ?_) (fun h => ?_) | refine cgv_split (fun h => ?_) (fun h => ?_)) <;> (try (have hp := h; simp at hp)) <;> simp -implicitDefEqProofs [-List.map_take, -List.map_drop, go_sem, h])
    | (refine And.intro (by first | omega | (simp only [maxLen]; omega) | (simp_all; done) | (simp_all; omega)) ?_; try simp -implicitDefEqProofs [-List.map_take, -List.map_drop, go_sem])
    | (refine run_dreg' (by decide) ?_; simp -implicitDefEqProofs [-List.map_take, -List.map_drop, go_sem])
    | ((first | refine end_tup _ (by simp) (by simp [go_sem]; rfl) (by simp [go_sem]) ?_); first | (simp [go_sem, *]; done) | grind | (simp [go_sem]; grind) | (simp_all [go_sem]; done) | (simp_all [go_sem]; omega))
  have hlen : x.es.length = y.es.length := by omega
  refine run_iter (x.es.length) (equal_Bind_L x y) (fun i a => all2 (· == ·) (x.es.drop i) (y.es.drop i) = all2 (· == ·) x.es y.es) () (gh_auto (by simp [go_sem, equal_Bind_L])) (by first | (simp; done) | (simp []; done) | (simp []; omega) | grind) ?_
  intro i a hi hj
  simp -implicitDefEqProofs [-List.map_take, -List.map_drop, go_sem, equal_Bind_L]
  refine cnd_split (fun hc => ?_) (fun hc => ?_)
  · have hlt : i < x.es.length := by first | (simpa using hc) | (simp at hc; omega)
    rw [List.drop_eq_getElem_cons (l := x.es) (by omega)] at hj
    have hlt_1 : i < y.es.length := by omega
    rw [List.drop_eq_getElem_cons (l := y.es) (by omega)] at hj
    simp only [List.map_cons, all2] at hj
    simp -implicitDefEqProofs [-List.map_take, -List.map_drop, go_sem, hlt, hlt_1]
    have hy := And.intro (hlt) (hlt_1)
    have hdf := hy0
    have eL := @equal_Bind_L.eq_1
    have hm0 := hm
    have hlt0 := hlt
    exact wk0n
  · have hge : x.es.length ≤ i := by first | (simpa using hc) | (simp at hc; omega)
    rw [List.drop_of_length_le (l := x.es) (by omega)] at hj
    rw [List.drop_of_length_le (l := y.es) (by omega)] at hj
    simp only [List.map_nil, all2] at hj
    try simp -implicitDefEqProofs [-List.map_take, -List.map_drop, go_sem]
    have hy := hy0
    have hdf := hy0
    exact wk0
def idxF_Module_L (x : Sl LModule) (g : Nat) (cs : List PV) (i : Nat) (_ : Unit) : St := ⟨lk [(0, x.I LModule.C), (1, .fn g cs), (7, .int .i64 x.es.length), (8, .int .i64 i)], [], []⟩
open Z in
def mf_slices_IndexFunc_impl_Module_impl_Module : MF := ⟨19, [(.t 4)], q (r [k 4 (.mov (i 0))]) (q (q (r [m 6 0, k 7 (.lenl (t 6)), k 8 (.mov (i 0))]) (.blk 0 (.loop (q (r [k 9 (.bin .lss (t 8) (t 7))]) (q (.cond (t 9) .skip (.exit 0)) (q (.blk 1 (q (r [m 10 8, m 5 10]) (q (r [m 11 1, m 12 0, m 13 5, k 14 (.iadr 3 (t 12) (t 13)), k 15 (.load true 3 (t 14)), k 16 (.call (t 11) [t 15])]) (.cond (t 16) (q (r [m 17 5, m 4 17]) .ret) .skip)))) (r [k 18 (.bin .add (t 8) (i 1)), m 8 18]))))))) (q (r [k 4 (.mov (i (-1)))]) .ret))⟩
theorem fit_slices_IndexFunc_impl_Module_impl_Module : Fit Tryz.prog 107 Tryz.f107 mf_slices_IndexFunc_impl_Module_impl_Module := ⟨by kernel_rfl, Tryz.func107, by kernel_rfl, by kernel_rfl, by kernel_rfl, by kernel_rfl⟩
theorem idxF_Module_ct (x : Sl LModule) (g : Nat) (cs : List PV) (hcs : pureL cs = true) (p : LModule → Bool) (hg : ∀ a, a ∈ x.es → Ct Tryz.prog g ([.agg a.C] ++ cs) (.bool (p a))) : Ct Tryz.prog 107 [x.I LModule.C, .fn g cs] (.int .i64 (idxFrom p x.es 0)) := by
  have hw1 : noOwnL cs = true := pureL_noOwn cs hcs
  have hw2 : ∀ m, bdL m cs = true := fun m => bdL_pure cs hcs
  refine ct_of_run fit_slices_IndexFunc_impl_Module_impl_Module (by simp [mf_slices_IndexFunc_impl_Module_impl_Module]) (by simp [go_sem, hw1]) fun hd => ?_
  simp -implicitDefEqProofs [-List.map_take, -List.map_drop, go_sem, mf_slices_IndexFunc_impl_Module_impl_Module]
  have hm : x.es.length ≤ maxLen := sl_deep hd.1
  refine run_iter (x.es.length) (idxF_Module_L x g cs) (fun i a => idxFrom p (x.es.drop i) i = idxFrom p x.es 0) () (gh_auto (by simp [go_sem, idxF_Module_L, hw2, hcs])) (by first | (simp; done) | (simp []; done) | (simp []; omega) | grind) ?_
  intro i a hi hj
  simp -implicitDefEqProofs [-List.map_take, -List.map_drop, go_sem, idxF_Module_L, hw2, hcs]
  refine cnd_split (fun hc => ?_) (fun hc => ?_)
  · have hlt : i < x.es.length := by first | (simpa using hc) | (simp at hc; omega)
    rw [List.drop_eq_getElem_cons (l := x.es) (by omega)] at hj
    simp only [List.map_cons, idxFrom] at hj
    simp -implicitDefEqProofs [-List.map_take, -List.map_drop, go_sem, hlt, hw2, hcs]
    have c1 := hg x.es[i] (List.getElem_mem hlt)
    have hy := And.intro (hlt) (And.intro (hw2) (hcs))
    have hdf := hy0
    have eL := @idxF_Module_L.eq_1
    have hm0 := hm
    have hlt0 := hlt
    exact wk1n
  · have hge : x.es.length ≤ i := by first | (simpa using hc) | (simp at hc; omega)
    rw [List.drop_of_length_le (l := x.es) (by omega)] at hj
    simp only [List.map_nil, idxFrom] at hj
    try simp -implicitDefEqProofs [-List.map_take, -List.map_drop, go_sem, hw2, hcs]
    have hy := And.intro (hw2) (hcs)
    have hdf := hy0
    exact wk0
def idxF_Decl_L (x : Sl LDecl) (g : Nat) (cs : List PV) (i : Nat) (_ : Unit) : St := ⟨lk [(0, x.I LDecl.C), (1, .fn g cs), (7, .int .i64 x.es.length), (8, .int .i64 i)], [], []⟩
open Z in
def mf_slices_IndexFunc_impl_Decl_impl_Decl : MF := ⟨19, [(.t 4)], q (r [k 4 (.mov (i 0))]) (q (q (r [m 6 0, k 7 (.lenl (t 6)), k 8 (.mov (i 0))]) (.blk 0 (.loop (q (r [k 9 (.bin .lss (t 8) (t 7))]) (q (.cond (t 9) .skip (.exit 0)) (q (.blk 1 (q (r [m 10 8, m 5 10]) (q (r [m 11 1, m 12 0, m 13 5, k 14 (.iadr 8 (t 12) (t 13)), k 15 (.load true 8 (t 14)), k 16 (.call (t 11) [t 15])]) (.cond (t 16) (q (r [m 17 5, m 4 17]) .ret) .skip)))) (r [k 18 (.bin .add (t 8) (i 1)), m 8 18]))))))) (q (r [k 4 (.mov (i (-1)))]) .ret))⟩
theorem fit_slices_IndexFunc_impl_Decl_impl_Decl : Fit Tryz.prog 131 Tryz.f131 mf_slices_IndexFunc_impl_Decl_impl_Decl := ⟨by kernel_rfl, Tryz.func131, by kernel_rfl, by kernel_rfl, by kernel_rfl, by kernel_rfl⟩
theorem idxF_Decl_ct (x : Sl LDecl) (g : Nat) (cs : List PV) (hcs : pureL cs = true) (p : LDecl → Bool) (hg : ∀ a, a ∈ x.es → Ct Tryz.prog g ([.agg a.C] ++ cs) (.bool (p a))) : Ct Tryz.prog 131 [x.I LDecl.C, .fn g cs] (.int .i64 (idxFrom p x.es 0)) := by
  have hw1 : noOwnL cs = true := pureL_noOwn cs hcs
  have hw2 : ∀ m, bdL m cs = true := fun m => bdL_pure cs hcs
  refine ct_of_run fit_slices_IndexFunc_impl_Decl_impl_Decl (by simp [mf_slices_IndexFunc_impl_Decl_impl_Decl]) (by simp [go_sem, hw1]) fun hd => ?_
  simp -implicitDefEqProofs [-List.map_take, -List.map_drop, go_sem, mf_slices_IndexFunc_impl_Decl_impl_Decl]
  have hm : x.es.length ≤ maxLen := sl_deep hd.1
  refine run_iter (x.es.length) (idxF_Decl_L x g cs) (fun i a => idxFrom p (x.es.drop i) i = idxFrom p x.es 0) () (gh_auto (by simp [go_sem, idxF_Decl_L, hw2, hcs])) (by first | (simp; done) | (simp []; done) | (simp []; omega) | grind) ?_
  intro i a hi hj
  simp -implicitDefEqProofs [-List.map_take, -List.map_drop, go_sem, idxF_Decl_L, hw2, hcs]
  refine cnd_split (fun hc => ?_) (fun hc => ?_)
  · have hlt : i < x.es.length := by first | (simpa using hc) | (simp at hc; omega)
    rw [List.drop_eq_getElem_cons (l := x.es) (by omega)] at hj
    simp only [List.map_cons, idxFrom] at hj
    simp -implicitDefEqProofs [-List.map_take, -List.map_drop, go_sem, hlt, hw2, hcs]
    have c1 := hg x.es[i] (List.getElem_mem hlt)
    have hy := And.intro (hlt) (And.intro (hw2) (hcs))
    have hdf := hy0
    have eL := @idxF_Decl_L.eq_1
    have hm0 := hm
    have hlt0 := hlt
    exact wk1n
  · have hge : x.es.length ≤ i := by first | (simpa using hc) | (simp at hc; omega)
    rw [List.drop_of_length_le (l := x.es) (by omega)] at hj
    simp only [List.map_nil, idxFrom] at hj
    try simp -implicitDefEqProofs [-List.map_take, -List.map_drop, go_sem, hw2, hcs]
    have hy := And.intro (hw2) (hcs)
    have hdf := hy0
    exact wk0
def idxF_Use_L (x : Sl Use) (g : Nat) (cs : List PV) (i : Nat) (_ : Unit) : St := ⟨lk [(0, x.I Use.C), (1, .fn g cs), (7, .int .i64 x.es.length), (8, .int .i64 i)], [], []⟩
open Z in
def mf_slices_IndexFunc_impl_Use_impl_Use : MF := ⟨19, [(.t 4)], q (r [k 4 (.mov (i 0))]) (q (q (r [m 6 0, k 7 (.lenl (t 6)), k 8 (.mov (i 0))]) (.blk 0 (.loop (q (r [k 9 (.bin .lss (t 8) (t 7))]) (q (.cond (t 9) .skip (.exit 0)) (q (.blk 1 (q (r [m 10 8, m 5 10]) (q (r [m 11 1, m 12 0, m 13 5, k 14 (.iadr 2 (t 12) (t 13)), k 15 (.load true 2 (t 14)), k 16 (.call (t 11) [t 15])]) (.cond (t 16) (q (r [m 17 5, m 4 17]) .ret) .skip)))) (r [k 18 (.bin .add (t 8) (i 1)), m 8 18]))))))) (q (r [k 4 (.mov (i (-1)))]) .ret))⟩
theorem fit_slices_IndexFunc_impl_Use_impl_Use : Fit Tryz.prog 201 Tryz.f201 mf_slices_IndexFunc_impl_Use_impl_Use := ⟨by kernel_rfl, Tryz.func201, by kernel_rfl, by kernel_rfl, by kernel_rfl, by kernel_rfl⟩
theorem idxF_Use_ct (x : Sl Use) (g : Nat) (cs : List PV) (hcs : pureL cs = true) (p : Use → Bool) (hg : ∀ a, a ∈ x.es → Ct Tryz.prog g ([.agg a.C] ++ cs) (.bool (p a))) : Ct Tryz.prog 201 [x.I Use.C, .fn g cs] (.int .i64 (idxFrom p x.es 0)) := by
  have hw1 : noOwnL cs = true := pureL_noOwn cs hcs
  have hw2 : ∀ m, bdL m cs = true := fun m => bdL_pure cs hcs
  refine ct_of_run fit_slices_IndexFunc_impl_Use_impl_Use (by simp [mf_slices_IndexFunc_impl_Use_impl_Use]) (by simp [go_sem, hw1]) fun hd => ?_
  simp -implicitDefEqProofs [-List.map_take, -List.map_drop, go_sem, mf_slices_IndexFunc_impl_Use_impl_Use]
  have hm : x.es.length ≤ maxLen := sl_deep hd.1
  refine run_iter (x.es.length) (idxF_Use_L x g cs) (fun i a => idxFrom p (x.es.drop i) i = idxFrom p x.es 0) () (gh_auto (by simp [go_sem, idxF_Use_L, hw2, hcs])) (by first | (simp; done) | (simp []; done) | (simp []; omega) | grind) ?_
  intro i a hi hj
  simp -implicitDefEqProofs [-List.map_take, -List.map_drop, go_sem, idxF_Use_L, hw2, hcs]
  refine cnd_split (fun hc => ?_) (fun hc => ?_)
  · have hlt : i < x.es.length := by first | (simpa using hc) | (simp at hc; omega)
    rw [List.drop_eq_getElem_cons (l := x.es) (by omega)] at hj
    simp only [List.map_cons, idxFrom] at hj
    simp -implicitDefEqProofs [-List.map_take, -List.map_drop, go_sem, hlt, hw2, hcs]
    have c1 := hg x.es[i] (List.getElem_mem hlt)
    have hy := And.intro (hlt) (And.intro (hw2) (hcs))
    have hdf := hy0
    have eL := @idxF_Use_L.eq_1
    have hm0 := hm
    have hlt0 := hlt
    exact wk1n
  · have hge : x.es.length ≤ i := by first | (simpa using hc) | (simp at hc; omega)
    rw [List.drop_of_length_le (l := x.es) (by omega)] at hj
    simp only [List.map_nil, idxFrom] at hj
    try simp -implicitDefEqProofs [-List.map_take, -List.map_drop, go_sem, hw2, hcs]
    have hy := And.intro (hw2) (hcs)
    have hdf := hy0
    exact wk0
def idxF_Bind_L (x : Sl Bind) (g : Nat) (cs : List PV) (i : Nat) (_ : Unit) : St := ⟨lk [(0, x.I Bind.C), (1, .fn g cs), (7, .int .i64 x.es.length), (8, .int .i64 i)], [], []⟩
open Z in
def mf_slices_IndexFunc_impl_Bind_impl_Bind : MF := ⟨19, [(.t 4)], q (r [k 4 (.mov (i 0))]) (q (q (r [m 6 0, k 7 (.lenl (t 6)), k 8 (.mov (i 0))]) (.blk 0 (.loop (q (r [k 9 (.bin .lss (t 8) (t 7))]) (q (.cond (t 9) .skip (.exit 0)) (q (.blk 1 (q (r [m 10 8, m 5 10]) (q (r [m 11 1, m 12 0, m 13 5, k 14 (.iadr 2 (t 12) (t 13)), k 15 (.load true 2 (t 14)), k 16 (.call (t 11) [t 15])]) (.cond (t 16) (q (r [m 17 5, m 4 17]) .ret) .skip)))) (r [k 18 (.bin .add (t 8) (i 1)), m 8 18]))))))) (q (r [k 4 (.mov (i (-1)))]) .ret))⟩
theorem fit_slices_IndexFunc_impl_Bind_impl_Bind : Fit Tryz.prog 177 Tryz.f177 mf_slices_IndexFunc_impl_Bind_impl_Bind := ⟨by kernel_rfl, Tryz.func177, by kernel_rfl, by kernel_rfl, by kernel_rfl, by kernel_rfl⟩
theorem idxF_Bind_ct (x : Sl Bind) (g : Nat) (cs : List PV) (hcs : pureL cs = true) (p : Bind → Bool) (hg : ∀ a, a ∈ x.es → Ct Tryz.prog g ([.agg a.C] ++ cs) (.bool (p a))) : Ct Tryz.prog 177 [x.I Bind.C, .fn g cs] (.int .i64 (idxFrom p x.es 0)) := by
  have hw1 : noOwnL cs = true := pureL_noOwn cs hcs
  have hw2 : ∀ m, bdL m cs = true := fun m => bdL_pure cs hcs
  refine ct_of_run fit_slices_IndexFunc_impl_Bind_impl_Bind (by simp [mf_slices_IndexFunc_impl_Bind_impl_Bind]) (by simp [go_sem, hw1]) fun hd => ?_
  simp -implicitDefEqProofs [-List.map_take, -List.map_drop, go_sem, mf_slices_IndexFunc_impl_Bind_impl_Bind]
  have hm : x.es.length ≤ maxLen := sl_deep hd.1
  refine run_iter (x.es.length) (idxF_Bind_L x g cs) (fun i a => idxFrom p (x.es.drop i) i = idxFrom p x.es 0) () (gh_auto (by simp [go_sem, idxF_Bind_L, hw2, hcs])) (by first | (simp; done) | (simp []; done) | (simp []; omega) | grind) ?_
  intro i a hi hj
  simp -implicitDefEqProofs [-List.map_take, -List.map_drop, go_sem, idxF_Bind_L, hw2, hcs]
  refine cnd_split (fun hc => ?_) (fun hc => ?_)
  · have hlt : i < x.es.length := by first | (simpa using hc) | (simp at hc; omega)
    rw [List.drop_eq_getElem_cons (l := x.es) (by omega)] at hj
    simp only [List.map_cons, idxFrom] at hj
    simp -implicitDefEqProofs [-List.map_take, -List.map_drop, go_sem, hlt, hw2, hcs]
    have c1 := hg x.es[i] (List.getElem_mem hlt)
    have hy := And.intro (hlt) (And.intro (hw2) (hcs))
    have hdf := hy0
    have eL := @idxF_Bind_L.eq_1
    have hm0 := hm
    have hlt0 := hlt
    exact wk1n
  · have hge : x.es.length ≤ i := by first | (simpa using hc) | (simp at hc; omega)
    rw [List.drop_of_length_le (l := x.es) (by omega)] at hj
    simp only [List.map_nil, idxFrom] at hj
    try simp -implicitDefEqProofs [-List.map_take, -List.map_drop, go_sem, hw2, hcs]
    have hy := And.intro (hw2) (hcs)
    have hdf := hy0
    exact wk0
end Go.Mach
