import Derived.Test.YtnkakbpefcoanaaGreatMh
import Derived.Test.YtnkakbpefcoanaaGreatWe
import Derived.Test.YtnkakbpefcoanaaGreatWd
import Derived.Test.YtnkakbpefcoanaaGreatWf
/- The law of ProgramLike, walked. -/
set_option maxHeartbeats 4000000
namespace Go.Mach
open Go Go.Proofs
set_option linter.unusedVariables false
set_option linter.unusedSimpArgs false
attribute [local go_sem] run_seq run_skip run_reg run_blk run_exit run_ret run_cond cnd_true cnd_false kx_seq_normal kx_seq_exit kx_seq_ret kx_blk_normal kx_blk_same kx_blk_other kx_blk_ret kx_loop_exit kx_loop_ret kx_done ops_nil ops_plain ops_grd gv_tt gv_ff gv_tf gv_ft gv_tup stp_ok stp_ob stp_hp stp_bad stp_if get_t get_c putO_some putO_none put_same put_ne put_σ put_base withσ_τ withσ_σ withσ_base withσ_put withσ_withσ mk_τ mk_σ mk_base mk_withσ entry_τ entry_σ entry_base calm_nil calm_plain calm_grd cgv_tt cgv_ff cgv_tf cgv_ft cgv_tup cstp_ok cstp_ob cstp_if
attribute [local irreducible] Ct Co Cs
attribute [local go_sem] evalOp notV negV pickV binV intB seqV beqV catV lensV lenlV boxV_eq newV cellsOf cellV fadrV fldV fldC loadV loadC_ag loadC_one plainV isOwn iadrV storeV lk bdV bdL renO renL renV pureV pureL noOwnV noOwnL idxV slsV optI extV resL resV ret1 mmV cnviV cnvsV nilcV eqnV bslV bslGo appV elems okE appE getD_map okO_none okO_some strC intC Sl.I
attribute [local simp] Bind.eqa Use.eqa loadC_str loadC_int Bind.C_len Bind.C_pure Bind.C_noOwn Bind.C_cell Bind.C_bd Bind.C_bdL Bind.C_ren Bind.C_any Bind.C_any0 Bind.C_any1 Bind.C_anyt Bind.C_take Bind.C_load Bind.C_load0 Bind.C_load1 Bind.C_fld Bind.C_box Bind.C_fold Use.C_len Use.C_pure Use.C_noOwn Use.C_cell Use.C_bd Use.C_bdL Use.C_ren Use.C_any Use.C_any0 Use.C_any1 Use.C_anyt Use.C_take Use.C_load Use.C_load0 Use.C_load1 Use.C_fld Use.C_box Use.C_fold LExpr.C_len LExpr.C_pure LExpr.C_noOwn LExpr.C_cell LExpr.C_bd LExpr.C_bdL LExpr.C_ren LExpr.C_any LExpr.C_any0 LExpr.C_any1 LExpr.C_anyt LExpr.C_take LExpr.C_load LExpr.C_load0 LExpr.C_load1 LExpr.C_fld LExpr.C_box LExpr.C_fold LDecl.C_len LDecl.C_pure LDecl.C_noOwn LDecl.C_cell LDecl.C_bd LDecl.C_bdL LDecl.C_ren LDecl.C_any LDecl.C_any0 LDecl.C_any1 LDecl.C_anyt LDecl.C_take LDecl.C_load LDecl.C_load0 LDecl.C_load1 LDecl.C_fld LDecl.C_box LDecl.C_fold LModule.C_len LModule.C_pure LModule.C_noOwn LModule.C_cell LModule.C_bd LModule.C_bdL LModule.C_ren LModule.C_any LModule.C_any0 LModule.C_any1 LModule.C_anyt LModule.C_take LModule.C_load LModule.C_load0 LModule.C_load1 LModule.C_fld LModule.C_box LModule.C_fold

def mf_laws_FnExactProgramLike : MF := ⟨54, [(.t 4)], (.seq (.reg [⟨(some 4), (.mov (.c (.bool false))), none⟩]) (.seq (.reg [⟨(some 5), (.mov (.c (.int .i64 1000000))), none⟩]) (.seq (.reg [⟨(some 11), (.mov (.t 0)), none⟩, ⟨(some 12), (.mov (.t 5)), none⟩, ⟨(some 13), (.call (.c (.fn 8 [])) [(.t 11), (.t 12)]), none⟩, ⟨(some 5), (.mov (.t 13)), none⟩]) (.seq (.seq (.reg [⟨(some 14), (.mov (.t 5)), none⟩, ⟨(some 15), (.bin .lss (.t 14) (.c (.int .i64 0))), none⟩]) (.cond (.t 15) (.seq (.reg [⟨(some 4), (.mov (.c (.bool true))), none⟩]) .ret) .skip)) (.seq (.reg [⟨(some 16), (.mov (.t 1)), none⟩, ⟨(some 17), (.mov (.t 5)), none⟩, ⟨(some 18), (.call (.c (.fn 8 [])) [(.t 16), (.t 17)]), none⟩, ⟨(some 5), (.mov (.t 18)), none⟩]) (.seq (.seq (.reg [⟨(some 19), (.mov (.t 5)), none⟩, ⟨(some 20), (.bin .lss (.t 19) (.c (.int .i64 0))), none⟩]) (.cond (.t 20) (.seq (.reg [⟨(some 4), (.mov (.c (.bool true))), none⟩]) .ret) .skip)) (.seq (.reg [⟨(some 21), (.mov (.t 0)), none⟩, ⟨(some 22), (.call (.c (.fn 10 [])) [(.t 21), (.c (.bool false))]), none⟩, ⟨(some 23), (.mov (.t 1)), none⟩, ⟨(some 24), (.call (.c (.fn 10 [])) [(.t 23), (.c (.bool false))]), none⟩, ⟨(some 25), (.call (.c (.fn 9 [])) [(.t 22), (.t 24)]), none⟩, ⟨(some 6), (.mov (.t 25)), none⟩]) (.seq (.reg [⟨(some 26), (.mov (.t 0)), none⟩, ⟨(some 27), (.call (.c (.fn 10 [])) [(.t 26), (.c (.bool false))]), none⟩, ⟨(some 7), (.mov (.t 27)), none⟩]) (.seq (.reg [⟨(some 28), (.mov (.t 1)), none⟩, ⟨(some 29), (.call (.c (.fn 10 [])) [(.t 28), (.c (.bool false))]), none⟩, ⟨(some 8), (.mov (.t 29)), none⟩]) (.seq (.reg [⟨(some 30), (.mov (.t 7)), none⟩, ⟨(some 31), (.mov (.t 8)), none⟩, ⟨(some 32), (.call (.c (.fn 11 [])) [(.t 30), (.t 31)]), none⟩, ⟨(some 9), (.mov (.t 32)), none⟩]) (.seq (.seq (.reg [⟨(some 33), (.mov (.t 9)), none⟩, ⟨(some 34), (.mov (.t 6)), none⟩, ⟨(some 35), (.beq true (.t 33) (.t 34)), none⟩]) (.cond (.t 35) (.seq (.reg [⟨(some 4), (.mov (.c (.bool false))), none⟩]) .ret) .skip)) (.seq (.seq (.reg [⟨(some 36), (.mov (.t 7)), none⟩, ⟨(some 37), (.mov (.t 0)), none⟩, ⟨(some 38), (.call (.c (.fn 10 [])) [(.t 37), (.c (.bool false))]), none⟩, ⟨(some 39), (.call (.c (.fn 12 [])) [(.t 36), (.t 38)]), none⟩, ⟨(some 40), (.not (.t 39)), none⟩]) (.cond (.t 40) (.seq (.reg [⟨(some 4), (.mov (.c (.bool false))), none⟩]) .ret) .skip)) (.seq (.seq (.reg [⟨(some 41), (.mov (.t 8)), none⟩, ⟨(some 42), (.mov (.t 1)), none⟩, ⟨(some 43), (.call (.c (.fn 10 [])) [(.t 42), (.c (.bool false))]), none⟩, ⟨(some 44), (.call (.c (.fn 12 [])) [(.t 41), (.t 43)]), none⟩, ⟨(some 45), (.not (.t 44)), none⟩]) (.cond (.t 45) (.seq (.reg [⟨(some 4), (.mov (.c (.bool false))), none⟩]) .ret) .skip)) (.seq (.reg [⟨(some 46), (.mov (.t 0)), none⟩, ⟨(some 47), (.call (.c (.fn 10 [])) [(.t 46), (.c (.bool true))]), none⟩, ⟨(some 48), (.mov (.t 1)), none⟩, ⟨(some 49), (.call (.c (.fn 10 [])) [(.t 48), (.c (.bool true))]), none⟩, ⟨(some 50), (.call (.c (.fn 11 [])) [(.t 47), (.t 49)]), none⟩, ⟨(some 10), (.mov (.t 50)), none⟩]) (.seq (.seq (.reg [⟨(some 51), (.mov (.t 10)), none⟩, ⟨(some 52), (.mov (.t 6)), none⟩, ⟨(some 53), (.beq true (.t 51) (.t 52)), none⟩]) (.cond (.t 53) (.seq (.reg [⟨(some 4), (.mov (.c (.bool false))), none⟩]) .ret) .skip)) (.seq (.reg [⟨(some 4), (.mov (.c (.bool true))), none⟩]) .ret))))))))))))))))⟩
theorem fit_laws_FnExactProgramLike : Fit Tryz.prog 3 Tryz.f3 mf_laws_FnExactProgramLike := ⟨by kernel_rfl, Tryz.func3, by kernel_rfl, by kernel_rfl, by kernel_rfl, by kernel_rfl⟩
theorem lawProgramLike_ct (x y : Sl LModule) : Ct Tryz.prog 3 [x.I LModule.C, y.I LModule.C] (.bool true) := by
  have hsz1 := szModuleS_ct x 1000000 (by decide)
  refine ct_of_run fit_laws_FnExactProgramLike (by simp [mf_laws_FnExactProgramLike]) (by simp [go_sem]) fun hd => ?_
  simp -implicitDefEqProofs [-List.map_take, -List.map_drop, go_sem, mf_laws_FnExactProgramLike]
  by_cases hb1 : 1000000 < x.es.length + wModules (x.es.map LModule.core)
  · rw [szR_neg hb1] at hsz1
    have c1 := hsz1
    have hy := hy0
    have hdf := hy0
    exact wk1
  rw [szR_pos hb1] at hsz1
  obtain ⟨n1, hn1⟩ : ∃ n, n = 1000000 - (x.es.length + wModules (x.es.map LModule.core)) := ⟨_, rfl⟩
  rw [← hn1] at hsz1
  have hc1 : decide (((n1 : Nat) : Int) < 0) = false := by first | (simp; done) | (simp; omega)
  have hsz2 := szModuleS_ct y n1 (by omega)
  have hx : SmP (x.es.map LModule.core) := SmP_of_w _ (by rw [List.length_map]; omega)
  by_cases hb2 : n1 < y.es.length + wModules (y.es.map LModule.core)
  · rw [szR_neg hb2] at hsz2
    have c1 := hsz1
    have c2 := hsz2
    have hy := hc1
    have hdf := hy0
    exact wk1
  rw [szR_pos hb2] at hsz2
  obtain ⟨n2, hn2⟩ : ∃ n, n = n1 - (y.es.length + wModules (y.es.map LModule.core)) := ⟨_, rfl⟩
  rw [← hn2] at hsz2
  have hc2 : decide (((n2 : Nat) : Int) < 0) = false := by first | (simp; done) | (simp; omega)
  have hy : SmP (y.es.map LModule.core) := SmP_of_w _ (by rw [List.length_map]; omega)
  have hxt := toP_ct x true hx
  have hxf := toP_ct x false hx
  have hyt := toP_ct y true hy
  have hyf := toP_ct y false hy
  have hs := programLike_ct (toP false x.es) (toP false y.es) (by rw [toP_core]; exact hx) (by rw [toP_core]; exact hy)
  have hi := iprogramLike_ct (toP false x.es) (toP false y.es) (by rw [toP_core]; exact hx) (by rw [toP_core]; exact hy)
  have ht := iprogramLike_ct (toP true x.es) (toP true y.es) (by rw [toP_core]; exact hx) (by rw [toP_core]; exact hy)
  rw [toP_core, toP_core] at hs hi ht
  have hnx := intactP_ct x hx
  have hny := intactP_ct y hy
  obtain ⟨r, hr⟩ : ∃ r, r = programLike (x.es.map LModule.core) (y.es.map LModule.core) := ⟨_, rfl⟩
  rw [← hr] at hs hi ht
  have c1 := hsz1
  have c2 := hsz2
  have c3 := hxf
  have c4 := hyf
  have c5 := hxt
  have c6 := hyt
  have c7 := hs
  have c8 := hi
  have c9 := ht
  have c10 := hnx
  have c11 := hny
  have hy := And.intro (hc1) (hc2)
  have hdf := hy0
  exact wk1
end Go.Mach
