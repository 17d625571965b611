import Derived.Test.YtnkakbpefcoanaaGreatMh
import Derived.Test.YtnkakbpefcoanaaGreatWb
import Derived.Test.YtnkakbpefcoanaaGreatDb
import Derived.Test.YtnkakbpefcoanaaGreatWc
/- ProgramLike of the reference, walked. -/
set_option maxHeartbeats 4000000
namespace Go.Mach
open Go Go.Proofs
set_option linter.unusedVariables false
set_option linter.unusedSimpArgs false
attribute [local go_sem] run_seq run_skip run_reg run_blk run_exit run_ret run_cond cnd_true cnd_false kx_seq_normal kx_seq_exit kx_seq_ret kx_blk_normal kx_blk_same kx_blk_other kx_blk_ret kx_loop_exit kx_loop_ret kx_done ops_nil ops_plain ops_grd gv_tt gv_ff gv_tf gv_ft gv_tup stp_ok stp_ob stp_hp stp_bad stp_if get_t get_c putO_some putO_none put_same put_ne put_σ put_base withσ_τ withσ_σ withσ_base withσ_put withσ_withσ mk_τ mk_σ mk_base mk_withσ entry_τ entry_σ entry_base calm_nil calm_plain calm_grd cgv_tt cgv_ff cgv_tf cgv_ft cgv_tup cstp_ok cstp_ob cstp_if
attribute [local irreducible] Ct Co Cs
attribute [local go_sem] evalOp notV negV pickV binV intB seqV beqV catV lensV lenlV boxV_eq newV cellsOf cellV fadrV fldV fldC loadV loadC_ag loadC_one plainV isOwn iadrV storeV lk bdV bdL renO renL renV pureV pureL noOwnV noOwnL idxV slsV optI extV resL resV ret1 mmV cnviV cnvsV nilcV eqnV bslV bslGo appV elems okE appE getD_map okO_none okO_some strC intC Sl.I
attribute [local simp] Bind.eqa Use.eqa loadC_str loadC_int Bind.C_len Bind.C_pure Bind.C_noOwn Bind.C_cell Bind.C_bd Bind.C_bdL Bind.C_ren Bind.C_any Bind.C_any0 Bind.C_any1 Bind.C_anyt Bind.C_take Bind.C_load Bind.C_load0 Bind.C_load1 Bind.C_fld Bind.C_box Bind.C_fold Use.C_len Use.C_pure Use.C_noOwn Use.C_cell Use.C_bd Use.C_bdL Use.C_ren Use.C_any Use.C_any0 Use.C_any1 Use.C_anyt Use.C_take Use.C_load Use.C_load0 Use.C_load1 Use.C_fld Use.C_box Use.C_fold LExpr.C_len LExpr.C_pure LExpr.C_noOwn LExpr.C_cell LExpr.C_bd LExpr.C_bdL LExpr.C_ren LExpr.C_any LExpr.C_any0 LExpr.C_any1 LExpr.C_anyt LExpr.C_take LExpr.C_load LExpr.C_load0 LExpr.C_load1 LExpr.C_fld LExpr.C_box LExpr.C_fold LDecl.C_len LDecl.C_pure LDecl.C_noOwn LDecl.C_cell LDecl.C_bd LDecl.C_bdL LDecl.C_ren LDecl.C_any LDecl.C_any0 LDecl.C_any1 LDecl.C_anyt LDecl.C_take LDecl.C_load LDecl.C_load0 LDecl.C_load1 LDecl.C_fld LDecl.C_box LDecl.C_fold LModule.C_len LModule.C_pure LModule.C_noOwn LModule.C_cell LModule.C_bd LModule.C_bdL LModule.C_ren LModule.C_any LModule.C_any0 LModule.C_any1 LModule.C_anyt LModule.C_take LModule.C_load LModule.C_load0 LModule.C_load1 LModule.C_fld LModule.C_box LModule.C_fold

def lastAt_L (l : Sl Str) (s : Str) (a : Nat) : St := ⟨lk [(0, l.I strC), (1, .str s), (5, .int .i64 ((a : Int) - 1))], [], []⟩
def mf_spec_lastAt : MF := ⟨24, [(.t 4)], (.seq (.reg [⟨(some 4), (.mov (.c (.int .i64 0))), none⟩]) (.seq (.seq (.reg [⟨(some 6), (.mov (.t 0)), none⟩, ⟨(some 7), (.lenl (.t 6)), none⟩, ⟨(some 8), (.bin .sub (.t 7) (.c (.int .i64 1))), none⟩, ⟨(some 5), (.mov (.t 8)), none⟩]) (.blk 0 (.loop (.seq (.seq (.reg [⟨(some 9), (.mov (.t 5)), none⟩, ⟨(some 10), (.bin .geq (.t 9) (.c (.int .i64 0))), none⟩]) (.cond (.t 10) .skip (.exit 0))) (.seq (.blk 1 (.seq (.reg [⟨(some 13), (.mov (.t 0)), none⟩, ⟨(some 14), (.mov (.t 5)), none⟩, ⟨(some 15), (.iadr 1 (.t 13) (.t 14)), none⟩, ⟨(some 16), (.load false 1 (.t 15)), none⟩, ⟨(some 17), (.mov (.t 1)), none⟩, ⟨(some 18), (.seq false (.t 16) (.t 17)), none⟩]) (.cond (.t 18) (.seq (.reg [⟨(some 19), (.mov (.t 0)), none⟩, ⟨(some 20), (.lenl (.t 19)), none⟩, ⟨(some 21), (.bin .sub (.t 20) (.c (.int .i64 1))), none⟩, ⟨(some 22), (.mov (.t 5)), none⟩, ⟨(some 23), (.bin .sub (.t 21) (.t 22)), none⟩, ⟨(some 4), (.mov (.t 23)), none⟩]) .ret) .skip))) (.reg [⟨(some 11), (.mov (.t 5)), none⟩, ⟨(some 12), (.bin .sub (.t 11) (.c (.int .i64 1))), none⟩, ⟨(some 5), (.mov (.t 12)), none⟩])))))) (.seq (.reg [⟨(some 4), (.mov (.c (.int .i64 (-1)))), none⟩]) .ret)))⟩
theorem fit_spec_lastAt : Fit Tryz.prog 174 Tryz.f174 mf_spec_lastAt := ⟨by kernel_rfl, Tryz.func174, by kernel_rfl, by kernel_rfl, by kernel_rfl, by kernel_rfl⟩
theorem lastAt_ct (l : Sl Str) (s : Str) : Ct Tryz.prog 174 [l.I strC, .str s] (.int .i64 (lastD l.es s)) := by
  refine ct_of_run fit_spec_lastAt (by simp [mf_spec_lastAt]) (by simp [go_sem]) fun hd => ?_
  simp -implicitDefEqProofs [-List.map_take, -List.map_drop, go_sem, mf_spec_lastAt]
  have hm : l.es.length ≤ maxLen := by simp [deepL, deepV, Sl.I] at hd; omega
  simp only [maxLen] at hm
  have hw0 : IntKind.i64.wrap ((l.es.length : Int) - 1) = (l.es.length : Int) - 1 := wrap_small (by omega) (by omega)
  simp -implicitDefEqProofs [-List.map_take, -List.map_drop, go_sem, hw0]
  refine run_while (lastAt_L l s) (fun a => a) (fun a => lastDTo s l.es a = lastD l.es s ∧ a ≤ l.es.length) l.es.length (gh_auto (by simp [go_sem, lastAt_L, hw0])) ⟨rfl, Nat.le_refl _⟩ ?_
  rintro j ⟨hj, hjl⟩
  simp -implicitDefEqProofs [-List.map_take, -List.map_drop, go_sem, lastAt_L]
  cases j with
  | zero =>
    simp only [lastDTo] at hj
    simp -implicitDefEqProofs [-List.map_take, -List.map_drop, go_sem]
    have hy := hy0
    have hdf := hy0
    exact wk0
  | succ j =>
    have hlt : j < l.es.length := hjl
    have hlt' : ((j + 1 : Nat) : Int) - 1 = j := by omega
    have hw : IntKind.i64.wrap ((j : Int) - 1) = (j : Int) - 1 := wrap_small (by omega) (by omega)
    have hw2 : IntKind.i64.wrap ((l.es.length : Int) - 1 - j) = (l.es.length : Int) - 1 - j := wrap_small (by omega) (by omega)
    simp only [lastDTo, strIs, List.getElem?_eq_getElem hlt] at hj
    rw [hlt']
    simp -implicitDefEqProofs [-List.map_take, -List.map_drop, go_sem, hlt]
    repeat' first
      | ((first | refine gv_split (fun h => ?_) (fun h => ?_) | refine cnd_split (fun h => ?_) (fun h => ?_) | refine cgv_split (fun h => ?_) (fun h => ?_)) <;> (try (have hp := h; simp at hp)) <;> simp -implicitDefEqProofs [-List.map_take, -List.map_drop, go_sem, h, hlt, hw0, hw2])
      | (refine And.intro (by first | omega | (simp only [maxLen]; omega) | (simp_all; done) | (simp_all; omega)) ?_; try simp -implicitDefEqProofs [-List.map_take, -List.map_drop, go_sem, hlt, hw0, hw2])
      | (refine run_dreg' (by decide) ?_; simp -implicitDefEqProofs [-List.map_take, -List.map_drop, go_sem, hlt, hw0, hw2])
      | ((first | refine end_tup _ (by simp) (by simp [go_sem]; rfl) (by simp [go_sem]) ?_); first | (simp [go_sem, *]; done) | grind | (simp [go_sem]; grind) | (simp_all [go_sem]; done) | (simp_all [go_sem]; omega))
    refine kx_more j (by simp) (gh_auto (by simp [go_sem, lastAt_L, hw])) ?_
    refine ⟨?_, by omega⟩
    rw [← hj, if_neg (by simpa using hp)]
def useIn_L (l : Sl Use) (u : Use) (i : Nat) (_ : Unit) : St := ⟨lk [(0, l.I Use.C), (3, .ptr 0 1 0 0), (5, .int .i64 i)], [some ⟨[[.str u.module, .str u.name]], 2, 99, false, false⟩], []⟩
def mf_spec_useIn : MF := ⟨18, [(.t 4)], (.seq (.reg [⟨(some 3), (.box 99 (.t 1)), none⟩, ⟨(some 4), (.mov (.c (.bool false))), none⟩]) (.seq (.seq (.reg [⟨(some 5), (.mov (.c (.int .i64 0))), none⟩]) (.blk 0 (.loop (.seq (.seq (.reg [⟨(some 6), (.mov (.t 5)), none⟩, ⟨(some 7), (.mov (.t 0)), none⟩, ⟨(some 8), (.lenl (.t 7)), none⟩, ⟨(some 9), (.bin .lss (.t 6) (.t 8)), none⟩]) (.cond (.t 9) .skip (.exit 0))) (.seq (.blk 1 (.seq (.dreg [(⟨(some 12), (.mov (.t 0)), none⟩, []), (⟨(some 13), (.mov (.t 5)), none⟩, []), (⟨(some 14), (.iadr 2 (.t 12) (.t 13)), none⟩, [0, 1]), (⟨(some 15), (.load true 2 (.t 14)), none⟩, [2]), (⟨(some 16), (.load true 2 (.t 3)), none⟩, []), (⟨(some 17), (.eqa false [.s, .s] (.t 15) (.t 16)), none⟩, [3, 4])]) (.cond (.t 17) (.seq (.reg [⟨(some 4), (.mov (.c (.bool true))), none⟩]) .ret) .skip))) (.reg [⟨(some 10), (.mov (.t 5)), none⟩, ⟨(some 11), (.bin .add (.t 10) (.c (.int .i64 1))), none⟩, ⟨(some 5), (.mov (.t 11)), none⟩])))))) (.seq (.reg [⟨(some 4), (.mov (.c (.bool false))), none⟩]) .ret)))⟩
theorem fit_spec_useIn : Fit Tryz.prog 124 Tryz.f124 mf_spec_useIn := ⟨by kernel_rfl, Tryz.func124, by kernel_rfl, by kernel_rfl, by kernel_rfl, by kernel_rfl⟩
theorem useIn_ct (l : Sl Use) (u : Use) : Ct Tryz.prog 124 [l.I Use.C, .agg u.C] (.bool (l.es.any fun x => x == u)) := by
  refine ct_of_run fit_spec_useIn (by simp [mf_spec_useIn]) (by simp [go_sem]) fun hd => ?_
  simp -implicitDefEqProofs [-List.map_take, -List.map_drop, go_sem, mf_spec_useIn]
  have hm : l.es.length ≤ maxLen := sl_deep hd.1
  refine run_iter (l.es.length) (useIn_L l u) (fun i a => ((l.es.drop i).any fun x => x == u) = (l.es.any fun x => x == u)) () (gh_auto (by simp [go_sem, useIn_L])) (by first | (simp; done) | (simp []; done) | (simp []; omega) | grind) ?_
  intro i a hi hj
  simp -implicitDefEqProofs [-List.map_take, -List.map_drop, go_sem, useIn_L]
  refine cnd_split (fun hc => ?_) (fun hc => ?_)
  · have hlt : i < l.es.length := by first | (simpa using hc) | (simp at hc; omega)
    rw [List.drop_eq_getElem_cons (l := l.es) (by omega)] at hj
    simp only [List.map_cons, List.any_cons, List.any_nil] at hj
    simp -implicitDefEqProofs [-List.map_take, -List.map_drop, go_sem, hlt]
    have hy := hlt
    have hdf := hy0
    have eL := @useIn_L.eq_1
    have hm0 := hm
    have hlt0 := hlt
    exact wk0n
  · have hge : l.es.length ≤ i := by first | (simpa using hc) | (simp at hc; omega)
    rw [List.drop_of_length_le (l := l.es) (by omega)] at hj
    simp only [List.map_nil, List.any_cons, List.any_nil] at hj
    try simp -implicitDefEqProofs [-List.map_take, -List.map_drop, go_sem]
    have hy := hy0
    have hdf := hy0
    exact wk0
def usesLike_L (x y : Sl Use) (i : Nat) (_ : Unit) : St := ⟨lk [(0, x.I Use.C), (1, y.I Use.C), (5, .int .i64 i)], [], []⟩
def mf_spec_usesLike : MF := ⟨24, [(.t 4)], (.seq (.reg [⟨(some 4), (.mov (.c (.bool false))), none⟩]) (.seq (.seq (.reg [⟨(some 6), (.mov (.t 0)), none⟩, ⟨(some 7), (.lenl (.t 6)), none⟩, ⟨(some 8), (.mov (.t 1)), none⟩, ⟨(some 9), (.lenl (.t 8)), none⟩, ⟨(some 10), (.bin .neq (.t 7) (.t 9)), none⟩]) (.cond (.t 10) (.seq (.reg [⟨(some 4), (.mov (.c (.bool false))), none⟩]) .ret) .skip)) (.seq (.seq (.reg [⟨(some 5), (.mov (.c (.int .i64 0))), none⟩]) (.blk 0 (.loop (.seq (.seq (.reg [⟨(some 11), (.mov (.t 5)), none⟩, ⟨(some 12), (.mov (.t 0)), none⟩, ⟨(some 13), (.lenl (.t 12)), none⟩, ⟨(some 14), (.bin .lss (.t 11) (.t 13)), none⟩]) (.cond (.t 14) .skip (.exit 0))) (.seq (.blk 1 (.seq (.reg [⟨(some 17), (.mov (.t 1)), none⟩, ⟨(some 18), (.mov (.t 0)), none⟩, ⟨(some 19), (.mov (.t 5)), none⟩, ⟨(some 20), (.iadr 2 (.t 18) (.t 19)), none⟩, ⟨(some 21), (.load true 2 (.t 20)), none⟩, ⟨(some 22), (.call (.c (.fn 124 [])) [(.t 17), (.t 21)]), none⟩, ⟨(some 23), (.not (.t 22)), none⟩]) (.cond (.t 23) (.seq (.reg [⟨(some 4), (.mov (.c (.bool false))), none⟩]) .ret) .skip))) (.reg [⟨(some 15), (.mov (.t 5)), none⟩, ⟨(some 16), (.bin .add (.t 15) (.c (.int .i64 1))), none⟩, ⟨(some 5), (.mov (.t 16)), none⟩])))))) (.seq (.reg [⟨(some 4), (.mov (.c (.bool true))), none⟩]) .ret))))⟩
theorem fit_spec_usesLike : Fit Tryz.prog 64 Tryz.f64 mf_spec_usesLike := ⟨by kernel_rfl, Tryz.func64, by kernel_rfl, by kernel_rfl, by kernel_rfl, by kernel_rfl⟩
theorem usesLike_ct (x y : Sl Use) : Ct Tryz.prog 64 [x.I Use.C, y.I Use.C] (.bool (usesLike x.es y.es)) := by
  refine ct_of_run fit_spec_usesLike (by simp [mf_spec_usesLike]) (by simp [go_sem]) fun hd => ?_
  simp -implicitDefEqProofs [-List.map_take, -List.map_drop, go_sem, mf_spec_usesLike]
  have hm : x.es.length ≤ maxLen := sl_deep hd.1
  repeat' first
    | ((first | refine gv_split (fun h => ?_) (fun h => ?_) | refine cnd_split (fun h => ?_) (fun h => ?_) | refine cgv_split (fun h => ?_) (fun h => ?_)) <;> (try (have hp := h; simp at hp)) <;> simp -implicitDefEqProofs [-List.map_take, -List.map_drop, go_sem, h])
    | (refine And.intro (by first | omega | (simp only [maxLen]; omega) | (simp_all; done) | (simp_all; omega)) ?_; try simp -implicitDefEqProofs [-List.map_take, -List.map_drop, go_sem])
    | (refine run_dreg' (by decide) ?_; simp -implicitDefEqProofs [-List.map_take, -List.map_drop, go_sem])
    | ((first | refine end_tup _ (by simp) (by simp [go_sem]; rfl) (by simp [go_sem]) ?_); first | (simp [go_sem, *, usesLike]; done) | grind [usesLike] | (simp [go_sem, usesLike]; grind [usesLike]) | (simp_all [go_sem, usesLike]; done) | (simp_all [go_sem, usesLike]; omega))
  have hlen : x.es.length = y.es.length := by omega
  refine run_iter (x.es.length) (usesLike_L x y) (fun i a => ((x.es.drop i).all fun u => y.es.any fun x => x == u) = (x.es.all fun u => y.es.any fun x => x == u)) () (gh_auto (by simp [go_sem, usesLike_L])) (by first | (simp; done) | (simp [usesLike]; done) | (simp [usesLike]; omega) | grind) ?_
  intro i a hi hj
  simp -implicitDefEqProofs [-List.map_take, -List.map_drop, go_sem, usesLike_L]
  refine cnd_split (fun hc => ?_) (fun hc => ?_)
  · have hlt : i < x.es.length := by first | (simpa using hc) | (simp at hc; omega)
    rw [List.drop_eq_getElem_cons (l := x.es) (by omega)] at hj
    simp only [List.map_cons, List.all_cons, List.all_nil] at hj
    simp -implicitDefEqProofs [-List.map_take, -List.map_drop, go_sem, hlt]
    have c1 := useIn_ct y x.es[i]
    have hy := hlt
    have e1 := @usesLike.eq_1
    have hdf := @e1
    have eL := @usesLike_L.eq_1
    have hm0 := hm
    have hlt0 := hlt
    exact wk1n
  · have hge : x.es.length ≤ i := by first | (simpa using hc) | (simp at hc; omega)
    rw [List.drop_of_length_le (l := x.es) (by omega)] at hj
    simp only [List.map_nil, List.all_cons, List.all_nil] at hj
    try simp -implicitDefEqProofs [-List.map_take, -List.map_drop, go_sem]
    have hy := hy0
    have e1 := @usesLike.eq_1
    have hdf := @e1
    exact wk0
end Go.Mach

/- Likeness of expressions, of the reference, walked. -/
set_option maxHeartbeats 4000000
namespace Go.Mach
open Go Go.Proofs
set_option linter.unusedVariables false
set_option linter.unusedSimpArgs false
attribute [local go_sem] run_seq run_skip run_reg run_blk run_exit run_ret run_cond cnd_true cnd_false kx_seq_normal kx_seq_exit kx_seq_ret kx_blk_normal kx_blk_same kx_blk_other kx_blk_ret kx_loop_exit kx_loop_ret kx_done ops_nil ops_plain ops_grd gv_tt gv_ff gv_tf gv_ft gv_tup stp_ok stp_ob stp_hp stp_bad stp_if get_t get_c putO_some putO_none put_same put_ne put_σ put_base withσ_τ withσ_σ withσ_base withσ_put withσ_withσ mk_τ mk_σ mk_base mk_withσ entry_τ entry_σ entry_base calm_nil calm_plain calm_grd cgv_tt cgv_ff cgv_tf cgv_ft cgv_tup cstp_ok cstp_ob cstp_if
attribute [local irreducible] Ct Co Cs
attribute [local go_sem] evalOp notV negV pickV binV intB seqV beqV catV lensV lenlV boxV_eq newV cellsOf cellV fadrV fldV fldC loadV loadC_ag loadC_one plainV isOwn iadrV storeV lk bdV bdL renO renL renV pureV pureL noOwnV noOwnL idxV slsV optI extV resL resV ret1 mmV cnviV cnvsV nilcV eqnV bslV bslGo appV elems okE appE getD_map okO_none okO_some strC intC Sl.I
attribute [local simp] Bind.eqa Use.eqa loadC_str loadC_int Bind.C_len Bind.C_pure Bind.C_noOwn Bind.C_cell Bind.C_bd Bind.C_bdL Bind.C_ren Bind.C_any Bind.C_any0 Bind.C_any1 Bind.C_anyt Bind.C_take Bind.C_load Bind.C_load0 Bind.C_load1 Bind.C_fld Bind.C_box Bind.C_fold Use.C_len Use.C_pure Use.C_noOwn Use.C_cell Use.C_bd Use.C_bdL Use.C_ren Use.C_any Use.C_any0 Use.C_any1 Use.C_anyt Use.C_take Use.C_load Use.C_load0 Use.C_load1 Use.C_fld Use.C_box Use.C_fold LExpr.C_len LExpr.C_pure LExpr.C_noOwn LExpr.C_cell LExpr.C_bd LExpr.C_bdL LExpr.C_ren LExpr.C_any LExpr.C_any0 LExpr.C_any1 LExpr.C_anyt LExpr.C_take LExpr.C_load LExpr.C_load0 LExpr.C_load1 LExpr.C_fld LExpr.C_box LExpr.C_fold LDecl.C_len LDecl.C_pure LDecl.C_noOwn LDecl.C_cell LDecl.C_bd LDecl.C_bdL LDecl.C_ren LDecl.C_any LDecl.C_any0 LDecl.C_any1 LDecl.C_anyt LDecl.C_take LDecl.C_load LDecl.C_load0 LDecl.C_load1 LDecl.C_fld LDecl.C_box LDecl.C_fold LModule.C_len LModule.C_pure LModule.C_noOwn LModule.C_cell LModule.C_bd LModule.C_bdL LModule.C_ren LModule.C_any LModule.C_any0 LModule.C_any1 LModule.C_anyt LModule.C_take LModule.C_load LModule.C_load0 LModule.C_load1 LModule.C_fld LModule.C_box LModule.C_fold
attribute [local go_sem] mix_nil mix_fplain mix_fgrd mix_oplain fg_tt fg_ff fg_tf fg_ft fg_tup fstp_ok fstp_ob fstp_if og_tt og_ff dstIn

def like_L (x y : LExpr) (va vb : Sl Str) (i : Nat) (_ : Unit) : St := ⟨lk [(2, va.I strC), (3, vb.I strC), (4, .ptr 0 1 0 0), (5, .ptr 1 1 0 0), (11, .int .i64 i)], [some ⟨[[.int .i64 x.kind, .int .i64 x.num, .str x.text, .imm (x.kids.map LExpr.C) x.sp x.lim]], 4, 48, false, false⟩, some ⟨[[.int .i64 y.kind, .int .i64 y.num, .str y.text, .imm (y.kids.map LExpr.C) y.sp y.lim]], 4, 48, false, false⟩], []⟩
def mf_spec_like : MF := ⟨124, [(.t 8)], (.seq (.reg [⟨(some 4), (.box 48 (.t 0)), none⟩, ⟨(some 5), (.box 48 (.t 1)), none⟩, ⟨(some 8), (.mov (.c (.bool false))), none⟩]) (.seq (.seq (.reg [⟨(some 12), (.fadr 0 (.t 4)), none⟩, ⟨(some 13), (.load false 1 (.t 12)), none⟩, ⟨(some 14), (.fadr 0 (.t 5)), none⟩, ⟨(some 15), (.load false 1 (.t 14)), none⟩, ⟨(some 16), (.bin .neq (.t 13) (.t 15)), none⟩, ⟨(some 17), (.mov (.t 16)), none⟩, ⟨(some 18), (.fadr 1 (.t 4)), (some (17, false))⟩, ⟨(some 19), (.load false 1 (.t 18)), (some (17, false))⟩, ⟨(some 20), (.fadr 1 (.t 5)), (some (17, false))⟩, ⟨(some 21), (.load false 1 (.t 20)), (some (17, false))⟩, ⟨(some 22), (.bin .neq (.t 19) (.t 21)), (some (17, false))⟩, ⟨(some 23), (.pick (.t 17) (.c (.bool true)) (.t 22)), none⟩, ⟨(some 24), (.mov (.t 23)), none⟩, ⟨(some 25), (.fadr 3 (.t 4)), (some (24, false))⟩, ⟨(some 26), (.load false 1 (.t 25)), (some (24, false))⟩, ⟨(some 27), (.lenl (.t 26)), (some (24, false))⟩, ⟨(some 28), (.fadr 3 (.t 5)), (some (24, false))⟩, ⟨(some 29), (.load false 1 (.t 28)), (some (24, false))⟩, ⟨(some 30), (.lenl (.t 29)), (some (24, false))⟩, ⟨(some 31), (.bin .neq (.t 27) (.t 30)), (some (24, false))⟩, ⟨(some 32), (.pick (.t 24) (.c (.bool true)) (.t 31)), none⟩]) (.cond (.t 32) (.seq (.reg [⟨(some 8), (.mov (.c (.bool false))), none⟩]) .ret) .skip)) (.seq (.seq (.reg [⟨(some 33), (.fadr 0 (.t 4)), none⟩, ⟨(some 34), (.load false 1 (.t 33)), none⟩]) (.blk 0 (.seq (.reg [⟨(some 36), (.bin .eql (.t 34) (.c (.int .i64 3))), none⟩, ⟨(some 35), (.mov (.t 36)), none⟩]) (.cond (.t 35) (.seq (.reg [⟨(some 37), (.mov (.t 2)), none⟩, ⟨(some 38), (.fadr 2 (.t 4)), none⟩, ⟨(some 39), (.load false 1 (.t 38)), none⟩, ⟨(some 40), (.call (.c (.fn 174 [])) [(.t 37), (.t 39)]), none⟩, ⟨(some 9), (.mov (.t 40)), none⟩]) (.seq (.reg [⟨(some 41), (.mov (.t 9)), none⟩, ⟨(some 42), (.mov (.t 3)), none⟩, ⟨(some 43), (.fadr 2 (.t 5)), none⟩, ⟨(some 44), (.load false 1 (.t 43)), none⟩, ⟨(some 45), (.call (.c (.fn 174 [])) [(.t 42), (.t 44)]), none⟩, ⟨(some 46), (.bin .eql (.t 41) (.t 45)), none⟩, ⟨(some 47), (.mov (.t 46)), none⟩, ⟨(some 48), (.mov (.t 9)), (some (47, true))⟩, ⟨(some 49), (.bin .geq (.t 48) (.c (.int .i64 0))), (some (47, true))⟩, ⟨(some 50), (.mov (.t 49)), (some (47, true))⟩, ⟨(some 51), (.fadr 2 (.t 4)), (some (50, false))⟩, ⟨(some 52), (.load false 1 (.t 51)), (some (50, false))⟩, ⟨(some 53), (.fadr 2 (.t 5)), (some (50, false))⟩, ⟨(some 54), (.load false 1 (.t 53)), (some (50, false))⟩, ⟨(some 55), (.seq false (.t 52) (.t 54)), (some (50, false))⟩, ⟨(some 56), (.pick (.t 50) (.c (.bool true)) (.t 55)), (some (47, true))⟩, ⟨(some 57), (.pick (.t 47) (.t 56) (.c (.bool false))), none⟩, ⟨(some 8), (.mov (.t 57)), none⟩]) .ret)) (.seq (.seq (.reg [⟨(some 59), (.bin .eql (.t 34) (.c (.int .i64 11))), none⟩, ⟨(some 58), (.mov (.t 59)), none⟩]) (.cond (.t 58) .skip (.reg [⟨(some 60), (.bin .eql (.t 34) (.c (.int .i64 12))), none⟩, ⟨(some 58), (.mov (.t 60)), none⟩]))) (.cond (.t 58) (.seq (.dreg [(⟨(some 61), (.bsl 9 1 0 [(.str [])] []), none⟩, []), (⟨(some 62), (.mov (.t 2)), none⟩, []), (⟨(some 63), (.app 9 1 16 (.t 61) (.t 62)), none⟩, [0, 1]), (⟨(some 64), (.fadr 2 (.t 4)), none⟩, []), (⟨(some 65), (.load false 1 (.t 64)), none⟩, [3]), (⟨(some 66), (.bsl 9 1 1 [(.str [])] [(0, (.t 65))]), none⟩, [4]), (⟨(some 67), (.app 9 1 16 (.t 63) (.t 66)), none⟩, [2, 5, 2]), (⟨(some 10), (.mov (.t 67)), none⟩, [6, 6, 0, 1, 2, 3, 4, 5, 6])]) (.seq (.dreg [(⟨(some 68), (.fadr 3 (.t 4)), none⟩, []), (⟨(some 69), (.load false 1 (.t 68)), none⟩, [0]), (⟨(some 70), (.iadr 4 (.t 69) (.c (.int .i64 0))), none⟩, [1]), (⟨(some 71), (.load true 4 (.t 70)), none⟩, [2]), (⟨(some 72), (.fadr 3 (.t 5)), none⟩, []), (⟨(some 73), (.load false 1 (.t 72)), none⟩, [4]), (⟨(some 74), (.iadr 4 (.t 73) (.c (.int .i64 0))), none⟩, [5]), (⟨(some 75), (.load true 4 (.t 74)), none⟩, [6]), (⟨(some 76), (.mov (.t 2)), none⟩, []), (⟨(some 77), (.mov (.t 3)), none⟩, []), (⟨(some 78), (.call (.c (.fn 126 [])) [(.t 71), (.t 75), (.t 76), (.t 77)]), none⟩, [3, 7, 8, 9]), (⟨(some 79), (.mov (.t 78)), none⟩, [10, 10]), (⟨(some 80), (.fadr 3 (.t 4)), (some (79, true))⟩, [11]), (⟨(some 81), (.load false 1 (.t 80)), (some (79, true))⟩, [12, 11]), (⟨(some 82), (.iadr 4 (.t 81) (.c (.int .i64 1))), (some (79, true))⟩, [13, 11]), (⟨(some 83), (.load true 4 (.t 82)), (some (79, true))⟩, [14, 11]), (⟨(some 84), (.fadr 3 (.t 5)), (some (79, true))⟩, [11]), (⟨(some 85), (.load false 1 (.t 84)), (some (79, true))⟩, [16, 11]), (⟨(some 86), (.iadr 4 (.t 85) (.c (.int .i64 1))), (some (79, true))⟩, [17, 11]), (⟨(some 87), (.load true 4 (.t 86)), (some (79, true))⟩, [18, 11]), (⟨(some 88), (.mov (.t 10)), (some (79, true))⟩, [11]), (⟨(some 89), (.bsl 9 1 0 [(.str [])] []), (some (79, true))⟩, [11]), (⟨(some 90), (.mov (.t 3)), (some (79, true))⟩, [11]), (⟨(some 91), (.app 9 1 16 (.t 89) (.t 90)), (some (79, true))⟩, [21, 22, 11, 11]), (⟨(some 92), (.fadr 2 (.t 5)), (some (79, true))⟩, [11]), (⟨(some 93), (.load false 1 (.t 92)), (some (79, true))⟩, [24, 11]), (⟨(some 94), (.bsl 9 1 1 [(.str [])] [(0, (.t 93))]), (some (79, true))⟩, [25, 11]), (⟨(some 95), (.app 9 1 16 (.t 91) (.t 94)), (some (79, true))⟩, [23, 26, 23, 11]), (⟨(some 96), (.call (.c (.fn 126 [])) [(.t 83), (.t 87), (.t 88), (.t 95)]), (some (79, true))⟩, [15, 19, 20, 27, 27, 11]), (⟨(some 97), (.pick (.t 79) (.t 96) (.c (.bool false))), none⟩, [11, 28]), (⟨(some 8), (.mov (.t 97)), none⟩, [29, 28, 0, 1, 2, 3, 4, 5, 6, 7, 8, 9, 10, 11, 12, 13, 14, 15, 16, 17, 18, 19, 20, 21, 22, 23, 24, 25, 26, 27, 28, 29])]) .ret)) .skip)))))) (.seq (.seq (.reg [⟨(some 98), (.fadr 2 (.t 4)), none⟩, ⟨(some 99), (.load false 1 (.t 98)), none⟩, ⟨(some 100), (.fadr 2 (.t 5)), none⟩, ⟨(some 101), (.load false 1 (.t 100)), none⟩, ⟨(some 102), (.seq true (.t 99) (.t 101)), none⟩]) (.cond (.t 102) (.seq (.reg [⟨(some 8), (.mov (.c (.bool false))), none⟩]) .ret) .skip)) (.seq (.seq (.reg [⟨(some 11), (.mov (.c (.int .i64 0))), none⟩]) (.blk 1 (.loop (.seq (.seq (.reg [⟨(some 103), (.mov (.t 11)), none⟩, ⟨(some 104), (.fadr 3 (.t 4)), none⟩, ⟨(some 105), (.load false 1 (.t 104)), none⟩, ⟨(some 106), (.lenl (.t 105)), none⟩, ⟨(some 107), (.bin .lss (.t 103) (.t 106)), none⟩]) (.cond (.t 107) .skip (.exit 1))) (.seq (.blk 2 (.seq (.dreg [(⟨(some 110), (.fadr 3 (.t 4)), none⟩, []), (⟨(some 111), (.load false 1 (.t 110)), none⟩, [0]), (⟨(some 112), (.mov (.t 11)), none⟩, []), (⟨(some 113), (.iadr 4 (.t 111) (.t 112)), none⟩, [1, 2]), (⟨(some 114), (.load true 4 (.t 113)), none⟩, [3]), (⟨(some 115), (.fadr 3 (.t 5)), none⟩, []), (⟨(some 116), (.load false 1 (.t 115)), none⟩, [5]), (⟨(some 117), (.mov (.t 11)), none⟩, []), (⟨(some 118), (.iadr 4 (.t 116) (.t 117)), none⟩, [6, 7]), (⟨(some 119), (.load true 4 (.t 118)), none⟩, [8]), (⟨(some 120), (.mov (.t 2)), none⟩, []), (⟨(some 121), (.mov (.t 3)), none⟩, []), (⟨(some 122), (.call (.c (.fn 126 [])) [(.t 114), (.t 119), (.t 120), (.t 121)]), none⟩, [4, 9, 10, 11]), (⟨(some 123), (.not (.t 122)), none⟩, [12])]) (.cond (.t 123) (.seq (.reg [⟨(some 8), (.mov (.c (.bool false))), none⟩]) .ret) .skip))) (.reg [⟨(some 108), (.mov (.t 11)), none⟩, ⟨(some 109), (.bin .add (.t 108) (.c (.int .i64 1))), none⟩, ⟨(some 11), (.mov (.t 109)), none⟩])))))) (.seq (.reg [⟨(some 8), (.mov (.c (.bool true))), none⟩]) .ret))))))⟩
theorem fit_spec_like : Fit Tryz.prog 126 Tryz.f126 mf_spec_like := ⟨by kernel_rfl, Tryz.func126, by kernel_rfl, by kernel_rfl, by kernel_rfl, by kernel_rfl⟩
theorem like_ct (x y : LExpr) (va vb : Sl Str) (d : Nat) (ha : x.core.Ar d) (hl : va.es.length = vb.es.length) (hs : va.es.length + d ≤ 1000) :
    Ct Tryz.prog 126 [.agg x.C, .agg y.C, va.I strC, vb.I strC] (.bool (likeE x.core y.core va.es vb.es)) := by
  refine ct_of_run fit_spec_like (by simp [mf_spec_like]) (by simp [go_sem]) fun hd => ?_
  simp -implicitDefEqProofs [-List.map_take, -List.map_drop, go_sem, mf_spec_like]
  have hm : x.kids.length ≤ maxLen := by have := LExpr.deep hd.1; omega
  rw [likeE_eq, LExpr.core_kind, LExpr.core_num, LExpr.core_text, LExpr.core_kids, LExpr.core_kind, LExpr.core_num, LExpr.core_text, LExpr.core_kids, List.length_map, List.length_map]
  rw [Expr.Ar_eq, LExpr.core_kind, LExpr.core_kids, List.length_map] at ha
  obtain ⟨hd0, ha1, ha2⟩ := ha
  by_cases hlen : x.kids.length = y.kids.length
  case neg =>
    have hli : ((x.kids.length : Int) != (y.kids.length : Int)) = true := by simp; omega
    have hy := hli
    have hdf := hy0
    exact wk0
  have hli : ((x.kids.length : Int) != (y.kids.length : Int)) = false := by simp; omega
  by_cases hk : x.kind = 3
  · have hk' : (x.kind == 3) = true := by simpa using hk
    have ⟨hq1, hq2⟩ := lastD_same hl x.text y.text
    have c1 := lastAt_ct va x.text
    have c2 := lastAt_ct vb y.text
    have hy := And.intro (hli) (hk')
    have hdf := hy0
    exact wk1
  have hk' : (x.kind == 3) = false := by simpa using hk
  by_cases hb : x.kind = 11 ∨ x.kind = 12
  · have hlx := ha1 hb
    have hly : y.kids.length = 2 := by omega
    obtain ⟨x0, x1, hx⟩ : ∃ x0 x1, x.kids = [x0, x1] := by
      match hxk : x.kids, hlx with
      | [x0, x1], _ => exact ⟨x0, x1, rfl⟩
    obtain ⟨y0, y1, hy⟩ : ∃ y0 y1, y.kids = [y0, y1] := by
      match hyk : y.kids, hly with
      | [y0, y1], _ => exact ⟨y0, y1, rfl⟩
    rw [hx] at ha2
    obtain ⟨hx0, hx1, _⟩ := ha2
    have h0 := like_ct x0 y0 va vb (d - 1) hx0 hl (by omega)
    have h1 := like_ct x1 y1 ⟨va.es ++ [x.text], [], false⟩ ⟨vb.es ++ [y.text], [], false⟩ (d - 1) hx1 (by simp [hl]) (by simp; omega)
    rcases hb with hb | hb
    · have hb' : (x.kind == 11) = true := by simpa using hb
      repeat' first
        | ((first | refine gv_split (fun h => ?_) (fun h => ?_) | refine cnd_split (fun h => ?_) (fun h => ?_) | refine cgv_split (fun h => ?_) (fun h => ?_)) <;> (try (have hp := h; simp at hp)) <;> simp -implicitDefEqProofs [-List.map_take, -List.map_drop, go_sem, h, hli, hk', hb', hx, hy])
        | (refine And.intro (by first | omega | (simp only [maxLen]; omega) | (simp_all; done) | (simp_all; omega)) ?_; try simp -implicitDefEqProofs [-List.map_take, -List.map_drop, go_sem, hli, hk', hb', hx, hy])
        | ((first | refine stp_ct (h0) (by simp [go_sem, hli, hk', hb', hx, hy]) ?_ ?_ | refine cstp_ct (h0) (by simp [go_sem, hli, hk', hb', hx, hy]) ?_ ?_); (simp [go_sem]); simp -implicitDefEqProofs [-List.map_take, -List.map_drop, go_sem, hli, hk', hb', hx, hy])
        | (refine run_mixD [61, 63, 67, 89, 91, 95, 96] (by decide) ?_; simp -implicitDefEqProofs [-List.map_take, -List.map_drop, go_sem, hli, hk', hb', hx, hy])
        | (refine fg_split (fun h => ?_) (fun h => ?_) <;> (try (have hp := h; simp at hp)) <;> simp -implicitDefEqProofs [-List.map_take, -List.map_drop, go_sem, h, hli, hk', hb', hx, hy])
        | ((first | refine fstp_ct (h0) (by simp [go_sem, hli, hk', hb', hx, hy]) ?_ ?_); (simp [go_sem]); simp -implicitDefEqProofs [-List.map_take, -List.map_drop, go_sem, hli, hk', hb', hx, hy])
        | (refine fstp_imm (fun ext => rfl) ?_ ?_ ?_ ?_; (focus (first | rfl | (simp; done))); (simp [go_sem]); (focus (first | trivial | omega | (simp [go_sem]; done) | (simp [go_sem]; omega))); simp -implicitDefEqProofs [-List.map_take, -List.map_drop, go_sem, hli, hk', hb', hx, hy])
        | (refine ostp_hp ⟨_, rfl⟩ ?_ ?_; (focus (first | trivial | omega | (simp [go_sem]; done) | (simp [go_sem]; omega))); simp -implicitDefEqProofs [-List.map_take, -List.map_drop, go_sem, hli, hk', hb', hx, hy])
        | ((first | refine ostp_snap 3 (h1) (by repeat' first | exact snapW_nil | (refine snapW_pure (by simp [go_sem]) ?_) | (refine snapW_ref (by first | rfl | (simp [go_sem]; rfl)) (by simp) (by simp [go_sem]) (by simp [go_sem]) ?_)) ⟨_, rfl⟩ ?_ ?_ ?_); (simp [closedV]); (simp [go_sem]); simp -implicitDefEqProofs [-List.map_take, -List.map_drop, go_sem, hli, hk', hb', hx, hy])
        | (refine ostp_ok ⟨_, rfl⟩ ?_; simp -implicitDefEqProofs [-List.map_take, -List.map_drop, go_sem, hli, hk', hb', hx, hy])
        | (refine mix_ogrd ?_; simp -implicitDefEqProofs [-List.map_take, -List.map_drop, go_sem, hli, hk', hb', hx, hy])
        | ((first | refine og_tf ⟨_, rfl⟩ ?_ | refine og_ft ⟨_, rfl⟩ ?_ | refine og_tup ⟨_, rfl⟩ ?_); simp -implicitDefEqProofs [-List.map_take, -List.map_drop, go_sem, hli, hk', hb', hx, hy])
        | ((first | refine end_tup _ (by simp) (by simp [go_sem]; rfl) (by simp [go_sem]) ?_); first | (simp [go_sem, *, likeEs_cons, likeEs_nil]; done) | grind [likeEs_cons, likeEs_nil] | (simp [go_sem, likeEs_cons, likeEs_nil]; grind [likeEs_cons, likeEs_nil]) | (simp_all [go_sem, likeEs_cons, likeEs_nil]; done) | (simp_all [go_sem, likeEs_cons, likeEs_nil]; omega))
    · have hb' : (x.kind == 11) = false := by simp; omega
      have hb2 : (x.kind == 12) = true := by simpa using hb
      repeat' first
        | ((first | refine gv_split (fun h => ?_) (fun h => ?_) | refine cnd_split (fun h => ?_) (fun h => ?_) | refine cgv_split (fun h => ?_) (fun h => ?_)) <;> (try (have hp := h; simp at hp)) <;> simp -implicitDefEqProofs [-List.map_take, -List.map_drop, go_sem, h, hli, hk', hb', hb2, hx, hy])
        | (refine And.intro (by first | omega | (simp only [maxLen]; omega) | (simp_all; done) | (simp_all; omega)) ?_; try simp -implicitDefEqProofs [-List.map_take, -List.map_drop, go_sem, hli, hk', hb', hb2, hx, hy])
        | ((first | refine stp_ct (h0) (by simp [go_sem, hli, hk', hb', hb2, hx, hy]) ?_ ?_ | refine cstp_ct (h0) (by simp [go_sem, hli, hk', hb', hb2, hx, hy]) ?_ ?_); (simp [go_sem]); simp -implicitDefEqProofs [-List.map_take, -List.map_drop, go_sem, hli, hk', hb', hb2, hx, hy])
        | (refine run_mixD [61, 63, 67, 89, 91, 95, 96] (by decide) ?_; simp -implicitDefEqProofs [-List.map_take, -List.map_drop, go_sem, hli, hk', hb', hb2, hx, hy])
        | (refine fg_split (fun h => ?_) (fun h => ?_) <;> (try (have hp := h; simp at hp)) <;> simp -implicitDefEqProofs [-List.map_take, -List.map_drop, go_sem, h, hli, hk', hb', hb2, hx, hy])
        | ((first | refine fstp_ct (h0) (by simp [go_sem, hli, hk', hb', hb2, hx, hy]) ?_ ?_); (simp [go_sem]); simp -implicitDefEqProofs [-List.map_take, -List.map_drop, go_sem, hli, hk', hb', hb2, hx, hy])
        | (refine fstp_imm (fun ext => rfl) ?_ ?_ ?_ ?_; (focus (first | rfl | (simp; done))); (simp [go_sem]); (focus (first | trivial | omega | (simp [go_sem]; done) | (simp [go_sem]; omega))); simp -implicitDefEqProofs [-List.map_take, -List.map_drop, go_sem, hli, hk', hb', hb2, hx, hy])
        | (refine ostp_hp ⟨_, rfl⟩ ?_ ?_; (focus (first | trivial | omega | (simp [go_sem]; done) | (simp [go_sem]; omega))); simp -implicitDefEqProofs [-List.map_take, -List.map_drop, go_sem, hli, hk', hb', hb2, hx, hy])
        | ((first | refine ostp_snap 3 (h1) (by repeat' first | exact snapW_nil | (refine snapW_pure (by simp [go_sem]) ?_) | (refine snapW_ref (by first | rfl | (simp [go_sem]; rfl)) (by simp) (by simp [go_sem]) (by simp [go_sem]) ?_)) ⟨_, rfl⟩ ?_ ?_ ?_); (simp [closedV]); (simp [go_sem]); simp -implicitDefEqProofs [-List.map_take, -List.map_drop, go_sem, hli, hk', hb', hb2, hx, hy])
        | (refine ostp_ok ⟨_, rfl⟩ ?_; simp -implicitDefEqProofs [-List.map_take, -List.map_drop, go_sem, hli, hk', hb', hb2, hx, hy])
        | (refine mix_ogrd ?_; simp -implicitDefEqProofs [-List.map_take, -List.map_drop, go_sem, hli, hk', hb', hb2, hx, hy])
        | ((first | refine og_tf ⟨_, rfl⟩ ?_ | refine og_ft ⟨_, rfl⟩ ?_ | refine og_tup ⟨_, rfl⟩ ?_); simp -implicitDefEqProofs [-List.map_take, -List.map_drop, go_sem, hli, hk', hb', hb2, hx, hy])
        | ((first | refine end_tup _ (by simp) (by simp [go_sem]; rfl) (by simp [go_sem]) ?_); first | (simp [go_sem, *, likeEs_cons, likeEs_nil]; done) | grind [likeEs_cons, likeEs_nil] | (simp [go_sem, likeEs_cons, likeEs_nil]; grind [likeEs_cons, likeEs_nil]) | (simp_all [go_sem, likeEs_cons, likeEs_nil]; done) | (simp_all [go_sem, likeEs_cons, likeEs_nil]; omega))
  have hb1 : (x.kind == 11) = false := by simp; omega
  have hb2 : (x.kind == 12) = false := by simp; omega
  repeat' first
    | ((first | refine gv_split (fun h => ?_) (fun h => ?_) | refine cnd_split (fun h => ?_) (fun h => ?_) | refine cgv_split (fun h => ?_) (fun h => ?_)) <;> (try (have hp := h; simp at hp)) <;> simp -implicitDefEqProofs [-List.map_take, -List.map_drop, go_sem, h, hli, hk', hb1, hb2])
    | (refine And.intro (by first | omega | (simp only [maxLen]; omega) | (simp_all; done) | (simp_all; omega)) ?_; try simp -implicitDefEqProofs [-List.map_take, -List.map_drop, go_sem, hli, hk', hb1, hb2])
    | (refine run_dreg' (by decide) ?_; simp -implicitDefEqProofs [-List.map_take, -List.map_drop, go_sem, hli, hk', hb1, hb2])
    | ((first | refine end_tup _ (by simp) (by simp [go_sem]; rfl) (by simp [go_sem]) ?_); first | (simp [go_sem, *]; done) | grind | (simp [go_sem]; grind) | (simp_all [go_sem]; done) | (simp_all [go_sem]; omega))
  refine run_iter (x.kids.length) (like_L x y va vb) (fun i a => likeEs false x.text y.text ((x.kids.drop i).map LExpr.core) ((y.kids.drop i).map LExpr.core) i va.es vb.es = likeEs false x.text y.text (x.kids.map LExpr.core) (y.kids.map LExpr.core) 0 va.es vb.es) () (gh_auto (by simp [go_sem, like_L, hli, hk', hb1, hb2])) (by first | (simp; done) | (simp []; done) | (simp []; omega) | grind) ?_
  intro i a hi hj
  simp -implicitDefEqProofs [-List.map_take, -List.map_drop, go_sem, like_L, hli, hk', hb1, hb2]
  refine cnd_split (fun hc => ?_) (fun hc => ?_)
  · have hlt : i < x.kids.length := by first | (simpa using hc) | (simp at hc; omega)
    rw [List.drop_eq_getElem_cons (l := x.kids) (by omega)] at hj
    have hlt_1 : i < y.kids.length := by omega
    rw [List.drop_eq_getElem_cons (l := y.kids) (by omega)] at hj
    simp only [List.map_cons, likeEs_cons, likeEs_nil] at hj
    simp -implicitDefEqProofs [-List.map_take, -List.map_drop, go_sem, hlt, hlt_1, hli, hk', hb1, hb2]
    have c1 := like_ct x.kids[i] y.kids[i] va vb (d - 1) (Expr.Ars_mem ha2 _ (List.mem_map_of_mem (List.getElem_mem hlt))) hl (by omega)
    have hy := And.intro (hlt) (And.intro (hlt_1) (And.intro (hli) (And.intro (hk') (And.intro (hb1) (hb2)))))
    have hdf := hy0
    have eL := @like_L.eq_1
    have hm0 := hm
    have hlt0 := hlt
    exact wk1n
  · have hge : x.kids.length ≤ i := by first | (simpa using hc) | (simp at hc; omega)
    rw [List.drop_of_length_le (l := x.kids) (by omega)] at hj
    rw [List.drop_of_length_le (l := y.kids) (by omega)] at hj
    simp only [List.map_nil, likeEs_cons, likeEs_nil] at hj
    try simp -implicitDefEqProofs [-List.map_take, -List.map_drop, go_sem, hli, hk', hb1, hb2]
    have hy := And.intro (hli) (And.intro (hk') (And.intro (hb1) (hb2)))
    have hdf := hy0
    exact wk0
termination_by SizeOf.sizeOf x
decreasing_by
  · exact LExpr.kid_lt (by rw [hx]; simp)
  · exact LExpr.kid_lt (by rw [hx]; simp)
  · exact LExpr.kid_lt (List.getElem_mem hlt)

def mf_spec_declLike : MF := ⟨42, [(.t 4)], (.seq (.reg [⟨(some 2), (.box 72 (.t 0)), none⟩, ⟨(some 3), (.box 72 (.t 1)), none⟩, ⟨(some 4), (.mov (.c (.bool false))), none⟩]) (.seq (.seq (.reg [⟨(some 5), (.fadr 0 (.t 2)), none⟩, ⟨(some 6), (.load false 1 (.t 5)), none⟩, ⟨(some 7), (.fadr 0 (.t 3)), none⟩, ⟨(some 8), (.load false 1 (.t 7)), none⟩, ⟨(some 9), (.bin .neq (.t 6) (.t 8)), none⟩, ⟨(some 10), (.mov (.t 9)), none⟩, ⟨(some 11), (.fadr 1 (.t 2)), (some (10, false))⟩, ⟨(some 12), (.load false 1 (.t 11)), (some (10, false))⟩, ⟨(some 13), (.fadr 1 (.t 3)), (some (10, false))⟩, ⟨(some 14), (.load false 1 (.t 13)), (some (10, false))⟩, ⟨(some 15), (.seq true (.t 12) (.t 14)), (some (10, false))⟩, ⟨(some 16), (.pick (.t 10) (.c (.bool true)) (.t 15)), none⟩, ⟨(some 17), (.mov (.t 16)), none⟩, ⟨(some 18), (.fadr 3 (.t 2)), (some (17, false))⟩, ⟨(some 19), (.load false 1 (.t 18)), (some (17, false))⟩, ⟨(some 20), (.fadr 3 (.t 3)), (some (17, false))⟩, ⟨(some 21), (.load false 1 (.t 20)), (some (17, false))⟩, ⟨(some 22), (.seq true (.t 19) (.t 21)), (some (17, false))⟩, ⟨(some 23), (.pick (.t 17) (.c (.bool true)) (.t 22)), none⟩, ⟨(some 24), (.mov (.t 23)), none⟩, ⟨(some 25), (.fadr 2 (.t 2)), (some (24, false))⟩, ⟨(some 26), (.load false 1 (.t 25)), (some (24, false))⟩, ⟨(some 27), (.fadr 2 (.t 3)), (some (24, false))⟩, ⟨(some 28), (.load false 1 (.t 27)), (some (24, false))⟩, ⟨(some 29), (.call (.c (.fn 125 [])) [(.t 26), (.t 28)]), (some (24, false))⟩, ⟨(some 30), (.not (.t 29)), (some (24, false))⟩, ⟨(some 31), (.pick (.t 24) (.c (.bool true)) (.t 30)), none⟩]) (.cond (.t 31) (.seq (.reg [⟨(some 4), (.mov (.c (.bool false))), none⟩]) .ret) .skip)) (.seq (.reg [⟨(some 32), (.fadr 0 (.t 2)), none⟩, ⟨(some 33), (.load false 1 (.t 32)), none⟩, ⟨(some 34), (.bin .eql (.t 33) (.c (.int .i64 1))), none⟩, ⟨(some 35), (.mov (.t 34)), none⟩, ⟨(some 36), (.fadr 4 (.t 2)), (some (35, false))⟩, ⟨(some 37), (.load true 4 (.t 36)), (some (35, false))⟩, ⟨(some 38), (.fadr 4 (.t 3)), (some (35, false))⟩, ⟨(some 39), (.load true 4 (.t 38)), (some (35, false))⟩, ⟨(some 40), (.call (.c (.fn 126 [])) [(.t 37), (.t 39), (.c (.imm [] [] true)), (.c (.imm [] [] true))]), (some (35, false))⟩, ⟨(some 41), (.pick (.t 35) (.c (.bool true)) (.t 40)), none⟩, ⟨(some 4), (.mov (.t 41)), none⟩]) .ret)))⟩
theorem fit_spec_declLike : Fit Tryz.prog 66 Tryz.f66 mf_spec_declLike := ⟨by kernel_rfl, Tryz.func66, by kernel_rfl, by kernel_rfl, by kernel_rfl, by kernel_rfl⟩
theorem declLike_ct (x y : LDecl) (hx : x.core.Ar) (hy : y.core.Ar) : Ct Tryz.prog 66 [.agg x.C, .agg y.C] (.bool (declLike x.core y.core)) := by
  have hl := like_ct x.body y.body ⟨[], [], true⟩ ⟨[], [], true⟩ 9 hx.1 rfl (by simp)
  have hc : declLike x.core y.core = (x.kind == y.kind && (x.name == y.name && (x.type == y.type && (all2 (· == ·) x.binds.es y.binds.es && likeE x.body.core y.body.core [] [])))) := rfl
  rw [hc]
  refine ct_of_run fit_spec_declLike (by simp [mf_spec_declLike]) (by simp [go_sem]) fun hd => ?_
  by_cases hk : x.kind = 1
  · by_cases hk2 : y.kind = 1
    · have h1 : x.body.core = zeroE := hx.2 hk
      have h2 : y.body.core = zeroE := hy.2 hk2
      rw [h1, h2, likeE_zero]
      have hne : (x.kind != y.kind) = false := by simp; omega
      have hk' : (x.kind == 1) = true := by simpa using hk
      simp -implicitDefEqProofs [-List.map_take, -List.map_drop, go_sem, mf_spec_declLike, hne, hk']
      have c1 := sameBinds_ct x.binds y.binds
      have hy := And.intro (hne) (hk')
      have hdf := hy0
      exact wk1
    · have hne : (x.kind == y.kind) = false := by simp; omega
      have hne' : (x.kind != y.kind) = true := by simp; omega
      rw [hne]
      simp -implicitDefEqProofs [-List.map_take, -List.map_drop, go_sem, mf_spec_declLike, hne']
      have c1 := sameBinds_ct x.binds y.binds
      have hy := hne'
      have hdf := hy0
      exact wk1
  · have hk' : (x.kind == 1) = false := by simpa using hk
    simp -implicitDefEqProofs [-List.map_take, -List.map_drop, go_sem, mf_spec_declLike]
    have c1 := sameBinds_ct x.binds y.binds
    have c2 := hl
    have hy := hk'
    have hdf := hy0
    exact wk1
theorem declIn_none {b : Module} {d : Decl} (h : declAt b d.name = -1) : declIn b d = false := by simp [declIn, at', h]
theorem declIn_some {b : Module} {d o : Decl} (h : at' b.decls (declAt b d.name) = some o) : declIn b d = declLike d o := by simp [declIn, h]
def moduleLike_L (x y : LModule) (i : Nat) (_ : Unit) : St := ⟨lk [(2, .ptr 0 1 0 0), (3, .ptr 1 1 0 0), (5, .int .i64 i)], [some ⟨[[.str x.name, .imm (x.uses.es.map Use.C) x.uses.sp x.uses.lim, .imm (x.decls.es.map LDecl.C) x.decls.sp x.decls.lim]], 3, 61, false, false⟩, some ⟨[[.str y.name, .imm (y.uses.es.map Use.C) y.uses.sp y.uses.lim, .imm (y.decls.es.map LDecl.C) y.decls.sp y.decls.lim]], 3, 61, false, false⟩], []⟩
def mf_spec_moduleLike : MF := ⟨60, [(.t 4)], (.seq (.reg [⟨(some 2), (.box 61 (.t 0)), none⟩, ⟨(some 3), (.box 61 (.t 1)), none⟩, ⟨(some 4), (.mov (.c (.bool false))), none⟩]) (.seq (.seq (.reg [⟨(some 7), (.fadr 0 (.t 2)), none⟩, ⟨(some 8), (.load false 1 (.t 7)), none⟩, ⟨(some 9), (.fadr 0 (.t 3)), none⟩, ⟨(some 10), (.load false 1 (.t 9)), none⟩, ⟨(some 11), (.seq true (.t 8) (.t 10)), none⟩, ⟨(some 12), (.mov (.t 11)), none⟩, ⟨(some 13), (.fadr 1 (.t 2)), (some (12, false))⟩, ⟨(some 14), (.load false 1 (.t 13)), (some (12, false))⟩, ⟨(some 15), (.fadr 1 (.t 3)), (some (12, false))⟩, ⟨(some 16), (.load false 1 (.t 15)), (some (12, false))⟩, ⟨(some 17), (.call (.c (.fn 64 [])) [(.t 14), (.t 16)]), (some (12, false))⟩, ⟨(some 18), (.not (.t 17)), (some (12, false))⟩, ⟨(some 19), (.pick (.t 12) (.c (.bool true)) (.t 18)), none⟩, ⟨(some 20), (.mov (.t 19)), none⟩, ⟨(some 21), (.fadr 2 (.t 2)), (some (20, false))⟩, ⟨(some 22), (.load false 1 (.t 21)), (some (20, false))⟩, ⟨(some 23), (.lenl (.t 22)), (some (20, false))⟩, ⟨(some 24), (.fadr 2 (.t 3)), (some (20, false))⟩, ⟨(some 25), (.load false 1 (.t 24)), (some (20, false))⟩, ⟨(some 26), (.lenl (.t 25)), (some (20, false))⟩, ⟨(some 27), (.bin .neq (.t 23) (.t 26)), (some (20, false))⟩, ⟨(some 28), (.pick (.t 20) (.c (.bool true)) (.t 27)), none⟩]) (.cond (.t 28) (.seq (.reg [⟨(some 4), (.mov (.c (.bool false))), none⟩]) .ret) .skip)) (.seq (.seq (.reg [⟨(some 5), (.mov (.c (.int .i64 0))), none⟩]) (.blk 0 (.loop (.seq (.seq (.reg [⟨(some 29), (.mov (.t 5)), none⟩, ⟨(some 30), (.fadr 2 (.t 2)), none⟩, ⟨(some 31), (.load false 1 (.t 30)), none⟩, ⟨(some 32), (.lenl (.t 31)), none⟩, ⟨(some 33), (.bin .lss (.t 29) (.t 32)), none⟩]) (.cond (.t 33) .skip (.exit 0))) (.seq (.blk 1 (.seq (.dreg [(⟨(some 36), (.load true 3 (.t 3)), none⟩, []), (⟨(some 37), (.fadr 2 (.t 2)), none⟩, []), (⟨(some 38), (.load false 1 (.t 37)), none⟩, [1]), (⟨(some 39), (.mov (.t 5)), none⟩, []), (⟨(some 40), (.iadr 8 (.t 38) (.t 39)), none⟩, [2, 3]), (⟨(some 41), (.fadr 1 (.t 40)), none⟩, [4]), (⟨(some 42), (.load false 1 (.t 41)), none⟩, [5]), (⟨(some 43), (.call (.c (.fn 65 [])) [(.t 36), (.t 42)]), none⟩, [0, 6]), (⟨(some 6), (.mov (.t 43)), none⟩, [7, 7, 0, 1, 2, 3, 4, 5, 6, 7])]) (.seq (.dreg [(⟨(some 44), (.mov (.t 6)), none⟩, []), (⟨(some 45), (.bin .lss (.t 44) (.c (.int .i64 0))), none⟩, [0]), (⟨(some 46), (.mov (.t 45)), none⟩, [1]), (⟨(some 47), (.fadr 2 (.t 2)), (some (46, false))⟩, [2]), (⟨(some 48), (.load false 1 (.t 47)), (some (46, false))⟩, [3, 2]), (⟨(some 49), (.mov (.t 5)), (some (46, false))⟩, [2]), (⟨(some 50), (.iadr 8 (.t 48) (.t 49)), (some (46, false))⟩, [4, 5, 2]), (⟨(some 51), (.load true 8 (.t 50)), (some (46, false))⟩, [6, 2]), (⟨(some 52), (.fadr 2 (.t 3)), (some (46, false))⟩, [2]), (⟨(some 53), (.load false 1 (.t 52)), (some (46, false))⟩, [8, 2]), (⟨(some 54), (.mov (.t 6)), (some (46, false))⟩, [2]), (⟨(some 55), (.iadr 8 (.t 53) (.t 54)), (some (46, false))⟩, [9, 10, 2]), (⟨(some 56), (.load true 8 (.t 55)), (some (46, false))⟩, [11, 2]), (⟨(some 57), (.call (.c (.fn 66 [])) [(.t 51), (.t 56)]), (some (46, false))⟩, [7, 12, 2, 2]), (⟨(some 58), (.not (.t 57)), (some (46, false))⟩, [13, 2]), (⟨(some 59), (.pick (.t 46) (.c (.bool true)) (.t 58)), none⟩, [2, 14])]) (.cond (.t 59) (.seq (.reg [⟨(some 4), (.mov (.c (.bool false))), none⟩]) .ret) .skip)))) (.reg [⟨(some 34), (.mov (.t 5)), none⟩, ⟨(some 35), (.bin .add (.t 34) (.c (.int .i64 1))), none⟩, ⟨(some 5), (.mov (.t 35)), none⟩])))))) (.seq (.reg [⟨(some 4), (.mov (.c (.bool true))), none⟩]) .ret))))⟩
theorem fit_spec_moduleLike : Fit Tryz.prog 29 Tryz.f29 mf_spec_moduleLike := ⟨by kernel_rfl, Tryz.func29, by kernel_rfl, by kernel_rfl, by kernel_rfl, by kernel_rfl⟩
theorem moduleLike_ct (x y : LModule) (hx : ∀ d, d ∈ x.decls.es → d.core.Ar) (hy : ∀ d, d ∈ y.decls.es → d.core.Ar) : Ct Tryz.prog 29 [.agg x.C, .agg y.C] (.bool (moduleLike x.core y.core)) := by
  have hc : moduleLike x.core y.core = (x.name == y.name && (usesLike x.uses.es y.uses.es && (x.decls.es.length == y.decls.es.length && (x.decls.es.map LDecl.core).all (declIn y.core)))) := by
    simp [moduleLike]
  rw [hc]
  refine ct_of_run fit_spec_moduleLike (by simp [mf_spec_moduleLike]) (by simp [go_sem]) fun hd => ?_
  simp -implicitDefEqProofs [-List.map_take, -List.map_drop, go_sem, mf_spec_moduleLike]
  have hm : x.decls.es.length ≤ maxLen := decls_deep hd.1
  repeat' first
    | ((first | refine gv_split (fun h => ?_) (fun h => ?_) | refine cnd_split (fun h => ?_) (fun h => ?_) | refine cgv_split (fun h => ?_) (fun h => ?_)) <;> (try (have hp := h; simp at hp)) <;> simp -implicitDefEqProofs [-List.map_take, -List.map_drop, go_sem, h])
    | (refine And.intro (by first | omega | (simp only [maxLen]; omega) | (simp_all; done) | (simp_all; omega)) ?_; try simp -implicitDefEqProofs [-List.map_take, -List.map_drop, go_sem])
    | ((first | refine stp_ct (usesLike_ct x.uses y.uses) (by simp [go_sem]) ?_ ?_ | refine cstp_ct (usesLike_ct x.uses y.uses) (by simp [go_sem]) ?_ ?_); (simp [go_sem]); simp -implicitDefEqProofs [-List.map_take, -List.map_drop, go_sem])
    | (refine run_dreg' (by decide) ?_; simp -implicitDefEqProofs [-List.map_take, -List.map_drop, go_sem])
    | ((first | refine end_tup _ (by simp) (by simp [go_sem]; rfl) (by simp [go_sem]) ?_); first | (simp [go_sem, *]; done) | grind | (simp [go_sem]; grind) | (simp_all [go_sem]; done) | (simp_all [go_sem]; omega))
  have hlen : x.decls.es.length = y.decls.es.length := by omega
  refine run_iter (x.decls.es.length) (moduleLike_L x y) (fun i a => ((x.decls.es.drop i).map LDecl.core).all (declIn y.core) = (x.decls.es.map LDecl.core).all (declIn y.core)) () (gh_auto (by simp [go_sem, moduleLike_L])) (by first | (simp; done) | (simp []; done) | (simp []; omega) | grind) ?_
  intro i a hi hj
  simp -implicitDefEqProofs [-List.map_take, -List.map_drop, go_sem, moduleLike_L]
  refine cnd_split (fun hc => ?_) (fun hc => ?_)
  · have hlt : i < x.decls.es.length := by first | (simpa using hc) | (simp at hc; omega)
    rw [List.drop_eq_getElem_cons (l := x.decls.es) (by omega)] at hj
    simp only [List.map_cons, List.map_cons, List.all_cons, List.map_nil, List.all_nil] at hj
    simp -implicitDefEqProofs [-List.map_take, -List.map_drop, go_sem, hlt]
    rcases declAt_cases y x.decls.es[i].name with h1 | ⟨k, hk, h1, h2⟩
    · rw [declIn_none (by rw [LDecl.core_name]; exact h1)] at hj
      have d1 := fun a1 => declAt_ct y a1
      have hy := And.intro (hlt) (h1)
      have hdf := hy0
      have eL := @moduleLike_L.eq_1
      have hm0 := hm
      have hlt0 := hlt
      exact wk1n
    · rw [declIn_some (by rw [LDecl.core_name]; exact h2)] at hj
      have d1 := fun a1 => declAt_ct y a1
      have c1 := declLike_ct x.decls.es[i] y.decls.es[k] (hx _ (List.getElem_mem hlt)) (hy _ (List.getElem_mem hk))
      have hy := And.intro (hlt) (And.intro (h1) (hk))
      have hdf := hy0
      have eL := @moduleLike_L.eq_1
      have hm0 := hm
      have hlt0 := hlt
      exact wk1n
  · have hge : x.decls.es.length ≤ i := by first | (simpa using hc) | (simp at hc; omega)
    rw [List.drop_of_length_le (l := x.decls.es) (by omega)] at hj
    simp only [List.map_nil, List.map_cons, List.all_cons, List.map_nil, List.all_nil] at hj
    try simp -implicitDefEqProofs [-List.map_take, -List.map_drop, go_sem]
    have d1 := fun a1 => declAt_ct y a1
    have hy := hy0
    have hdf := hy0
    exact wk1
def programLike_L (x y : Sl LModule) (i : Nat) (_ : Unit) : St := ⟨lk [(0, x.I LModule.C), (1, y.I LModule.C), (5, .int .i64 i)], [], []⟩
theorem Ar_mem {p : List LModule} (h : ArP (p.map LModule.core)) {i : Nat} (hi : i < p.length) : ∀ d, d ∈ (p[i]).decls.es → d.core.Ar := fun d hd => h _ (List.mem_map_of_mem (List.getElem_mem hi)) _ (by rw [LModule.core_decls]; exact List.mem_map_of_mem hd)
def mf_spec_ProgramLike : MF := ⟨37, [(.t 4)], (.seq (.reg [⟨(some 4), (.mov (.c (.bool false))), none⟩]) (.seq (.seq (.reg [⟨(some 6), (.mov (.t 0)), none⟩, ⟨(some 7), (.call (.c (.fn 28 [])) [(.t 6)]), none⟩, ⟨(some 8), (.not (.t 7)), none⟩, ⟨(some 9), (.mov (.t 8)), none⟩, ⟨(some 10), (.mov (.t 1)), (some (9, false))⟩, ⟨(some 11), (.call (.c (.fn 28 [])) [(.t 10)]), (some (9, false))⟩, ⟨(some 12), (.not (.t 11)), (some (9, false))⟩, ⟨(some 13), (.pick (.t 9) (.c (.bool true)) (.t 12)), none⟩, ⟨(some 14), (.mov (.t 13)), none⟩, ⟨(some 15), (.mov (.t 0)), (some (14, false))⟩, ⟨(some 16), (.lenl (.t 15)), (some (14, false))⟩, ⟨(some 17), (.mov (.t 1)), (some (14, false))⟩, ⟨(some 18), (.lenl (.t 17)), (some (14, false))⟩, ⟨(some 19), (.bin .neq (.t 16) (.t 18)), (some (14, false))⟩, ⟨(some 20), (.pick (.t 14) (.c (.bool true)) (.t 19)), none⟩]) (.cond (.t 20) (.seq (.reg [⟨(some 4), (.mov (.c (.bool false))), none⟩]) .ret) .skip)) (.seq (.seq (.reg [⟨(some 5), (.mov (.c (.int .i64 0))), none⟩]) (.blk 0 (.loop (.seq (.seq (.reg [⟨(some 21), (.mov (.t 5)), none⟩, ⟨(some 22), (.mov (.t 0)), none⟩, ⟨(some 23), (.lenl (.t 22)), none⟩, ⟨(some 24), (.bin .lss (.t 21) (.t 23)), none⟩]) (.cond (.t 24) .skip (.exit 0))) (.seq (.blk 1 (.seq (.dreg [(⟨(some 27), (.mov (.t 0)), none⟩, []), (⟨(some 28), (.mov (.t 5)), none⟩, []), (⟨(some 29), (.iadr 3 (.t 27) (.t 28)), none⟩, [0, 1]), (⟨(some 30), (.load true 3 (.t 29)), none⟩, [2]), (⟨(some 31), (.mov (.t 1)), none⟩, []), (⟨(some 32), (.mov (.t 5)), none⟩, []), (⟨(some 33), (.iadr 3 (.t 31) (.t 32)), none⟩, [4, 5]), (⟨(some 34), (.load true 3 (.t 33)), none⟩, [6]), (⟨(some 35), (.call (.c (.fn 29 [])) [(.t 30), (.t 34)]), none⟩, [3, 7]), (⟨(some 36), (.not (.t 35)), none⟩, [8])]) (.cond (.t 36) (.seq (.reg [⟨(some 4), (.mov (.c (.bool false))), none⟩]) .ret) .skip))) (.reg [⟨(some 25), (.mov (.t 5)), none⟩, ⟨(some 26), (.bin .add (.t 25) (.c (.int .i64 1))), none⟩, ⟨(some 5), (.mov (.t 26)), none⟩])))))) (.seq (.reg [⟨(some 4), (.mov (.c (.bool true))), none⟩]) .ret))))⟩
theorem fit_spec_ProgramLike : Fit Tryz.prog 9 Tryz.f9 mf_spec_ProgramLike := ⟨by kernel_rfl, Tryz.func9, by kernel_rfl, by kernel_rfl, by kernel_rfl, by kernel_rfl⟩
theorem programLike_ct (x y : Sl LModule) (hx : SmP (x.es.map LModule.core)) (hy : SmP (y.es.map LModule.core)) : Ct Tryz.prog 9 [x.I LModule.C, y.I LModule.C] (.bool (programLike (x.es.map LModule.core) (y.es.map LModule.core))) := by
  refine ct_of_run fit_spec_ProgramLike (by simp [mf_spec_ProgramLike]) (by simp [go_sem]) fun hd => ?_
  simp -implicitDefEqProofs [-List.map_take, -List.map_drop, go_sem, mf_spec_ProgramLike]
  have hm : x.es.length ≤ maxLen := sl_deep hd.1
  have hne := all2_ne moduleLike (x.es.map LModule.core) (y.es.map LModule.core)
  simp only [List.length_map] at hne
  cases ox : programOk (x.es.map LModule.core) with
  | false =>
    repeat' first
      | ((first | refine gv_split (fun h => ?_) (fun h => ?_) | refine cnd_split (fun h => ?_) (fun h => ?_) | refine cgv_split (fun h => ?_) (fun h => ?_)) <;> (try (have hp := h; simp at hp)) <;> simp -implicitDefEqProofs [-List.map_take, -List.map_drop, go_sem, h, ox])
      | (refine And.intro (by first | omega | (simp only [maxLen]; omega) | (simp_all; done) | (simp_all; omega)) ?_; try simp -implicitDefEqProofs [-List.map_take, -List.map_drop, go_sem, ox])
      | ((first | refine stp_ct (programOk_ct x hx) (by simp [go_sem, ox]) ?_ ?_ | refine cstp_ct (programOk_ct x hx) (by simp [go_sem, ox]) ?_ ?_); (simp [go_sem]); simp -implicitDefEqProofs [-List.map_take, -List.map_drop, go_sem, ox])
      | (refine run_dreg' (by decide) ?_; simp -implicitDefEqProofs [-List.map_take, -List.map_drop, go_sem, ox])
      | ((first | refine end_tup _ (by simp) (by simp [go_sem]; rfl) (by simp [go_sem]) ?_); first | (simp [go_sem, *, programLike]; done) | grind [programLike] | (simp [go_sem, programLike]; grind [programLike]) | (simp_all [go_sem, programLike]; done) | (simp_all [go_sem, programLike]; omega))
  | true =>
  cases oy : programOk (y.es.map LModule.core) with
  | false =>
    repeat' first
      | ((first | refine gv_split (fun h => ?_) (fun h => ?_) | refine cnd_split (fun h => ?_) (fun h => ?_) | refine cgv_split (fun h => ?_) (fun h => ?_)) <;> (try (have hp := h; simp at hp)) <;> simp -implicitDefEqProofs [-List.map_take, -List.map_drop, go_sem, h, ox, oy])
      | (refine And.intro (by first | omega | (simp only [maxLen]; omega) | (simp_all; done) | (simp_all; omega)) ?_; try simp -implicitDefEqProofs [-List.map_take, -List.map_drop, go_sem, ox, oy])
      | ((first | refine stp_ct (programOk_ct x hx) (by simp [go_sem, ox, oy]) ?_ ?_ | refine cstp_ct (programOk_ct x hx) (by simp [go_sem, ox, oy]) ?_ ?_ | refine stp_ct (programOk_ct y hy) (by simp [go_sem, ox, oy]) ?_ ?_ | refine cstp_ct (programOk_ct y hy) (by simp [go_sem, ox, oy]) ?_ ?_); (simp [go_sem]); simp -implicitDefEqProofs [-List.map_take, -List.map_drop, go_sem, ox, oy])
      | (refine run_dreg' (by decide) ?_; simp -implicitDefEqProofs [-List.map_take, -List.map_drop, go_sem, ox, oy])
      | ((first | refine end_tup _ (by simp) (by simp [go_sem]; rfl) (by simp [go_sem]) ?_); first | (simp [go_sem, *, programLike]; done) | grind [programLike] | (simp [go_sem, programLike]; grind [programLike]) | (simp_all [go_sem, programLike]; done) | (simp_all [go_sem, programLike]; omega))
  | true =>
  repeat' first
    | ((first | refine gv_split (fun h => ?_) (fun h => ?_) | refine cnd_split (fun h => ?_) (fun h => ?_) | refine cgv_split (fun h => ?_) (fun h => ?_)) <;> (try (have hp := h; simp at hp)) <;> simp -implicitDefEqProofs [-List.map_take, -List.map_drop, go_sem, h, ox, oy])
    | (refine And.intro (by first | omega | (simp only [maxLen]; omega) | (simp_all; done) | (simp_all; omega)) ?_; try simp -implicitDefEqProofs [-List.map_take, -List.map_drop, go_sem, ox, oy])
    | ((first | refine stp_ct (programOk_ct x hx) (by simp [go_sem, ox, oy]) ?_ ?_ | refine cstp_ct (programOk_ct x hx) (by simp [go_sem, ox, oy]) ?_ ?_ | refine stp_ct (programOk_ct y hy) (by simp [go_sem, ox, oy]) ?_ ?_ | refine cstp_ct (programOk_ct y hy) (by simp [go_sem, ox, oy]) ?_ ?_); (simp [go_sem]); simp -implicitDefEqProofs [-List.map_take, -List.map_drop, go_sem, ox, oy])
    | (refine run_dreg' (by decide) ?_; simp -implicitDefEqProofs [-List.map_take, -List.map_drop, go_sem, ox, oy])
    | ((first | refine end_tup _ (by simp) (by simp [go_sem]; rfl) (by simp [go_sem]) ?_); first | (simp [go_sem, *, programLike]; done) | grind [programLike] | (simp [go_sem, programLike]; grind [programLike]) | (simp_all [go_sem, programLike]; done) | (simp_all [go_sem, programLike]; omega))
  have hlen : x.es.length = y.es.length := by omega
  have ax := Ar_of_programOk ox
  have ay := Ar_of_programOk oy
  refine run_iter (x.es.length) (programLike_L x y) (fun i a => all2 moduleLike ((x.es.drop i).map LModule.core) ((y.es.drop i).map LModule.core) = all2 moduleLike (x.es.map LModule.core) (y.es.map LModule.core)) () (gh_auto (by simp [go_sem, programLike_L, ox, oy])) (by first | (simp; done) | (simp [programLike]; done) | (simp [programLike]; omega) | grind) ?_
  intro i a hi hj
  simp -implicitDefEqProofs [-List.map_take, -List.map_drop, go_sem, programLike_L, ox, oy]
  refine cnd_split (fun hc => ?_) (fun hc => ?_)
  · have hlt : i < x.es.length := by first | (simpa using hc) | (simp at hc; omega)
    rw [List.drop_eq_getElem_cons (l := x.es) (by omega)] at hj
    have hlt_1 : i < y.es.length := by omega
    rw [List.drop_eq_getElem_cons (l := y.es) (by omega)] at hj
    simp only [List.map_cons, all2] at hj
    simp -implicitDefEqProofs [-List.map_take, -List.map_drop, go_sem, hlt, hlt_1, ox, oy]
    repeat' first
      | ((first | refine gv_split (fun h => ?_) (fun h => ?_) | refine cnd_split (fun h => ?_) (fun h => ?_) | refine cgv_split (fun h => ?_) (fun h => ?_)) <;> (try (have hp := h; simp at hp)) <;> simp -implicitDefEqProofs [-List.map_take, -List.map_drop, go_sem, h, hlt, hlt_1, ox, oy])
      | (refine And.intro (by first | omega | (simp only [maxLen]; omega) | (simp_all; done) | (simp_all; omega)) ?_; try simp -implicitDefEqProofs [-List.map_take, -List.map_drop, go_sem, hlt, hlt_1, ox, oy])
      | ((first | refine stp_ct (moduleLike_ct x.es[i] y.es[i] (Ar_mem ax hlt) (Ar_mem ay (by omega))) (by simp [go_sem, hlt, hlt_1, ox, oy]) ?_ ?_ | refine cstp_ct (moduleLike_ct x.es[i] y.es[i] (Ar_mem ax hlt) (Ar_mem ay (by omega))) (by simp [go_sem, hlt, hlt_1, ox, oy]) ?_ ?_); (simp [go_sem]); simp -implicitDefEqProofs [-List.map_take, -List.map_drop, go_sem, hlt, hlt_1, ox, oy])
      | (refine run_dreg' (by decide) ?_; simp -implicitDefEqProofs [-List.map_take, -List.map_drop, go_sem, hlt, hlt_1, ox, oy])
      | ((first | refine kx_next () hlt (gh_auto (by simp [go_sem, programLike_L, wrap_succ hlt hm, hlt, hlt_1, ox, oy])) ?_ | refine end_tup _ (by simp) (by simp [go_sem]; rfl) (by simp [go_sem]) ?_); first | (simp [go_sem, *, programLike]; done) | grind [programLike] | (simp [go_sem, programLike]; grind [programLike]) | (simp_all [go_sem, programLike]; done) | (simp_all [go_sem, programLike]; omega))
  · have hge : x.es.length ≤ i := by first | (simpa using hc) | (simp at hc; omega)
    rw [List.drop_of_length_le (l := x.es) (by omega)] at hj
    rw [List.drop_of_length_le (l := y.es) (by omega)] at hj
    simp only [List.map_nil, all2] at hj
    try simp -implicitDefEqProofs [-List.map_take, -List.map_drop, go_sem, ox, oy]
    repeat' first
      | ((first | refine gv_split (fun h => ?_) (fun h => ?_) | refine cnd_split (fun h => ?_) (fun h => ?_) | refine cgv_split (fun h => ?_) (fun h => ?_)) <;> (try (have hp := h; simp at hp)) <;> simp -implicitDefEqProofs [-List.map_take, -List.map_drop, go_sem, h, ox, oy])
      | (refine And.intro (by first | omega | (simp only [maxLen]; omega) | (simp_all; done) | (simp_all; omega)) ?_; try simp -implicitDefEqProofs [-List.map_take, -List.map_drop, go_sem, ox, oy])
      | ((first | refine stp_ct (moduleLike_ct x.es[i] y.es[i] (Ar_mem ax hlt) (Ar_mem ay (by omega))) (by simp [go_sem, ox, oy]) ?_ ?_ | refine cstp_ct (moduleLike_ct x.es[i] y.es[i] (Ar_mem ax hlt) (Ar_mem ay (by omega))) (by simp [go_sem, ox, oy]) ?_ ?_); (simp [go_sem]); simp -implicitDefEqProofs [-List.map_take, -List.map_drop, go_sem, ox, oy])
      | (refine run_dreg' (by decide) ?_; simp -implicitDefEqProofs [-List.map_take, -List.map_drop, go_sem, ox, oy])
      | ((first | refine end_tup _ (by simp) (by simp [go_sem]; rfl) (by simp [go_sem]) ?_); first | (simp [go_sem, *, programLike]; done) | grind [programLike] | (simp [go_sem, programLike]; grind [programLike]) | (simp_all [go_sem, programLike]; done) | (simp_all [go_sem, programLike]; omega))

def mf_slices_Clip_string_string : MF := ⟨9, [(.t 2)], (.seq (.reg [⟨(some 2), (.mov (.c (.imm [] [] true))), none⟩]) (.seq (.reg [⟨(some 3), (.mov (.t 0)), none⟩, ⟨(some 4), (.mov (.t 0)), none⟩, ⟨(some 5), (.lenl (.t 4)), none⟩, ⟨(some 6), (.mov (.t 0)), none⟩, ⟨(some 7), (.lenl (.t 6)), none⟩, ⟨(some 8), (.sl 1 (.t 3) none (some (.t 5)) (some (.t 7))), none⟩, ⟨(some 2), (.mov (.t 8)), none⟩]) .ret))⟩
theorem fit_slices_Clip_string_string : Fit Tryz.prog 180 Tryz.f180 mf_slices_Clip_string_string := ⟨by kernel_rfl, Tryz.func180, by kernel_rfl, by kernel_rfl, by kernel_rfl, by kernel_rfl⟩
theorem slV_clip {l : List Str} {lim : Bool} {σ : Heap} {k : IntKind} : slV σ 1 (.imm (l.map strC) [] lim) none (some (.int k l.length)) (some (.int k l.length)) = .ob True (.imm (l.map strC) [] true) := by
  simp only [slV, optI, Int.toNat_zero, List.drop_zero, Int.toNat_natCast, List.length_map, List.append_nil]
  have h4 : (0 ≤ (0 : Int) ∧ (0 : Int) ≤ (l.length : Int) ∧ (l.length : Int) ≤ (l.length : Int) ∧ (l.length : Int) ≤ (l.length : Int) + (([] : List (List PV)).length : Int) ∧ ∀ e, e ∈ l.map strC → e.length = 1) = True := by
    refine eq_true ⟨by omega, by omega, by omega, by simp, fun e he => ?_⟩
    obtain ⟨x, _, rfl⟩ := List.mem_map.1 he
    rfl
  simp only [h4]
  have h5 : (l.map strC).take l.length = l.map strC := List.take_of_length_le (by simp)
  have h6 : (l.map strC).drop l.length = [] := List.drop_of_length_le (by simp)
  rw [h5, h6]
  simp
theorem clip_ct (l : List Str) (lim : Bool) : Ct Tryz.prog 180 [(⟨l, [], lim⟩ : Sl Str).I strC] ((⟨l, [], true⟩ : Sl Str).I strC) := by
  refine ct_of_run fit_slices_Clip_string_string (by simp [mf_slices_Clip_string_string]) (by simp [go_sem]) fun hd => ?_
  simp -implicitDefEqProofs [-List.map_take, -List.map_drop, go_sem, mf_slices_Clip_string_string]
  simp -implicitDefEqProofs [-List.map_take, -List.map_drop, go_sem, slV_clip]
  have hy := hy0
  have hdf := hy0
  exact wk0
def mf_impl_Expr_binds : MF := ⟨11, [(.t 2)], (.seq (.reg [⟨(some 1), (.box 48 (.t 0)), none⟩, ⟨(some 2), (.mov (.c (.bool false))), none⟩]) (.seq (.reg [⟨(some 3), (.fadr 0 (.t 1)), none⟩, ⟨(some 4), (.load false 1 (.t 3)), none⟩, ⟨(some 5), (.bin .eql (.t 4) (.c (.int .i64 11))), none⟩, ⟨(some 6), (.mov (.t 5)), none⟩, ⟨(some 7), (.fadr 0 (.t 1)), (some (6, false))⟩, ⟨(some 8), (.load false 1 (.t 7)), (some (6, false))⟩, ⟨(some 9), (.bin .eql (.t 8) (.c (.int .i64 12))), (some (6, false))⟩, ⟨(some 10), (.pick (.t 6) (.c (.bool true)) (.t 9)), none⟩, ⟨(some 2), (.mov (.t 10)), none⟩]) .ret))⟩
theorem fit_impl_Expr_binds : Fit Tryz.prog 153 Tryz.f153 mf_impl_Expr_binds := ⟨by kernel_rfl, Tryz.func153, by kernel_rfl, by kernel_rfl, by kernel_rfl, by kernel_rfl⟩
theorem binds_ct (x : LExpr) : Ct Tryz.prog 153 [.agg x.C] (.bool (x.kind == 11 || x.kind == 12)) := by
  refine ct_of_run fit_impl_Expr_binds (by simp [mf_impl_Expr_binds]) (by simp [go_sem]) fun hd => ?_
  simp -implicitDefEqProofs [-List.map_take, -List.map_drop, go_sem, mf_impl_Expr_binds]
  have hy := hy0
  have hdf := hy0
  exact wk0
def lastOf_L (l : Sl Str) (s : Str) (a : Nat) : St := ⟨lk [(0, l.I strC), (1, .str s), (5, .int .i64 ((a : Int) - 1))], [], []⟩
def mf_impl_lastOf : MF := ⟨20, [(.t 4)], (.seq (.reg [⟨(some 4), (.mov (.c (.int .i64 0))), none⟩]) (.seq (.seq (.reg [⟨(some 6), (.mov (.t 0)), none⟩, ⟨(some 7), (.lenl (.t 6)), none⟩, ⟨(some 8), (.bin .sub (.t 7) (.c (.int .i64 1))), none⟩, ⟨(some 5), (.mov (.t 8)), none⟩]) (.blk 0 (.loop (.seq (.seq (.reg [⟨(some 9), (.mov (.t 5)), none⟩, ⟨(some 10), (.bin .geq (.t 9) (.c (.int .i64 0))), none⟩]) (.cond (.t 10) .skip (.exit 0))) (.seq (.blk 1 (.seq (.reg [⟨(some 13), (.mov (.t 0)), none⟩, ⟨(some 14), (.mov (.t 5)), none⟩, ⟨(some 15), (.iadr 1 (.t 13) (.t 14)), none⟩, ⟨(some 16), (.load false 1 (.t 15)), none⟩, ⟨(some 17), (.mov (.t 1)), none⟩, ⟨(some 18), (.seq false (.t 16) (.t 17)), none⟩]) (.cond (.t 18) (.seq (.reg [⟨(some 19), (.mov (.t 5)), none⟩, ⟨(some 4), (.mov (.t 19)), none⟩]) .ret) .skip))) (.reg [⟨(some 11), (.mov (.t 5)), none⟩, ⟨(some 12), (.bin .sub (.t 11) (.c (.int .i64 1))), none⟩, ⟨(some 5), (.mov (.t 12)), none⟩])))))) (.seq (.reg [⟨(some 4), (.mov (.c (.int .i64 (-1)))), none⟩]) .ret)))⟩
theorem fit_impl_lastOf : Fit Tryz.prog 179 Tryz.f179 mf_impl_lastOf := ⟨by kernel_rfl, Tryz.func179, by kernel_rfl, by kernel_rfl, by kernel_rfl, by kernel_rfl⟩
theorem lastOf_ct (l : Sl Str) (s : Str) : Ct Tryz.prog 179 [l.I strC, .str s] (.int .i64 (lastOf l.es s)) := by
  refine ct_of_run fit_impl_lastOf (by simp [mf_impl_lastOf]) (by simp [go_sem]) fun hd => ?_
  simp -implicitDefEqProofs [-List.map_take, -List.map_drop, go_sem, mf_impl_lastOf]
  have hm : l.es.length ≤ maxLen := by simp [deepL, deepV, Sl.I] at hd; omega
  simp only [maxLen] at hm
  have hw0 : IntKind.i64.wrap ((l.es.length : Int) - 1) = (l.es.length : Int) - 1 := wrap_small (by omega) (by omega)
  simp -implicitDefEqProofs [-List.map_take, -List.map_drop, go_sem, hw0]
  refine run_while (lastOf_L l s) (fun a => a) (fun a => lastTo s l.es a = lastOf l.es s ∧ a ≤ l.es.length) l.es.length (gh_auto (by simp [go_sem, lastOf_L, hw0])) ⟨rfl, Nat.le_refl _⟩ ?_
  rintro j ⟨hj, hjl⟩
  simp -implicitDefEqProofs [-List.map_take, -List.map_drop, go_sem, lastOf_L]
  cases j with
  | zero =>
    simp only [lastTo] at hj
    simp -implicitDefEqProofs [-List.map_take, -List.map_drop, go_sem]
    have hy := hy0
    have hdf := hy0
    exact wk0
  | succ j =>
    have hlt : j < l.es.length := hjl
    have hlt' : ((j + 1 : Nat) : Int) - 1 = j := by omega
    have hw : IntKind.i64.wrap ((j : Int) - 1) = (j : Int) - 1 := wrap_small (by omega) (by omega)
    simp only [lastTo, strIs, List.getElem?_eq_getElem hlt] at hj
    rw [hlt']
    simp -implicitDefEqProofs [-List.map_take, -List.map_drop, go_sem, hlt]
    repeat' first
      | ((first | refine gv_split (fun h => ?_) (fun h => ?_) | refine cnd_split (fun h => ?_) (fun h => ?_) | refine cgv_split (fun h => ?_) (fun h => ?_)) <;> (try (have hp := h; simp at hp)) <;> simp -implicitDefEqProofs [-List.map_take, -List.map_drop, go_sem, h, hlt])
      | (refine And.intro (by first | omega | (simp only [maxLen]; omega) | (simp_all; done) | (simp_all; omega)) ?_; try simp -implicitDefEqProofs [-List.map_take, -List.map_drop, go_sem, hlt])
      | (refine run_dreg' (by decide) ?_; simp -implicitDefEqProofs [-List.map_take, -List.map_drop, go_sem, hlt])
      | ((first | refine end_tup _ (by simp) (by simp [go_sem]; rfl) (by simp [go_sem]) ?_); first | (simp [go_sem, *]; done) | grind | (simp [go_sem]; grind) | (simp_all [go_sem]; done) | (simp_all [go_sem]; omega))
    refine kx_more j (by simp) (gh_auto (by simp [go_sem, lastOf_L, hw])) ?_
    refine ⟨?_, by omega⟩
    rw [← hj, if_neg (by simpa using hp)]
def ialike_L (x y : LExpr) (va vb : List Str) (la lb : Bool) (i : Nat) (_ : Unit) : St := ⟨lk [(2, .imm (va.map strC) [] la), (3, .imm (vb.map strC) [] lb), (4, .ptr 0 1 0 0), (5, .ptr 1 1 0 0), (72, .int .i64 x.kids.length), (73, .int .i64 i)], [some ⟨[[.int .i64 x.kind, .int .i64 x.num, .str x.text, .imm (x.kids.map LExpr.C) x.sp x.lim]], 4, 48, false, false⟩, some ⟨[[.int .i64 y.kind, .int .i64 y.num, .str y.text, .imm (y.kids.map LExpr.C) y.sp y.lim]], 4, 48, false, false⟩], []⟩
def mf_impl_alike : MF := ⟨111, [(.t 8)], (.seq (.reg [⟨(some 4), (.box 48 (.t 0)), none⟩, ⟨(some 5), (.box 48 (.t 1)), none⟩, ⟨(some 8), (.mov (.c (.bool false))), none⟩]) (.seq (.seq (.reg [⟨(some 14), (.fadr 0 (.t 4)), none⟩, ⟨(some 15), (.load false 1 (.t 14)), none⟩, ⟨(some 16), (.fadr 0 (.t 5)), none⟩, ⟨(some 17), (.load false 1 (.t 16)), none⟩, ⟨(some 18), (.bin .neq (.t 15) (.t 17)), none⟩, ⟨(some 19), (.mov (.t 18)), none⟩, ⟨(some 20), (.fadr 1 (.t 4)), (some (19, false))⟩, ⟨(some 21), (.load false 1 (.t 20)), (some (19, false))⟩, ⟨(some 22), (.fadr 1 (.t 5)), (some (19, false))⟩, ⟨(some 23), (.load false 1 (.t 22)), (some (19, false))⟩, ⟨(some 24), (.bin .neq (.t 21) (.t 23)), (some (19, false))⟩, ⟨(some 25), (.pick (.t 19) (.c (.bool true)) (.t 24)), none⟩, ⟨(some 26), (.mov (.t 25)), none⟩, ⟨(some 27), (.fadr 3 (.t 4)), (some (26, false))⟩, ⟨(some 28), (.load false 1 (.t 27)), (some (26, false))⟩, ⟨(some 29), (.lenl (.t 28)), (some (26, false))⟩, ⟨(some 30), (.fadr 3 (.t 5)), (some (26, false))⟩, ⟨(some 31), (.load false 1 (.t 30)), (some (26, false))⟩, ⟨(some 32), (.lenl (.t 31)), (some (26, false))⟩, ⟨(some 33), (.bin .neq (.t 29) (.t 32)), (some (26, false))⟩, ⟨(some 34), (.pick (.t 26) (.c (.bool true)) (.t 33)), none⟩]) (.cond (.t 34) (.seq (.reg [⟨(some 8), (.mov (.c (.bool false))), none⟩]) .ret) .skip)) (.seq (.seq (.reg [⟨(some 35), (.fadr 0 (.t 4)), none⟩, ⟨(some 36), (.load false 1 (.t 35)), none⟩, ⟨(some 37), (.bin .eql (.t 36) (.c (.int .i64 3))), none⟩]) (.cond (.t 37) (.seq (.dreg [(⟨(some 38), (.mov (.t 2)), none⟩, []), (⟨(some 39), (.fadr 2 (.t 4)), none⟩, []), (⟨(some 40), (.load false 1 (.t 39)), none⟩, [1]), (⟨(some 41), (.call (.c (.fn 179 [])) [(.t 38), (.t 40)]), none⟩, [0, 2]), (⟨(some 42), (.mov (.t 3)), none⟩, []), (⟨(some 43), (.fadr 2 (.t 5)), none⟩, []), (⟨(some 44), (.load false 1 (.t 43)), none⟩, [5]), (⟨(some 45), (.call (.c (.fn 179 [])) [(.t 42), (.t 44)]), none⟩, [4, 6, 3]), (⟨(some 9), (.mov (.t 41)), none⟩, [3, 7, 0, 1, 2, 3]), (⟨(some 10), (.mov (.t 45)), none⟩, [7, 8, 0, 1, 2, 3, 4, 5, 6, 7, 8])]) (.seq (.reg [⟨(some 46), (.mov (.t 9)), none⟩, ⟨(some 47), (.mov (.t 10)), none⟩, ⟨(some 48), (.bin .eql (.t 46) (.t 47)), none⟩, ⟨(some 49), (.mov (.t 48)), none⟩, ⟨(some 50), (.mov (.t 9)), (some (49, true))⟩, ⟨(some 51), (.bin .geq (.t 50) (.c (.int .i64 0))), (some (49, true))⟩, ⟨(some 52), (.mov (.t 51)), (some (49, true))⟩, ⟨(some 53), (.fadr 2 (.t 4)), (some (52, false))⟩, ⟨(some 54), (.load false 1 (.t 53)), (some (52, false))⟩, ⟨(some 55), (.fadr 2 (.t 5)), (some (52, false))⟩, ⟨(some 56), (.load false 1 (.t 55)), (some (52, false))⟩, ⟨(some 57), (.seq false (.t 54) (.t 56)), (some (52, false))⟩, ⟨(some 58), (.pick (.t 52) (.c (.bool true)) (.t 57)), (some (49, true))⟩, ⟨(some 59), (.pick (.t 49) (.t 58) (.c (.bool false))), none⟩, ⟨(some 8), (.mov (.t 59)), none⟩]) .ret)) .skip)) (.seq (.seq (.reg [⟨(some 60), (.load true 4 (.t 4)), none⟩, ⟨(some 61), (.call (.c (.fn 153 [])) [(.t 60)]), none⟩, ⟨(some 62), (.not (.t 61)), none⟩, ⟨(some 63), (.mov (.t 62)), none⟩, ⟨(some 64), (.fadr 2 (.t 4)), (some (63, true))⟩, ⟨(some 65), (.load false 1 (.t 64)), (some (63, true))⟩, ⟨(some 66), (.fadr 2 (.t 5)), (some (63, true))⟩, ⟨(some 67), (.load false 1 (.t 66)), (some (63, true))⟩, ⟨(some 68), (.seq true (.t 65) (.t 67)), (some (63, true))⟩, ⟨(some 69), (.pick (.t 63) (.t 68) (.c (.bool false))), none⟩]) (.cond (.t 69) (.seq (.reg [⟨(some 8), (.mov (.c (.bool false))), none⟩]) .ret) .skip)) (.seq (.seq (.reg [⟨(some 70), (.fadr 3 (.t 4)), none⟩, ⟨(some 71), (.load false 1 (.t 70)), none⟩, ⟨(some 72), (.lenl (.t 71)), none⟩, ⟨(some 73), (.mov (.c (.int .i64 0))), none⟩]) (.blk 0 (.loop (.seq (.reg [⟨(some 74), (.bin .lss (.t 73) (.t 72)), none⟩]) (.seq (.cond (.t 74) .skip (.exit 0)) (.seq (.blk 1 (.seq (.reg [⟨(some 75), (.mov (.t 73)), none⟩, ⟨(some 11), (.mov (.t 75)), none⟩]) (.seq (.reg [⟨(some 76), (.mov (.t 2)), none⟩, ⟨(some 77), (.mov (.t 3)), none⟩, ⟨(some 12), (.mov (.t 76)), none⟩, ⟨(some 13), (.mov (.t 77)), none⟩]) (.seq (.seq (.reg [⟨(some 78), (.load true 4 (.t 4)), none⟩, ⟨(some 79), (.call (.c (.fn 153 [])) [(.t 78)]), none⟩, ⟨(some 80), (.mov (.t 79)), none⟩, ⟨(some 81), (.mov (.t 11)), (some (80, true))⟩, ⟨(some 82), (.bin .eql (.t 81) (.c (.int .i64 1))), (some (80, true))⟩, ⟨(some 83), (.pick (.t 80) (.t 82) (.c (.bool false))), none⟩]) (.cond (.t 83) (.dreg [(⟨(some 84), (.mov (.t 2)), none⟩, []), (⟨(some 85), (.call (.c (.fn 180 [])) [(.t 84)]), none⟩, [0]), (⟨(some 86), (.fadr 2 (.t 4)), none⟩, []), (⟨(some 87), (.load false 1 (.t 86)), none⟩, [2]), (⟨(some 88), (.bsl 9 1 1 [(.str [])] [(0, (.t 87))]), none⟩, [3]), (⟨(some 89), (.app 9 1 16 (.t 85) (.t 88)), none⟩, [1, 4, 1]), (⟨(some 90), (.mov (.t 3)), none⟩, []), (⟨(some 91), (.call (.c (.fn 180 [])) [(.t 90)]), none⟩, [6, 5]), (⟨(some 92), (.fadr 2 (.t 5)), none⟩, []), (⟨(some 93), (.load false 1 (.t 92)), none⟩, [8]), (⟨(some 94), (.bsl 9 1 1 [(.str [])] [(0, (.t 93))]), none⟩, [9]), (⟨(some 95), (.app 9 1 16 (.t 91) (.t 94)), none⟩, [7, 10, 7]), (⟨(some 12), (.mov (.t 89)), none⟩, [5, 11, 0, 1, 2, 3, 4, 5]), (⟨(some 13), (.mov (.t 95)), none⟩, [11, 12, 0, 1, 2, 3, 4, 5, 6, 7, 8, 9, 10, 11, 12])]) .skip)) (.seq (.dreg [(⟨(some 96), (.fadr 3 (.t 4)), none⟩, []), (⟨(some 97), (.load false 1 (.t 96)), none⟩, [0]), (⟨(some 98), (.mov (.t 11)), none⟩, []), (⟨(some 99), (.iadr 4 (.t 97) (.t 98)), none⟩, [1, 2]), (⟨(some 100), (.load true 4 (.t 99)), none⟩, [3]), (⟨(some 101), (.fadr 3 (.t 5)), none⟩, []), (⟨(some 102), (.load false 1 (.t 101)), none⟩, [5]), (⟨(some 103), (.mov (.t 11)), none⟩, []), (⟨(some 104), (.iadr 4 (.t 102) (.t 103)), none⟩, [6, 7]), (⟨(some 105), (.load true 4 (.t 104)), none⟩, [8]), (⟨(some 106), (.mov (.t 12)), none⟩, []), (⟨(some 107), (.mov (.t 13)), none⟩, []), (⟨(some 108), (.call (.c (.fn 140 [])) [(.t 100), (.t 105), (.t 106), (.t 107)]), none⟩, [4, 9, 10, 11]), (⟨(some 109), (.not (.t 108)), none⟩, [12])]) (.cond (.t 109) (.seq (.reg [⟨(some 8), (.mov (.c (.bool false))), none⟩]) .ret) .skip)))))) (.reg [⟨(some 110), (.bin .add (.t 73) (.c (.int .i64 1))), none⟩, ⟨(some 73), (.mov (.t 110)), none⟩]))))))) (.seq (.reg [⟨(some 8), (.mov (.c (.bool true))), none⟩]) .ret))))))⟩
theorem fit_impl_alike : Fit Tryz.prog 140 Tryz.f140 mf_impl_alike := ⟨by kernel_rfl, Tryz.func140, by kernel_rfl, by kernel_rfl, by kernel_rfl, by kernel_rfl⟩
theorem ialike_ct (x y : LExpr) (va vb : List Str) (la lb : Bool) (d : Nat) (ha : x.core.Ar d) (hl : va.length = vb.length) (hs : va.length + d ≤ 1000) :
    Ct Tryz.prog 140 [.agg x.C, .agg y.C, (⟨va, [], la⟩ : Sl Str).I strC, (⟨vb, [], lb⟩ : Sl Str).I strC] (.bool (likeE x.core y.core va vb)) := by
  refine ct_of_run fit_impl_alike (by simp [mf_impl_alike]) (by simp [go_sem]) fun hd => ?_
  simp -implicitDefEqProofs [-List.map_take, -List.map_drop, go_sem, mf_impl_alike]
  have hm : x.kids.length ≤ maxLen := by have := LExpr.deep hd.1; omega
  rw [likeE_eq, LExpr.core_kind, LExpr.core_num, LExpr.core_text, LExpr.core_kids, LExpr.core_kind, LExpr.core_num, LExpr.core_text, LExpr.core_kids, List.length_map, List.length_map]
  rw [Expr.Ar_eq, LExpr.core_kind, LExpr.core_kids, List.length_map] at ha
  obtain ⟨hd0, ha1, ha2⟩ := ha
  by_cases hlen : x.kids.length = y.kids.length
  case neg =>
    have hli : ((x.kids.length : Int) != (y.kids.length : Int)) = true := by simp; omega
    have hy := hli
    have hdf := hy0
    exact wk0
  have hli : ((x.kids.length : Int) != (y.kids.length : Int)) = false := by simp; omega
  by_cases hk : x.kind = 3
  · have hk' : (x.kind == 3) = true := by simpa using hk
    have c1 := lastOf_ct ⟨va, [], la⟩ x.text
    have c2 := lastOf_ct ⟨vb, [], lb⟩ y.text
    have hy := And.intro (hli) (hk')
    have hdf := hy0
    exact wk1
  have hk' : (x.kind == 3) = false := by simpa using hk
  cases hb : (x.kind == 11 || x.kind == 12) with
  | true =>
    have hbc := binds_ct x
    rw [hb] at hbc
    repeat' first
      | ((first | refine gv_split (fun h => ?_) (fun h => ?_) | refine cnd_split (fun h => ?_) (fun h => ?_) | refine cgv_split (fun h => ?_) (fun h => ?_)) <;> (try (have hp := h; simp at hp)) <;> simp -implicitDefEqProofs [-List.map_take, -List.map_drop, go_sem, h, hli, hk', hb])
      | (refine And.intro (by first | omega | (simp only [maxLen]; omega) | (simp_all; done) | (simp_all; omega)) ?_; try simp -implicitDefEqProofs [-List.map_take, -List.map_drop, go_sem, hli, hk', hb])
      | ((first | refine stp_ct (hbc) (by simp [go_sem, hli, hk', hb]) ?_ ?_ | refine cstp_ct (hbc) (by simp [go_sem, hli, hk', hb]) ?_ ?_); (simp [go_sem]); simp -implicitDefEqProofs [-List.map_take, -List.map_drop, go_sem, hli, hk', hb])
      | (refine run_dreg' (by decide) ?_; simp -implicitDefEqProofs [-List.map_take, -List.map_drop, go_sem, hli, hk', hb])
      | ((first | refine end_tup _ (by simp) (by simp [go_sem]; rfl) (by simp [go_sem]) ?_); first | (simp [go_sem, *]; done) | grind | (simp [go_sem]; grind) | (simp_all [go_sem]; done) | (simp_all [go_sem]; omega))
    refine run_iter (x.kids.length) (ialike_L x y va vb la lb) (fun i a => likeEs true x.text y.text ((x.kids.drop i).map LExpr.core) ((y.kids.drop i).map LExpr.core) i va vb = likeEs true x.text y.text (x.kids.map LExpr.core) (y.kids.map LExpr.core) 0 va vb) () (gh_auto (by simp [go_sem, ialike_L, hli, hk', hb])) (by first | (simp; done) | (simp []; done) | (simp []; omega) | grind) ?_
    intro i a hi hj
    simp -implicitDefEqProofs [-List.map_take, -List.map_drop, go_sem, ialike_L, hli, hk', hb]
    refine cnd_split (fun hc => ?_) (fun hc => ?_)
    · have hlt : i < x.kids.length := by first | (simpa using hc) | (simp at hc; omega)
      rw [List.drop_eq_getElem_cons (l := x.kids) (by omega)] at hj
      have hlt_1 : i < y.kids.length := by omega
      rw [List.drop_eq_getElem_cons (l := y.kids) (by omega)] at hj
      simp only [List.map_cons, likeEs_cons, likeEs_nil] at hj
      simp -implicitDefEqProofs [-List.map_take, -List.map_drop, go_sem, hlt, hlt_1, hli, hk', hb]
      by_cases hi1 : i = 1
      · have hq : (true && (i == 1)) = true := by simp [hi1]
        have hq2 : ((i : Int) == 1) = true := by simp; omega
        have hz : (va ++ [x.text]).length + (d - 1) ≤ 1000 := by simp; omega
        have hcall := ialike_ct x.kids[i] y.kids[i] (va ++ [x.text]) (vb ++ [y.text]) false false (d - 1) (Expr.Ars_mem ha2 _ (List.mem_map_of_mem (List.getElem_mem hlt))) (by simp [hl]) hz
        simp only [Sl.I, List.map_append, List.map_cons, List.map_nil] at hcall
        rw [hq] at hj
        simp only [if_true] at hj
        repeat' first
          | ((first | refine gv_split (fun h => ?_) (fun h => ?_) | refine cnd_split (fun h => ?_) (fun h => ?_) | refine cgv_split (fun h => ?_) (fun h => ?_)) <;> (try (have hp := h; simp at hp)) <;> simp -implicitDefEqProofs [-List.map_take, -List.map_drop, go_sem, h, hlt, hlt_1, hli, hk', hb, hq2])
          | (refine And.intro (by first | omega | (simp only [maxLen]; omega) | (simp_all; done) | (simp_all; omega)) ?_; try simp -implicitDefEqProofs [-List.map_take, -List.map_drop, go_sem, hlt, hlt_1, hli, hk', hb, hq2])
          | ((first | refine stp_ct (hbc) (by simp [go_sem, hlt, hlt_1, hli, hk', hb, hq2]) ?_ ?_ | refine cstp_ct (hbc) (by simp [go_sem, hlt, hlt_1, hli, hk', hb, hq2]) ?_ ?_ | refine stp_ct (clip_ct va la) (by simp [go_sem, hlt, hlt_1, hli, hk', hb, hq2]) ?_ ?_ | refine cstp_ct (clip_ct va la) (by simp [go_sem, hlt, hlt_1, hli, hk', hb, hq2]) ?_ ?_ | refine stp_ct (clip_ct vb lb) (by simp [go_sem, hlt, hlt_1, hli, hk', hb, hq2]) ?_ ?_ | refine cstp_ct (clip_ct vb lb) (by simp [go_sem, hlt, hlt_1, hli, hk', hb, hq2]) ?_ ?_ | refine stp_ct (hcall) (by simp [go_sem, hlt, hlt_1, hli, hk', hb, hq2]) ?_ ?_ | refine cstp_ct (hcall) (by simp [go_sem, hlt, hlt_1, hli, hk', hb, hq2]) ?_ ?_); (simp [go_sem]); simp -implicitDefEqProofs [-List.map_take, -List.map_drop, go_sem, hlt, hlt_1, hli, hk', hb, hq2])
          | (refine run_mixD [] (by decide) ?_; simp -implicitDefEqProofs [-List.map_take, -List.map_drop, go_sem, hlt, hlt_1, hli, hk', hb, hq2])
          | (refine fg_split (fun h => ?_) (fun h => ?_) <;> (try (have hp := h; simp at hp)) <;> simp -implicitDefEqProofs [-List.map_take, -List.map_drop, go_sem, h, hlt, hlt_1, hli, hk', hb, hq2])
          | ((first | refine fstp_ct (hbc) (by simp [go_sem, hlt, hlt_1, hli, hk', hb, hq2]) ?_ ?_ | refine fstp_ct (clip_ct va la) (by simp [go_sem, hlt, hlt_1, hli, hk', hb, hq2]) ?_ ?_ | refine fstp_ct (clip_ct vb lb) (by simp [go_sem, hlt, hlt_1, hli, hk', hb, hq2]) ?_ ?_ | refine fstp_ct (hcall) (by simp [go_sem, hlt, hlt_1, hli, hk', hb, hq2]) ?_ ?_); (simp [go_sem]); simp -implicitDefEqProofs [-List.map_take, -List.map_drop, go_sem, hlt, hlt_1, hli, hk', hb, hq2])
          | (refine fstp_imm (fun ext => rfl) ?_ ?_ ?_ ?_; (focus (first | rfl | (simp; done))); (simp [go_sem]); (focus (first | trivial | omega | (simp [go_sem]; done) | (simp [go_sem]; omega))); simp -implicitDefEqProofs [-List.map_take, -List.map_drop, go_sem, hlt, hlt_1, hli, hk', hb, hq2])
          | (refine ostp_hp ⟨_, rfl⟩ ?_ ?_; (focus (first | trivial | omega | (simp [go_sem]; done) | (simp [go_sem]; omega))); simp -implicitDefEqProofs [-List.map_take, -List.map_drop, go_sem, hlt, hlt_1, hli, hk', hb, hq2])
          | (refine ostp_ok ⟨_, rfl⟩ ?_; simp -implicitDefEqProofs [-List.map_take, -List.map_drop, go_sem, hlt, hlt_1, hli, hk', hb, hq2])
          | (refine mix_ogrd ?_; simp -implicitDefEqProofs [-List.map_take, -List.map_drop, go_sem, hlt, hlt_1, hli, hk', hb, hq2])
          | ((first | refine og_tf ⟨_, rfl⟩ ?_ | refine og_ft ⟨_, rfl⟩ ?_ | refine og_tup ⟨_, rfl⟩ ?_); simp -implicitDefEqProofs [-List.map_take, -List.map_drop, go_sem, hlt, hlt_1, hli, hk', hb, hq2])
          | ((first | refine kx_next () hlt (gh_auto (by simp [go_sem, ialike_L, wrap_succ hlt hm, hlt, hlt_1, hli, hk', hb, hq2])) ?_ | refine end_tup _ (by simp) (by simp [go_sem]; rfl) (by simp [go_sem]) ?_); first | (simp [go_sem, *]; done) | grind | (simp [go_sem]; grind) | (simp_all [go_sem]; done) | (simp_all [go_sem]; omega))
      · have hq : (true && (i == 1)) = false := by simp [hi1]
        have hq2 : ((i : Int) == 1) = false := by simp; omega
        rw [hq] at hj
        simp only [Bool.false_eq_true, if_false] at hj
        have c1 := hbc
        have c2 := ialike_ct x.kids[i] y.kids[i] va vb la lb (d - 1) (Expr.Ars_mem ha2 _ (List.mem_map_of_mem (List.getElem_mem hlt))) hl (by omega)
        have hy := And.intro (hlt) (And.intro (hlt_1) (And.intro (hli) (And.intro (hk') (And.intro (hb) (hq2)))))
        have hdf := hy0
        have eL := @ialike_L.eq_1
        have hm0 := hm
        have hlt0 := hlt
        exact wk1n
    · have hge : x.kids.length ≤ i := by first | (simpa using hc) | (simp at hc; omega)
      rw [List.drop_of_length_le (l := x.kids) (by omega)] at hj
      rw [List.drop_of_length_le (l := y.kids) (by omega)] at hj
      simp only [List.map_nil, likeEs_cons, likeEs_nil] at hj
      replace hj := hj.symm
      clear ha1 hlen hd hl
      try simp -implicitDefEqProofs [-List.map_take, -List.map_drop, go_sem, hli, hk', hb]
      have c1 := hbc
      have hy := And.intro (hli) (And.intro (hk') (hb))
      have hdf := hy0
      exact wk1
  | false =>
    have hbc := binds_ct x
    rw [hb] at hbc
    have hb1 : (x.kind == 11) = false := by simp at hb; simp; omega
    have hb2 : (x.kind == 12) = false := by simp at hb; simp; omega
    clear hb
    repeat' first
      | ((first | refine gv_split (fun h => ?_) (fun h => ?_) | refine cnd_split (fun h => ?_) (fun h => ?_) | refine cgv_split (fun h => ?_) (fun h => ?_)) <;> (try (have hp := h; simp at hp)) <;> simp -implicitDefEqProofs [-List.map_take, -List.map_drop, go_sem, h, hli, hk', hb1, hb2])
      | (refine And.intro (by first | omega | (simp only [maxLen]; omega) | (simp_all; done) | (simp_all; omega)) ?_; try simp -implicitDefEqProofs [-List.map_take, -List.map_drop, go_sem, hli, hk', hb1, hb2])
      | ((first | refine stp_ct (hbc) (by simp [go_sem, hli, hk', hb1, hb2]) ?_ ?_ | refine cstp_ct (hbc) (by simp [go_sem, hli, hk', hb1, hb2]) ?_ ?_); (simp [go_sem]); simp -implicitDefEqProofs [-List.map_take, -List.map_drop, go_sem, hli, hk', hb1, hb2])
      | (refine run_dreg' (by decide) ?_; simp -implicitDefEqProofs [-List.map_take, -List.map_drop, go_sem, hli, hk', hb1, hb2])
      | ((first | refine end_tup _ (by simp) (by simp [go_sem]; rfl) (by simp [go_sem]) ?_); first | (simp [go_sem, *]; done) | grind | (simp [go_sem]; grind) | (simp_all [go_sem]; done) | (simp_all [go_sem]; omega))
    refine run_iter (x.kids.length) (ialike_L x y va vb la lb) (fun i a => likeEs false x.text y.text ((x.kids.drop i).map LExpr.core) ((y.kids.drop i).map LExpr.core) i va vb = likeEs false x.text y.text (x.kids.map LExpr.core) (y.kids.map LExpr.core) 0 va vb) () (gh_auto (by simp [go_sem, ialike_L, hli, hk', hb1, hb2])) (by first | (simp; done) | (simp []; done) | (simp []; omega) | grind) ?_
    intro i a hi hj
    simp -implicitDefEqProofs [-List.map_take, -List.map_drop, go_sem, ialike_L, hli, hk', hb1, hb2]
    refine cnd_split (fun hc => ?_) (fun hc => ?_)
    · have hlt : i < x.kids.length := by first | (simpa using hc) | (simp at hc; omega)
      rw [List.drop_eq_getElem_cons (l := x.kids) (by omega)] at hj
      have hlt_1 : i < y.kids.length := by omega
      rw [List.drop_eq_getElem_cons (l := y.kids) (by omega)] at hj
      simp only [List.map_cons, likeEs_cons, likeEs_nil] at hj
      simp only [Bool.false_and, Bool.false_eq_true, if_false] at hj
      simp -implicitDefEqProofs [-List.map_take, -List.map_drop, go_sem, hlt, hlt_1, hli, hk', hb1, hb2]
      have c1 := hbc
      have c2 := ialike_ct x.kids[i] y.kids[i] va vb la lb (d - 1) (Expr.Ars_mem ha2 _ (List.mem_map_of_mem (List.getElem_mem hlt))) hl (by omega)
      have hy := And.intro (hlt) (And.intro (hlt_1) (And.intro (hli) (And.intro (hk') (And.intro (hb1) (hb2)))))
      have hdf := hy0
      have eL := @ialike_L.eq_1
      have hm0 := hm
      have hlt0 := hlt
      exact wk1n
    · have hge : x.kids.length ≤ i := by first | (simpa using hc) | (simp at hc; omega)
      rw [List.drop_of_length_le (l := x.kids) (by omega)] at hj
      rw [List.drop_of_length_le (l := y.kids) (by omega)] at hj
      simp only [List.map_nil, likeEs_cons, likeEs_nil] at hj
      try simp -implicitDefEqProofs [-List.map_take, -List.map_drop, go_sem, hli, hk', hb1, hb2]
      have c1 := hbc
      have hy := And.intro (hli) (And.intro (hk') (And.intro (hb1) (hb2)))
      have hdf := hy0
      exact wk1
termination_by SizeOf.sizeOf x
decreasing_by all_goals exact LExpr.kid_lt (List.getElem_mem hlt)
end Go.Mach

/- Likeness of declarations, modules and programs, of the program, walked. -/
set_option maxHeartbeats 4000000
namespace Go.Mach
open Go Go.Proofs
set_option linter.unusedVariables false
set_option linter.unusedSimpArgs false
attribute [local go_sem] run_seq run_skip run_reg run_blk run_exit run_ret run_cond cnd_true cnd_false kx_seq_normal kx_seq_exit kx_seq_ret kx_blk_normal kx_blk_same kx_blk_other kx_blk_ret kx_loop_exit kx_loop_ret kx_done ops_nil ops_plain ops_grd gv_tt gv_ff gv_tf gv_ft gv_tup stp_ok stp_ob stp_hp stp_bad stp_if get_t get_c putO_some putO_none put_same put_ne put_σ put_base withσ_τ withσ_σ withσ_base withσ_put withσ_withσ mk_τ mk_σ mk_base mk_withσ entry_τ entry_σ entry_base calm_nil calm_plain calm_grd cgv_tt cgv_ff cgv_tf cgv_ft cgv_tup cstp_ok cstp_ob cstp_if
attribute [local irreducible] Ct Co Cs
attribute [local go_sem] evalOp notV negV pickV binV intB seqV beqV catV lensV lenlV boxV_eq newV cellsOf cellV fadrV fldV fldC loadV loadC_ag loadC_one plainV isOwn iadrV storeV lk bdV bdL renO renL renV pureV pureL noOwnV noOwnL idxV slsV optI extV resL resV ret1 mmV cnviV cnvsV nilcV eqnV bslV bslGo appV elems okE appE getD_map okO_none okO_some strC intC Sl.I
attribute [local simp] Bind.eqa Use.eqa loadC_str loadC_int Bind.C_len Bind.C_pure Bind.C_noOwn Bind.C_cell Bind.C_bd Bind.C_bdL Bind.C_ren Bind.C_any Bind.C_any0 Bind.C_any1 Bind.C_anyt Bind.C_take Bind.C_load Bind.C_load0 Bind.C_load1 Bind.C_fld Bind.C_box Bind.C_fold Use.C_len Use.C_pure Use.C_noOwn Use.C_cell Use.C_bd Use.C_bdL Use.C_ren Use.C_any Use.C_any0 Use.C_any1 Use.C_anyt Use.C_take Use.C_load Use.C_load0 Use.C_load1 Use.C_fld Use.C_box Use.C_fold LExpr.C_len LExpr.C_pure LExpr.C_noOwn LExpr.C_cell LExpr.C_bd LExpr.C_bdL LExpr.C_ren LExpr.C_any LExpr.C_any0 LExpr.C_any1 LExpr.C_anyt LExpr.C_take LExpr.C_load LExpr.C_load0 LExpr.C_load1 LExpr.C_fld LExpr.C_box LExpr.C_fold LDecl.C_len LDecl.C_pure LDecl.C_noOwn LDecl.C_cell LDecl.C_bd LDecl.C_bdL LDecl.C_ren LDecl.C_any LDecl.C_any0 LDecl.C_any1 LDecl.C_anyt LDecl.C_take LDecl.C_load LDecl.C_load0 LDecl.C_load1 LDecl.C_fld LDecl.C_box LDecl.C_fold LModule.C_len LModule.C_pure LModule.C_noOwn LModule.C_cell LModule.C_bd LModule.C_bdL LModule.C_ren LModule.C_any LModule.C_any0 LModule.C_any1 LModule.C_anyt LModule.C_take LModule.C_load LModule.C_load0 LModule.C_load1 LModule.C_fld LModule.C_box LModule.C_fold

def indexUse_L (l : Sl Use) (u : Use) (i : Nat) (_ : Unit) : St := ⟨lk [(0, l.I Use.C), (3, .ptr 0 1 0 0), (7, .int .i64 l.es.length), (8, .int .i64 i)], [some ⟨[[.str u.module, .str u.name]], 2, 99, false, false⟩], []⟩
def mf_slices_Index_impl_Use_impl_Use : MF := ⟨19, [(.t 4)], (.seq (.reg [⟨(some 3), (.box 99 (.t 1)), none⟩, ⟨(some 4), (.mov (.c (.int .i64 0))), none⟩]) (.seq (.seq (.reg [⟨(some 6), (.mov (.t 0)), none⟩, ⟨(some 7), (.lenl (.t 6)), none⟩, ⟨(some 8), (.mov (.c (.int .i64 0))), none⟩]) (.blk 0 (.loop (.seq (.reg [⟨(some 9), (.bin .lss (.t 8) (.t 7)), none⟩]) (.seq (.cond (.t 9) .skip (.exit 0)) (.seq (.blk 1 (.seq (.reg [⟨(some 10), (.mov (.t 8)), none⟩, ⟨(some 5), (.mov (.t 10)), none⟩]) (.seq (.dreg [(⟨(some 11), (.load true 2 (.t 3)), none⟩, []), (⟨(some 12), (.mov (.t 0)), none⟩, []), (⟨(some 13), (.mov (.t 5)), none⟩, []), (⟨(some 14), (.iadr 2 (.t 12) (.t 13)), none⟩, [1, 2]), (⟨(some 15), (.load true 2 (.t 14)), none⟩, [3]), (⟨(some 16), (.eqa false [.s, .s] (.t 11) (.t 15)), none⟩, [0, 4])]) (.cond (.t 16) (.seq (.reg [⟨(some 17), (.mov (.t 5)), none⟩, ⟨(some 4), (.mov (.t 17)), none⟩]) .ret) .skip)))) (.reg [⟨(some 18), (.bin .add (.t 8) (.c (.int .i64 1))), none⟩, ⟨(some 8), (.mov (.t 18)), none⟩]))))))) (.seq (.reg [⟨(some 4), (.mov (.c (.int .i64 (-1)))), none⟩]) .ret)))⟩
theorem fit_slices_Index_impl_Use_impl_Use : Fit Tryz.prog 138 Tryz.f138 mf_slices_Index_impl_Use_impl_Use := ⟨by kernel_rfl, Tryz.func138, by kernel_rfl, by kernel_rfl, by kernel_rfl, by kernel_rfl⟩
theorem sIndexUse_ct (l : Sl Use) (u : Use) : Ct Tryz.prog 138 [l.I Use.C, .agg u.C] (.int .i64 (idxFrom (fun x => u == x) l.es 0)) := by
  refine ct_of_run fit_slices_Index_impl_Use_impl_Use (by simp [mf_slices_Index_impl_Use_impl_Use]) (by simp [go_sem]) fun hd => ?_
  simp -implicitDefEqProofs [-List.map_take, -List.map_drop, go_sem, mf_slices_Index_impl_Use_impl_Use]
  have hm : l.es.length ≤ maxLen := sl_deep hd.1
  refine run_iter (l.es.length) (indexUse_L l u) (fun i a => idxFrom (fun x => u == x) (l.es.drop i) i = idxFrom (fun x => u == x) l.es 0) () (gh_auto (by simp [go_sem, indexUse_L])) (by first | (simp; done) | (simp []; done) | (simp []; omega) | grind) ?_
  intro i a hi hj
  simp -implicitDefEqProofs [-List.map_take, -List.map_drop, go_sem, indexUse_L]
  refine cnd_split (fun hc => ?_) (fun hc => ?_)
  · have hlt : i < l.es.length := by first | (simpa using hc) | (simp at hc; omega)
    rw [List.drop_eq_getElem_cons (l := l.es) (by omega)] at hj
    simp only [List.map_cons, idxFrom] at hj
    simp -implicitDefEqProofs [-List.map_take, -List.map_drop, go_sem, hlt]
    have hy := hlt
    have hdf := hy0
    have eL := @indexUse_L.eq_1
    have hm0 := hm
    have hlt0 := hlt
    exact wk0n
  · have hge : l.es.length ≤ i := by first | (simpa using hc) | (simp at hc; omega)
    rw [List.drop_of_length_le (l := l.es) (by omega)] at hj
    simp only [List.map_nil, idxFrom] at hj
    try simp -implicitDefEqProofs [-List.map_take, -List.map_drop, go_sem]
    have hy := hy0
    have hdf := hy0
    exact wk0
theorem any_use (l : List Use) (u : Use) : l.any (fun x => u == x) = l.any fun x => x == u := by
  congr 1
  funext x
  rw [Bool.eq_iff_iff, beq_iff_eq, beq_iff_eq]
  exact ⟨Eq.symm, Eq.symm⟩
def mf_slices_Contains_impl_Use_impl_Use : MF := ⟨9, [(.t 4)], (.seq (.reg [⟨(some 3), (.box 99 (.t 1)), none⟩, ⟨(some 4), (.mov (.c (.bool false))), none⟩]) (.seq (.reg [⟨(some 5), (.mov (.t 0)), none⟩, ⟨(some 6), (.load true 2 (.t 3)), none⟩, ⟨(some 7), (.call (.c (.fn 138 [])) [(.t 5), (.t 6)]), none⟩, ⟨(some 8), (.bin .geq (.t 7) (.c (.int .i64 0))), none⟩, ⟨(some 4), (.mov (.t 8)), none⟩]) .ret))⟩
theorem fit_slices_Contains_impl_Use_impl_Use : Fit Tryz.prog 77 Tryz.f77 mf_slices_Contains_impl_Use_impl_Use := ⟨by kernel_rfl, Tryz.func77, by kernel_rfl, by kernel_rfl, by kernel_rfl, by kernel_rfl⟩
theorem sContainsUse_ct (l : Sl Use) (u : Use) : Ct Tryz.prog 77 [l.I Use.C, .agg u.C] (.bool (l.es.any fun x => x == u)) := by
  refine ct_of_run fit_slices_Contains_impl_Use_impl_Use (by simp [mf_slices_Contains_impl_Use_impl_Use]) (by simp [go_sem]) fun hd => ?_
  simp -implicitDefEqProofs [-List.map_take, -List.map_drop, go_sem, mf_slices_Contains_impl_Use_impl_Use]
  have c1 := sIndexUse_ct l u
  have hy := hy0
  have e1 := @idxFrom_nn
  have e2 := @any_use
  have hdf := And.intro (@e1) (@e2)
  exact wk1
def mf_impl_Decl_like : MF := ⟨38, [(.t 4)], (.seq (.reg [⟨(some 2), (.box 72 (.t 0)), none⟩, ⟨(some 3), (.box 72 (.t 1)), none⟩, ⟨(some 4), (.mov (.c (.bool false))), none⟩]) (.seq (.reg [⟨(some 5), (.fadr 0 (.t 2)), none⟩, ⟨(some 6), (.load false 1 (.t 5)), none⟩, ⟨(some 7), (.fadr 0 (.t 3)), none⟩, ⟨(some 8), (.load false 1 (.t 7)), none⟩, ⟨(some 9), (.bin .eql (.t 6) (.t 8)), none⟩, ⟨(some 10), (.mov (.t 9)), none⟩, ⟨(some 11), (.fadr 1 (.t 2)), (some (10, true))⟩, ⟨(some 12), (.load false 1 (.t 11)), (some (10, true))⟩, ⟨(some 13), (.fadr 1 (.t 3)), (some (10, true))⟩, ⟨(some 14), (.load false 1 (.t 13)), (some (10, true))⟩, ⟨(some 15), (.seq false (.t 12) (.t 14)), (some (10, true))⟩, ⟨(some 16), (.pick (.t 10) (.t 15) (.c (.bool false))), none⟩, ⟨(some 17), (.mov (.t 16)), none⟩, ⟨(some 18), (.fadr 3 (.t 2)), (some (17, true))⟩, ⟨(some 19), (.load false 1 (.t 18)), (some (17, true))⟩, ⟨(some 20), (.fadr 3 (.t 3)), (some (17, true))⟩, ⟨(some 21), (.load false 1 (.t 20)), (some (17, true))⟩, ⟨(some 22), (.seq false (.t 19) (.t 21)), (some (17, true))⟩, ⟨(some 23), (.pick (.t 17) (.t 22) (.c (.bool false))), none⟩, ⟨(some 24), (.mov (.t 23)), none⟩, ⟨(some 25), (.fadr 2 (.t 2)), (some (24, true))⟩, ⟨(some 26), (.load false 1 (.t 25)), (some (24, true))⟩, ⟨(some 27), (.fadr 2 (.t 3)), (some (24, true))⟩, ⟨(some 28), (.load false 1 (.t 27)), (some (24, true))⟩, ⟨(some 29), (.call (.c (.fn 139 [])) [(.t 26), (.t 28)]), (some (24, true))⟩, ⟨(some 30), (.pick (.t 24) (.t 29) (.c (.bool false))), none⟩, ⟨(some 31), (.mov (.t 30)), none⟩, ⟨(some 32), (.fadr 4 (.t 2)), (some (31, true))⟩, ⟨(some 33), (.load true 4 (.t 32)), (some (31, true))⟩, ⟨(some 34), (.fadr 4 (.t 3)), (some (31, true))⟩, ⟨(some 35), (.load true 4 (.t 34)), (some (31, true))⟩, ⟨(some 36), (.call (.c (.fn 140 [])) [(.t 33), (.t 35), (.c (.imm [] [] true)), (.c (.imm [] [] true))]), (some (31, true))⟩, ⟨(some 37), (.pick (.t 31) (.t 36) (.c (.bool false))), none⟩, ⟨(some 4), (.mov (.t 37)), none⟩]) .ret))⟩
theorem fit_impl_Decl_like : Fit Tryz.prog 78 Tryz.f78 mf_impl_Decl_like := ⟨by kernel_rfl, Tryz.func78, by kernel_rfl, by kernel_rfl, by kernel_rfl, by kernel_rfl⟩
theorem dlike_ct (x y : LDecl) (hx : x.core.Ar) : Ct Tryz.prog 78 [.agg x.C, .agg y.C] (.bool (declLike x.core y.core)) := by
  have hl : Ct Tryz.prog 140 [.agg x.body.C, .agg y.body.C, .imm [] [] true, .imm [] [] true] (.bool (likeE x.body.core y.body.core [] [])) := ialike_ct x.body y.body [] [] true true 9 hx.1 rfl (by simp)
  have hc : declLike x.core y.core = (x.kind == y.kind && (x.name == y.name && (x.type == y.type && (all2 (· == ·) x.binds.es y.binds.es && likeE x.body.core y.body.core [] [])))) := rfl
  rw [hc]
  refine ct_of_run fit_impl_Decl_like (by simp [mf_impl_Decl_like]) (by simp [go_sem]) fun hd => ?_
  simp -implicitDefEqProofs [-List.map_take, -List.map_drop, go_sem, mf_impl_Decl_like]
  have c1 := equal_Bind_ct x.binds y.binds
  have c2 := hl
  have hy := hy0
  have hdf := hy0
  exact wk1
def alike1_L (x y : LModule) (i : Nat) (_ : Unit) : St := ⟨lk [(2, .ptr 0 1 0 0), (3, .ptr 1 1 0 0), (34, x.uses.I Use.C), (35, .int .i64 x.uses.es.length), (36, .int .i64 i)], [some ⟨[[.str x.name, .imm (x.uses.es.map Use.C) x.uses.sp x.uses.lim, .imm (x.decls.es.map LDecl.C) x.decls.sp x.decls.lim]], 3, 61, false, false⟩, some ⟨[[.str y.name, .imm (y.uses.es.map Use.C) y.uses.sp y.uses.lim, .imm (y.decls.es.map LDecl.C) y.decls.sp y.decls.lim]], 3, 61, false, false⟩], []⟩
def alike1_L2 (x y : LModule) (i : Nat) (_ : Unit) : St := ⟨lk [(3, .ptr 1 1 0 0), (47, x.decls.I LDecl.C), (48, .int .i64 x.decls.es.length), (49, .int .i64 i)], [some ⟨[[.str x.name, .imm (x.uses.es.map Use.C) x.uses.sp x.uses.lim, .imm (x.decls.es.map LDecl.C) x.decls.sp x.decls.lim]], 3, 61, false, false⟩, some ⟨[[.str y.name, .imm (y.uses.es.map Use.C) y.uses.sp y.uses.lim, .imm (y.decls.es.map LDecl.C) y.decls.sp y.decls.lim]], 3, 61, false, false⟩], []⟩
def mf_impl_programsAlike_1 : MF := ⟨70, [(.t 4)], (.seq (.reg [⟨(some 2), (.box 61 (.t 0)), none⟩, ⟨(some 3), (.box 61 (.t 1)), none⟩, ⟨(some 4), (.mov (.c (.bool false))), none⟩]) (.seq (.seq (.reg [⟨(some 10), (.fadr 0 (.t 2)), none⟩, ⟨(some 11), (.load false 1 (.t 10)), none⟩, ⟨(some 12), (.fadr 0 (.t 3)), none⟩, ⟨(some 13), (.load false 1 (.t 12)), none⟩, ⟨(some 14), (.seq true (.t 11) (.t 13)), none⟩, ⟨(some 15), (.mov (.t 14)), none⟩, ⟨(some 16), (.fadr 1 (.t 2)), (some (15, false))⟩, ⟨(some 17), (.load false 1 (.t 16)), (some (15, false))⟩, ⟨(some 18), (.lenl (.t 17)), (some (15, false))⟩, ⟨(some 19), (.fadr 1 (.t 3)), (some (15, false))⟩, ⟨(some 20), (.load false 1 (.t 19)), (some (15, false))⟩, ⟨(some 21), (.lenl (.t 20)), (some (15, false))⟩, ⟨(some 22), (.bin .neq (.t 18) (.t 21)), (some (15, false))⟩, ⟨(some 23), (.pick (.t 15) (.c (.bool true)) (.t 22)), none⟩, ⟨(some 24), (.mov (.t 23)), none⟩, ⟨(some 25), (.fadr 2 (.t 2)), (some (24, false))⟩, ⟨(some 26), (.load false 1 (.t 25)), (some (24, false))⟩, ⟨(some 27), (.lenl (.t 26)), (some (24, false))⟩, ⟨(some 28), (.fadr 2 (.t 3)), (some (24, false))⟩, ⟨(some 29), (.load false 1 (.t 28)), (some (24, false))⟩, ⟨(some 30), (.lenl (.t 29)), (some (24, false))⟩, ⟨(some 31), (.bin .neq (.t 27) (.t 30)), (some (24, false))⟩, ⟨(some 32), (.pick (.t 24) (.c (.bool true)) (.t 31)), none⟩]) (.cond (.t 32) (.seq (.reg [⟨(some 4), (.mov (.c (.bool false))), none⟩]) .ret) .skip)) (.seq (.seq (.reg [⟨(some 33), (.fadr 1 (.t 2)), none⟩, ⟨(some 34), (.load false 1 (.t 33)), none⟩, ⟨(some 35), (.lenl (.t 34)), none⟩, ⟨(some 36), (.mov (.c (.int .i64 0))), none⟩]) (.blk 0 (.loop (.seq (.reg [⟨(some 37), (.bin .lss (.t 36) (.t 35)), none⟩]) (.seq (.cond (.t 37) .skip (.exit 0)) (.seq (.blk 1 (.seq (.reg [⟨(some 38), (.iadr 2 (.t 34) (.t 36)), none⟩, ⟨(some 39), (.load true 2 (.t 38)), none⟩, ⟨(some 6), (.alloc 99 [(.str []), (.str [])]), none⟩, ⟨none, (.store 2 (.t 6) (.t 39)), none⟩]) (.seq (.reg [⟨(some 40), (.fadr 1 (.t 3)), none⟩, ⟨(some 41), (.load false 1 (.t 40)), none⟩, ⟨(some 42), (.load true 2 (.t 6)), none⟩, ⟨(some 43), (.call (.c (.fn 77 [])) [(.t 41), (.t 42)]), none⟩, ⟨(some 44), (.not (.t 43)), none⟩]) (.cond (.t 44) (.seq (.reg [⟨(some 4), (.mov (.c (.bool false))), none⟩]) .ret) .skip)))) (.reg [⟨(some 45), (.bin .add (.t 36) (.c (.int .i64 1))), none⟩, ⟨(some 36), (.mov (.t 45)), none⟩]))))))) (.seq (.seq (.reg [⟨(some 46), (.fadr 2 (.t 2)), none⟩, ⟨(some 47), (.load false 1 (.t 46)), none⟩, ⟨(some 48), (.lenl (.t 47)), none⟩, ⟨(some 49), (.mov (.c (.int .i64 0))), none⟩]) (.blk 2 (.loop (.seq (.reg [⟨(some 50), (.bin .lss (.t 49) (.t 48)), none⟩]) (.seq (.cond (.t 50) .skip (.exit 2)) (.seq (.blk 3 (.seq (.reg [⟨(some 51), (.iadr 8 (.t 47) (.t 49)), none⟩, ⟨(some 52), (.load true 8 (.t 51)), none⟩, ⟨(some 8), (.alloc 72 [(.int .i64 0), (.str []), (.imm [] [] true), (.str []), (.int .i64 0), (.int .i64 0), (.str []), (.imm [] [] true)]), none⟩, ⟨none, (.store 8 (.t 8) (.t 52)), none⟩]) (.seq (.reg [⟨(some 53), (.load true 3 (.t 3)), none⟩, ⟨(some 54), (.fadr 1 (.t 8)), none⟩, ⟨(some 55), (.load false 1 (.t 54)), none⟩, ⟨(some 56), (.call (.c (.fn 72 [])) [(.t 53), (.t 55)]), none⟩, ⟨(some 9), (.mov (.t 56)), none⟩]) (.seq (.dreg [(⟨(some 57), (.mov (.t 9)), none⟩, []), (⟨(some 58), (.bin .lss (.t 57) (.c (.int .i64 0))), none⟩, [0]), (⟨(some 59), (.mov (.t 58)), none⟩, [1]), (⟨(some 60), (.load true 8 (.t 8)), (some (59, false))⟩, [2]), (⟨(some 61), (.fadr 2 (.t 3)), (some (59, false))⟩, [2]), (⟨(some 62), (.load false 1 (.t 61)), (some (59, false))⟩, [4, 2]), (⟨(some 63), (.mov (.t 9)), (some (59, false))⟩, [2]), (⟨(some 64), (.iadr 8 (.t 62) (.t 63)), (some (59, false))⟩, [5, 6, 2]), (⟨(some 65), (.load true 8 (.t 64)), (some (59, false))⟩, [7, 2]), (⟨(some 66), (.call (.c (.fn 78 [])) [(.t 60), (.t 65)]), (some (59, false))⟩, [3, 8, 2, 2]), (⟨(some 67), (.not (.t 66)), (some (59, false))⟩, [9, 2]), (⟨(some 68), (.pick (.t 59) (.c (.bool true)) (.t 67)), none⟩, [2, 10])]) (.cond (.t 68) (.seq (.reg [⟨(some 4), (.mov (.c (.bool false))), none⟩]) .ret) .skip))))) (.reg [⟨(some 69), (.bin .add (.t 49) (.c (.int .i64 1))), none⟩, ⟨(some 49), (.mov (.t 69)), none⟩]))))))) (.seq (.reg [⟨(some 4), (.mov (.c (.bool true))), none⟩]) .ret)))))⟩
theorem fit_impl_programsAlike_1 : Fit Tryz.prog 76 Tryz.f76 mf_impl_programsAlike_1 := ⟨by kernel_rfl, Tryz.func76, by kernel_rfl, by kernel_rfl, by kernel_rfl, by kernel_rfl⟩
theorem alike1_ct (x y : LModule) (hx : ∀ d, d ∈ x.decls.es → d.core.Ar) : Ct Tryz.prog 76 ([.agg x.C, .agg y.C] ++ []) (.bool (moduleLike x.core y.core)) := by
  have hc : moduleLike x.core y.core = (x.name == y.name && (usesLike x.uses.es y.uses.es && (x.decls.es.length == y.decls.es.length && (x.decls.es.map LDecl.core).all (declIn y.core)))) := by
    simp [moduleLike]
  rw [hc]
  clear hc
  refine ct_of_run fit_impl_programsAlike_1 (by simp [mf_impl_programsAlike_1]) (by simp [go_sem]) fun hd => ?_
  simp -implicitDefEqProofs [-List.map_take, -List.map_drop, go_sem, mf_impl_programsAlike_1]
  have hm : x.uses.es.length ≤ maxLen := uses_deep hd.1
  have hm2 : x.decls.es.length ≤ maxLen := decls_deep hd.1
  repeat' first
    | ((first | refine gv_split (fun h => ?_) (fun h => ?_) | refine cnd_split (fun h => ?_) (fun h => ?_) | refine cgv_split (fun h => ?_) (fun h => ?_)) <;> (try (have hp := h; simp at hp)) <;> simp -implicitDefEqProofs [-List.map_take, -List.map_drop, go_sem, h])
    | (refine And.intro (by first | omega | (simp only [maxLen]; omega) | (simp_all; done) | (simp_all; omega)) ?_; try simp -implicitDefEqProofs [-List.map_take, -List.map_drop, go_sem])
    | (refine run_dreg' (by decide) ?_; simp -implicitDefEqProofs [-List.map_take, -List.map_drop, go_sem])
    | ((first | refine end_tup _ (by simp) (by simp [go_sem]; rfl) (by simp [go_sem]) ?_); first | (simp [go_sem, *, usesLike]; done) | grind [usesLike] | (simp [go_sem, usesLike]; grind [usesLike]) | (simp_all [go_sem, usesLike]; done) | (simp_all [go_sem, usesLike]; omega))
  refine run_iter (x.uses.es.length) (alike1_L x y) (fun i a => ((x.uses.es.drop i).all fun u => y.uses.es.any fun x => x == u) = (x.uses.es.all fun u => y.uses.es.any fun x => x == u)) () (gh_auto (by simp [go_sem, alike1_L])) (by first | (simp; done) | (simp [usesLike]; done) | (simp [usesLike]; omega) | grind) ?_
  intro i a hi hj
  simp -implicitDefEqProofs [-List.map_take, -List.map_drop, go_sem, alike1_L]
  refine cnd_split (fun hc => ?_) (fun hc => ?_)
  · have hlt : i < x.uses.es.length := by first | (simpa using hc) | (simp at hc; omega)
    rw [List.drop_eq_getElem_cons (l := x.uses.es) (by omega)] at hj
    simp only [List.map_cons, List.all_cons, List.all_nil] at hj
    simp -implicitDefEqProofs [-List.map_take, -List.map_drop, go_sem, hlt]
    have c1 := sContainsUse_ct y.uses x.uses.es[i]
    have hy := hlt
    have e1 := @usesLike.eq_1
    have hdf := @e1
    have eL := @alike1_L.eq_1
    have hm0 := hm
    have hlt0 := hlt
    exact wk1n
  · have hge : x.uses.es.length ≤ i := by first | (simpa using hc) | (simp at hc; omega)
    rw [List.drop_of_length_le (l := x.uses.es) (by omega)] at hj
    simp only [List.map_nil, List.all_cons, List.all_nil] at hj
    try simp -implicitDefEqProofs [-List.map_take, -List.map_drop, go_sem]
    refine run_iter (x.decls.es.length) (alike1_L2 x y) (fun i2 a2 => ((x.decls.es.drop i2).map LDecl.core).all (declIn y.core) = (x.decls.es.map LDecl.core).all (declIn y.core)) () (gh_auto (by simp [go_sem, alike1_L2])) (by first | (simp; done) | (simp [usesLike]; done) | (simp [usesLike]; omega) | grind) ?_
    intro i2 a2 hi2 hj2
    simp -implicitDefEqProofs [-List.map_take, -List.map_drop, go_sem, alike1_L2]
    refine cnd_split (fun hc2 => ?_) (fun hc2 => ?_)
    · have hlt2 : i2 < x.decls.es.length := by first | (simpa using hc2) | (simp at hc2; omega)
      rw [List.drop_eq_getElem_cons (l := x.decls.es) (by omega)] at hj2
      simp only [List.map_cons, List.map_cons, List.all_cons, List.map_nil, List.all_nil] at hj2
      simp -implicitDefEqProofs [-List.map_take, -List.map_drop, go_sem, hlt2]
      rcases declAt_cases y x.decls.es[i2].name with h1 | ⟨k, hk, h1, h2⟩
      · rw [declIn_none (by rw [LDecl.core_name]; exact h1)] at hj2
        have d1 := fun a1 => find_ct y a1
        have hy := And.intro (hlt2) (h1)
        have e1 := @usesLike.eq_1
        have hdf := @e1
        have eL := @alike1_L2.eq_1
        have hm0 := hm2
        have hlt0 := hlt2
        exact wk1n
      · rw [declIn_some (by rw [LDecl.core_name]; exact h2)] at hj2
        have d1 := fun a1 => find_ct y a1
        have c1 := dlike_ct x.decls.es[i2] y.decls.es[k] (hx _ (List.getElem_mem hlt2))
        have hy := And.intro (hlt2) (And.intro (h1) (hk))
        have e1 := @usesLike.eq_1
        have hdf := @e1
        have eL := @alike1_L2.eq_1
        have hm0 := hm2
        have hlt0 := hlt2
        exact wk1n
    · have hge2 : x.decls.es.length ≤ i2 := by first | (simpa using hc2) | (simp at hc2; omega)
      rw [List.drop_of_length_le (l := x.decls.es) (by omega)] at hj2
      simp only [List.map_nil, List.map_cons, List.all_cons, List.map_nil, List.all_nil] at hj2
      try simp -implicitDefEqProofs [-List.map_take, -List.map_drop, go_sem]
      have d1 := fun a1 => find_ct y a1
      have hy := hy0
      have e1 := @usesLike.eq_1
      have hdf := @e1
      exact wk1
def mf_impl_programsAlike : MF := ⟨8, [(.t 4)], (.seq (.reg [⟨(some 4), (.mov (.c (.bool false))), none⟩]) (.seq (.reg [⟨(some 5), (.mov (.t 0)), none⟩, ⟨(some 6), (.mov (.t 1)), none⟩, ⟨(some 7), (.call (.c (.fn 75 [])) [(.t 5), (.t 6), (.c (.fn 76 []))]), none⟩, ⟨(some 4), (.mov (.t 7)), none⟩]) .ret))⟩
theorem fit_impl_programsAlike : Fit Tryz.prog 34 Tryz.f34 mf_impl_programsAlike := ⟨by kernel_rfl, Tryz.func34, by kernel_rfl, by kernel_rfl, by kernel_rfl, by kernel_rfl⟩
theorem iprogramsAlike_ct (x y : Sl LModule) (ax : ArP (x.es.map LModule.core)) : Ct Tryz.prog 34 [x.I LModule.C, y.I LModule.C] (.bool (all2 moduleLike (x.es.map LModule.core) (y.es.map LModule.core))) := by
  have h1 := eqF_Module_ct x y 76 (fun a b => moduleLike a.core b.core) (fun a ha b => alike1_ct a b fun d hd => ax _ (List.mem_map_of_mem ha) _ (by rw [LModule.core_decls]; exact List.mem_map_of_mem hd))
  refine ct_of_run fit_impl_programsAlike (by simp [mf_impl_programsAlike]) (by simp [go_sem]) fun hd => ?_
  simp -implicitDefEqProofs [-List.map_take, -List.map_drop, go_sem, mf_impl_programsAlike]
  repeat' first
    | ((first | refine gv_split (fun h => ?_) (fun h => ?_) | refine cnd_split (fun h => ?_) (fun h => ?_) | refine cgv_split (fun h => ?_) (fun h => ?_)) <;> (try (have hp := h; simp at hp)) <;> simp -implicitDefEqProofs [-List.map_take, -List.map_drop, go_sem, h])
    | (refine And.intro (by first | omega | (simp only [maxLen]; omega) | (simp_all; done) | (simp_all; omega)) ?_; try simp -implicitDefEqProofs [-List.map_take, -List.map_drop, go_sem])
    | ((first | refine stp_ct (h1) (by simp [go_sem]) ?_ ?_ | refine cstp_ct (h1) (by simp [go_sem]) ?_ ?_); (simp [go_sem]); simp -implicitDefEqProofs [-List.map_take, -List.map_drop, go_sem])
    | (refine run_dreg' (by decide) ?_; simp -implicitDefEqProofs [-List.map_take, -List.map_drop, go_sem])
    | ((first | refine end_tup _ (by simp) (by simp [go_sem]; rfl) (by simp [go_sem]) ?_); first | (simp [go_sem, *, all2_map]; done) | grind [all2_map] | (simp [go_sem, all2_map]; grind [all2_map]) | (simp_all [go_sem, all2_map]; done) | (simp_all [go_sem, all2_map]; omega))
def mf_impl_ProgramLike : MF := ⟨16, [(.t 4)], (.seq (.reg [⟨(some 4), (.mov (.c (.bool false))), none⟩]) (.seq (.reg [⟨(some 5), (.mov (.t 0)), none⟩, ⟨(some 6), (.call (.c (.fn 33 [])) [(.t 5)]), none⟩, ⟨(some 7), (.mov (.t 6)), none⟩, ⟨(some 8), (.mov (.t 1)), (some (7, true))⟩, ⟨(some 9), (.call (.c (.fn 33 [])) [(.t 8)]), (some (7, true))⟩, ⟨(some 10), (.pick (.t 7) (.t 9) (.c (.bool false))), none⟩, ⟨(some 11), (.mov (.t 10)), none⟩, ⟨(some 12), (.mov (.t 0)), (some (11, true))⟩, ⟨(some 13), (.mov (.t 1)), (some (11, true))⟩, ⟨(some 14), (.call (.c (.fn 34 [])) [(.t 12), (.t 13)]), (some (11, true))⟩, ⟨(some 15), (.pick (.t 11) (.t 14) (.c (.bool false))), none⟩, ⟨(some 4), (.mov (.t 15)), none⟩]) .ret))⟩
theorem fit_impl_ProgramLike : Fit Tryz.prog 11 Tryz.f11 mf_impl_ProgramLike := ⟨by kernel_rfl, Tryz.func11, by kernel_rfl, by kernel_rfl, by kernel_rfl, by kernel_rfl⟩
theorem iprogramLike_ct (x y : Sl LModule) (hx : SmP (x.es.map LModule.core)) (hy : SmP (y.es.map LModule.core)) : Ct Tryz.prog 11 [x.I LModule.C, y.I LModule.C] (.bool (programLike (x.es.map LModule.core) (y.es.map LModule.core))) := by
  refine ct_of_run fit_impl_ProgramLike (by simp [mf_impl_ProgramLike]) (by simp [go_sem]) fun hd => ?_
  simp -implicitDefEqProofs [-List.map_take, -List.map_drop, go_sem, mf_impl_ProgramLike]
  cases ox : programOk (x.es.map LModule.core) with
  | false =>
    have h1 := iprogramOk2_ct x hx
    rw [ox] at h1
    repeat' first
      | ((first | refine gv_split (fun h => ?_) (fun h => ?_) | refine cnd_split (fun h => ?_) (fun h => ?_) | refine cgv_split (fun h => ?_) (fun h => ?_)) <;> (try (have hp := h; simp at hp)) <;> simp -implicitDefEqProofs [-List.map_take, -List.map_drop, go_sem, h, ox])
      | (refine And.intro (by first | omega | (simp only [maxLen]; omega) | (simp_all; done) | (simp_all; omega)) ?_; try simp -implicitDefEqProofs [-List.map_take, -List.map_drop, go_sem, ox])
      | ((first | refine stp_ct (h1) (by simp [go_sem, ox]) ?_ ?_ | refine cstp_ct (h1) (by simp [go_sem, ox]) ?_ ?_); (simp [go_sem]); simp -implicitDefEqProofs [-List.map_take, -List.map_drop, go_sem, ox])
      | (refine run_dreg' (by decide) ?_; simp -implicitDefEqProofs [-List.map_take, -List.map_drop, go_sem, ox])
      | ((first | refine end_tup _ (by simp) (by simp [go_sem]; rfl) (by simp [go_sem]) ?_); first | (simp [go_sem, *, programLike]; done) | grind [programLike] | (simp [go_sem, programLike]; grind [programLike]) | (simp_all [go_sem, programLike]; done) | (simp_all [go_sem, programLike]; omega))
  | true =>
    have h1 := iprogramOk2_ct x hx
    rw [ox] at h1
    repeat' first
      | ((first | refine gv_split (fun h => ?_) (fun h => ?_) | refine cnd_split (fun h => ?_) (fun h => ?_) | refine cgv_split (fun h => ?_) (fun h => ?_)) <;> (try (have hp := h; simp at hp)) <;> simp -implicitDefEqProofs [-List.map_take, -List.map_drop, go_sem, h, ox])
      | (refine And.intro (by first | omega | (simp only [maxLen]; omega) | (simp_all; done) | (simp_all; omega)) ?_; try simp -implicitDefEqProofs [-List.map_take, -List.map_drop, go_sem, ox])
      | ((first | refine stp_ct (h1) (by simp [go_sem, ox]) ?_ ?_ | refine cstp_ct (h1) (by simp [go_sem, ox]) ?_ ?_ | refine stp_ct (iprogramOk2_ct y hy) (by simp [go_sem, ox]) ?_ ?_ | refine cstp_ct (iprogramOk2_ct y hy) (by simp [go_sem, ox]) ?_ ?_ | refine stp_ct (iprogramsAlike_ct x y (Ar_of_programOk ox)) (by simp [go_sem, ox]) ?_ ?_ | refine cstp_ct (iprogramsAlike_ct x y (Ar_of_programOk ox)) (by simp [go_sem, ox]) ?_ ?_); (simp [go_sem]); simp -implicitDefEqProofs [-List.map_take, -List.map_drop, go_sem, ox])
      | (refine run_dreg' (by decide) ?_; simp -implicitDefEqProofs [-List.map_take, -List.map_drop, go_sem, ox])
      | ((first | refine end_tup _ (by simp) (by simp [go_sem]; rfl) (by simp [go_sem]) ?_); first | (simp [go_sem, *, programLike]; done) | grind [programLike] | (simp [go_sem, programLike]; grind [programLike]) | (simp_all [go_sem, programLike]; done) | (simp_all [go_sem, programLike]; omega))
end Go.Mach
