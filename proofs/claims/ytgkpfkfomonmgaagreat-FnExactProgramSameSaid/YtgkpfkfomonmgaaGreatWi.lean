import Derived.Test.YtgkpfkfomonmgaaGreatWc
import Derived.Test.YtgkpfkfomonmgaaGreatDb
/- The laws' weights, walked. -/
set_option maxHeartbeats 4000000
namespace Go.Mach
open Go Go.Proofs
set_option linter.unusedVariables false
set_option linter.unusedSimpArgs false
attribute [local go_sem] run_seq run_skip run_reg run_blk run_exit run_ret run_cond cnd_true cnd_false kx_seq_normal kx_seq_exit kx_seq_ret kx_blk_normal kx_blk_same kx_blk_other kx_blk_ret kx_loop_exit kx_loop_ret kx_done ops_nil ops_plain ops_grd gv_tt gv_ff gv_tf gv_ft gv_tup stp_ok stp_ob stp_hp stp_bad stp_if get_t get_c putO_some putO_none put_same put_ne put_σ put_base withσ_τ withσ_σ withσ_base withσ_put withσ_withσ mk_τ mk_σ mk_base mk_withσ entry_τ entry_σ entry_base calm_nil calm_plain calm_grd cgv_tt cgv_ff cgv_tf cgv_ft cgv_tup cstp_ok cstp_ob cstp_if
attribute [local irreducible] Ct Co Cs
attribute [local go_sem] evalOp notV negV pickV binV intB seqV beqV catV lensV lenlV boxV_eq newV cellsOf cellV fadrV fldV fldC loadV loadC_ag loadC_one plainV isOwn iadrV storeV lk bdV bdL renO renL renV pureV pureL noOwnV noOwnL idxV slsV optI extV resL resV ret1 mmV cnviV cnvsV nilcV eqnV bslV bslGo appV elems okE appE getD_map okO_none okO_some strC intC Sl.I
attribute [local simp] Bind.eqa Use.eqa loadC_str loadC_int Bind.C_len Bind.C_pure Bind.C_noOwn Bind.C_cell Bind.C_bd Bind.C_bdL Bind.C_ren Bind.C_any Bind.C_any0 Bind.C_any1 Bind.C_anyt Bind.C_take Bind.C_load Bind.C_load0 Bind.C_load1 Bind.C_fld Bind.C_box Bind.C_fold Use.C_len Use.C_pure Use.C_noOwn Use.C_cell Use.C_bd Use.C_bdL Use.C_ren Use.C_any Use.C_any0 Use.C_any1 Use.C_anyt Use.C_take Use.C_load Use.C_load0 Use.C_load1 Use.C_fld Use.C_box Use.C_fold LExpr.C_len LExpr.C_pure LExpr.C_noOwn LExpr.C_cell LExpr.C_bd LExpr.C_bdL LExpr.C_ren LExpr.C_any LExpr.C_any0 LExpr.C_any1 LExpr.C_anyt LExpr.C_take LExpr.C_load LExpr.C_load0 LExpr.C_load1 LExpr.C_fld LExpr.C_box LExpr.C_fold LDecl.C_len LDecl.C_pure LDecl.C_noOwn LDecl.C_cell LDecl.C_bd LDecl.C_bdL LDecl.C_ren LDecl.C_any LDecl.C_any0 LDecl.C_any1 LDecl.C_anyt LDecl.C_take LDecl.C_load LDecl.C_load0 LDecl.C_load1 LDecl.C_fld LDecl.C_box LDecl.C_fold LModule.C_len LModule.C_pure LModule.C_noOwn LModule.C_cell LModule.C_bd LModule.C_bdL LModule.C_ren LModule.C_any LModule.C_any0 LModule.C_any1 LModule.C_anyt LModule.C_take LModule.C_load LModule.C_load0 LModule.C_load1 LModule.C_fld LModule.C_box LModule.C_fold

theorem str_deep {s : Str} (h : deepV (.str s)) : s.length ≤ maxLen := h
def mf_laws_szUse : MF := ⟨20, [(.t 4)], (.seq (.reg [⟨(some 2), (.box 178 (.t 0)), none⟩, ⟨(some 4), (.mov (.c (.int .i64 0))), none⟩]) (.seq (.reg [⟨(some 5), (.mov (.t 1)), none⟩, ⟨(some 6), (.fadr 0 (.t 2)), none⟩, ⟨(some 7), (.load false 1 (.t 6)), none⟩, ⟨(some 8), (.lens (.t 7)), none⟩, ⟨(some 9), (.bin .sub (.t 5) (.t 8)), none⟩, ⟨(some 1), (.mov (.t 9)), none⟩]) (.seq (.seq (.reg [⟨(some 10), (.mov (.t 1)), none⟩, ⟨(some 11), (.bin .lss (.t 10) (.c (.int .i64 0))), none⟩]) (.cond (.t 11) (.seq (.reg [⟨(some 4), (.mov (.c (.int .i64 (-1)))), none⟩]) .ret) .skip)) (.seq (.reg [⟨(some 12), (.mov (.t 1)), none⟩, ⟨(some 13), (.fadr 1 (.t 2)), none⟩, ⟨(some 14), (.load false 1 (.t 13)), none⟩, ⟨(some 15), (.lens (.t 14)), none⟩, ⟨(some 16), (.bin .sub (.t 12) (.t 15)), none⟩, ⟨(some 1), (.mov (.t 16)), none⟩]) (.seq (.seq (.reg [⟨(some 17), (.mov (.t 1)), none⟩, ⟨(some 18), (.bin .lss (.t 17) (.c (.int .i64 0))), none⟩]) (.cond (.t 18) (.seq (.reg [⟨(some 4), (.mov (.c (.int .i64 (-1)))), none⟩]) .ret) .skip)) (.seq (.reg [⟨(some 19), (.mov (.t 1)), none⟩, ⟨(some 4), (.mov (.t 19)), none⟩]) .ret))))))⟩
theorem fit_laws_szUse : Fit Tryz.prog 204 Tryz.f204 mf_laws_szUse := ⟨by kernel_rfl, Tryz.func204, by kernel_rfl, by kernel_rfl, by kernel_rfl, by kernel_rfl⟩
theorem szUse_ct (u : Use) (left : Nat) (hl : left ≤ 1000000) : Ct Tryz.prog 204 [.agg u.C, .int .i64 left] (.int .i64 (szR left (wUse u))) := by
  refine ct_of_run fit_laws_szUse (by simp [mf_laws_szUse]) (by simp [go_sem]) fun hd => ?_
  simp -implicitDefEqProofs [-List.map_take, -List.map_drop, go_sem, mf_laws_szUse]
  have hd1 : u.module.length ≤ maxLen ∧ u.name.length ≤ maxLen := by have := hd.1; simp [Use.C, deepL, deepV] at this; exact this
  simp only [maxLen] at hd1
  have hw1 : IntKind.i64.wrap ((left : Int) - (u.module.length : Int)) = (left : Int) - (u.module.length : Int) := wrap_small (by omega) (by omega)
  simp -implicitDefEqProofs [-List.map_take, -List.map_drop, go_sem, hw1]
  refine cnd_split (fun h => ?_) (fun h => ?_)
  · have hp : left < wUse u := by simp at h; simp only [wUse]; omega
    simp -implicitDefEqProofs [-List.map_take, -List.map_drop, go_sem, h]
    repeat' first
      | ((first | refine gv_split (fun h => ?_) (fun h => ?_) | refine cnd_split (fun h => ?_) (fun h => ?_) | refine cgv_split (fun h => ?_) (fun h => ?_)) <;> (try (have hp := h; simp at hp)) <;> simp -implicitDefEqProofs [-List.map_take, -List.map_drop, go_sem, h])
      | (refine And.intro (by first | omega | (simp only [maxLen]; omega) | (simp_all; done) | (simp_all; omega)) ?_; try simp -implicitDefEqProofs [-List.map_take, -List.map_drop, go_sem])
      | (refine run_dreg' (by decide) ?_; simp -implicitDefEqProofs [-List.map_take, -List.map_drop, go_sem])
      | ((first | refine end_tup _ (by simp) (by simp [go_sem]; rfl) (by simp [go_sem]) ?_); first | (simp [go_sem, *, szR_neg hp]; done) | grind [szR_neg hp] | (simp [go_sem, szR_neg hp]; grind [szR_neg hp]) | (simp_all [go_sem, szR_neg hp]; done) | (simp_all [go_sem, szR_neg hp]; omega))
  · have hq : (u.module.length : Int) ≤ left := by simp at h; omega
    have hw2 : IntKind.i64.wrap ((left : Int) - (u.module.length : Int) - (u.name.length : Int)) = (left : Int) - (u.module.length : Int) - (u.name.length : Int) := wrap_small (by omega) (by omega)
    simp -implicitDefEqProofs [-List.map_take, -List.map_drop, go_sem, h, hw1, hw2]
    refine cnd_split (fun h2 => ?_) (fun h2 => ?_)
    · have hp : left < wUse u := by simp at h2; simp only [wUse]; omega
      simp -implicitDefEqProofs [-List.map_take, -List.map_drop, go_sem, h2]
      repeat' first
        | ((first | refine gv_split (fun h => ?_) (fun h => ?_) | refine cnd_split (fun h => ?_) (fun h => ?_) | refine cgv_split (fun h => ?_) (fun h => ?_)) <;> (try (have hp := h; simp at hp)) <;> simp -implicitDefEqProofs [-List.map_take, -List.map_drop, go_sem, h])
        | (refine And.intro (by first | omega | (simp only [maxLen]; omega) | (simp_all; done) | (simp_all; omega)) ?_; try simp -implicitDefEqProofs [-List.map_take, -List.map_drop, go_sem])
        | (refine run_dreg' (by decide) ?_; simp -implicitDefEqProofs [-List.map_take, -List.map_drop, go_sem])
        | ((first | refine end_tup _ (by simp) (by simp [go_sem]; rfl) (by simp [go_sem]) ?_); first | (simp [go_sem, *, szR_neg hp]; done) | grind [szR_neg hp] | (simp [go_sem, szR_neg hp]; grind [szR_neg hp]) | (simp_all [go_sem, szR_neg hp]; done) | (simp_all [go_sem, szR_neg hp]; omega))
    · have hp : ¬ left < wUse u := by simp at h2; simp only [wUse]; omega
      have hp2 : ((left - wUse u : Nat) : Int) = (left : Int) - (u.module.length : Int) - (u.name.length : Int) := by simp at h2; simp only [wUse] at hp ⊢; omega
      simp -implicitDefEqProofs [-List.map_take, -List.map_drop, go_sem, h2]
      repeat' first
        | ((first | refine gv_split (fun h => ?_) (fun h => ?_) | refine cnd_split (fun h => ?_) (fun h => ?_) | refine cgv_split (fun h => ?_) (fun h => ?_)) <;> (try (have hp := h; simp at hp)) <;> simp -implicitDefEqProofs [-List.map_take, -List.map_drop, go_sem, h])
        | (refine And.intro (by first | omega | (simp only [maxLen]; omega) | (simp_all; done) | (simp_all; omega)) ?_; try simp -implicitDefEqProofs [-List.map_take, -List.map_drop, go_sem])
        | (refine run_dreg' (by decide) ?_; simp -implicitDefEqProofs [-List.map_take, -List.map_drop, go_sem])
        | ((first | refine end_tup _ (by simp) (by simp [go_sem]; rfl) (by simp [go_sem]) ?_); first | (simp [go_sem, *, szR_pos hp, hp2]; done) | grind [szR_pos hp, hp2] | (simp [go_sem, szR_pos hp, hp2]; grind [szR_pos hp, hp2]) | (simp_all [go_sem, szR_pos hp, hp2]; done) | (simp_all [go_sem, szR_pos hp, hp2]; omega))
def szUseS_L (l : Sl Use) (i : Nat) (a : Nat) : St := ⟨lk [(0, l.I Use.C), (1, .int .i64 a), (5, .int .i64 i)], [], []⟩
def mf_laws_szUseS : MF := ⟨27, [(.t 4)], (.seq (.reg [⟨(some 4), (.mov (.c (.int .i64 0))), none⟩]) (.seq (.reg [⟨(some 6), (.mov (.t 1)), none⟩, ⟨(some 7), (.mov (.t 0)), none⟩, ⟨(some 8), (.lenl (.t 7)), none⟩, ⟨(some 9), (.bin .sub (.t 6) (.t 8)), none⟩, ⟨(some 1), (.mov (.t 9)), none⟩]) (.seq (.seq (.reg [⟨(some 10), (.mov (.t 1)), none⟩, ⟨(some 11), (.bin .lss (.t 10) (.c (.int .i64 0))), none⟩]) (.cond (.t 11) (.seq (.reg [⟨(some 4), (.mov (.c (.int .i64 (-1)))), none⟩]) .ret) .skip)) (.seq (.seq (.reg [⟨(some 5), (.mov (.c (.int .i64 0))), none⟩]) (.blk 0 (.loop (.seq (.seq (.reg [⟨(some 12), (.mov (.t 5)), none⟩, ⟨(some 13), (.mov (.t 0)), none⟩, ⟨(some 14), (.lenl (.t 13)), none⟩, ⟨(some 15), (.bin .lss (.t 12) (.t 14)), none⟩]) (.cond (.t 15) .skip (.exit 0))) (.seq (.blk 1 (.seq (.reg [⟨(some 18), (.mov (.t 0)), none⟩, ⟨(some 19), (.mov (.t 5)), none⟩, ⟨(some 20), (.iadr 2 (.t 18) (.t 19)), none⟩, ⟨(some 21), (.load true 2 (.t 20)), none⟩, ⟨(some 22), (.mov (.t 1)), none⟩, ⟨(some 23), (.call (.c (.fn 204 [])) [(.t 21), (.t 22)]), none⟩, ⟨(some 1), (.mov (.t 23)), none⟩]) (.seq (.reg [⟨(some 24), (.mov (.t 1)), none⟩, ⟨(some 25), (.bin .lss (.t 24) (.c (.int .i64 0))), none⟩]) (.cond (.t 25) (.seq (.reg [⟨(some 4), (.mov (.c (.int .i64 (-1)))), none⟩]) .ret) .skip)))) (.reg [⟨(some 16), (.mov (.t 5)), none⟩, ⟨(some 17), (.bin .add (.t 16) (.c (.int .i64 1))), none⟩, ⟨(some 5), (.mov (.t 17)), none⟩])))))) (.seq (.reg [⟨(some 26), (.mov (.t 1)), none⟩, ⟨(some 4), (.mov (.t 26)), none⟩]) .ret)))))⟩
theorem fit_laws_szUseS : Fit Tryz.prog 117 Tryz.f117 mf_laws_szUseS := ⟨by kernel_rfl, Tryz.func117, by kernel_rfl, by kernel_rfl, by kernel_rfl, by kernel_rfl⟩
theorem szUseS_ct (l : Sl Use) (left : Nat) (hl : left ≤ 1000000) : Ct Tryz.prog 117 [l.I Use.C, .int .i64 left] (.int .i64 (szR left (l.es.length + wUses (l.es)))) := by
  refine ct_of_run fit_laws_szUseS (by simp [mf_laws_szUseS]) (by simp [go_sem]) fun hd => ?_
  simp -implicitDefEqProofs [-List.map_take, -List.map_drop, go_sem, mf_laws_szUseS]
  have hm : l.es.length ≤ maxLen := sl_deep hd.1
  have hm' := hm
  simp only [maxLen] at hm'
  have hw1 : IntKind.i64.wrap ((left : Int) - (l.es.length : Int)) = (left : Int) - (l.es.length : Int) := wrap_small (by omega) (by omega)
  simp -implicitDefEqProofs [-List.map_take, -List.map_drop, go_sem, hw1]
  refine cnd_split (fun h => ?_) (fun h => ?_)
  · have hp : left < l.es.length + wUses (l.es) := by simp at h; omega
    simp -implicitDefEqProofs [-List.map_take, -List.map_drop, go_sem, h]
    repeat' first
      | ((first | refine gv_split (fun h => ?_) (fun h => ?_) | refine cnd_split (fun h => ?_) (fun h => ?_) | refine cgv_split (fun h => ?_) (fun h => ?_)) <;> (try (have hp := h; simp at hp)) <;> simp -implicitDefEqProofs [-List.map_take, -List.map_drop, go_sem, h])
      | (refine And.intro (by first | omega | (simp only [maxLen]; omega) | (simp_all; done) | (simp_all; omega)) ?_; try simp -implicitDefEqProofs [-List.map_take, -List.map_drop, go_sem])
      | (refine run_dreg' (by decide) ?_; simp -implicitDefEqProofs [-List.map_take, -List.map_drop, go_sem])
      | ((first | refine end_tup _ (by simp) (by simp [go_sem]; rfl) (by simp [go_sem]) ?_); first | (simp [go_sem, *, szR_neg hp]; done) | grind [szR_neg hp] | (simp [go_sem, szR_neg hp]; grind [szR_neg hp]) | (simp_all [go_sem, szR_neg hp]; done) | (simp_all [go_sem, szR_neg hp]; omega))
  · have hq : l.es.length ≤ left := by simp at h; omega
    have hw2 : (left : Int) - (l.es.length : Int) = ((left - l.es.length : Nat) : Int) := by omega
    simp -implicitDefEqProofs [-List.map_take, -List.map_drop, go_sem, h, hw2]
    rw [← szR_add (show ¬ left < l.es.length by omega)]
    refine run_iter (l.es.length) (szUseS_L l) (fun i a => szR a (wUses ((l.es.drop i))) = szR (left - l.es.length) (wUses (l.es)) ∧ a ≤ 1000000) (left - l.es.length) (gh_auto (by simp [go_sem, szUseS_L])) (by first | (simp; done) | (simp []; done) | (simp []; omega) | grind) ?_
    intro i a hi hj
    simp -implicitDefEqProofs [-List.map_take, -List.map_drop, go_sem, szUseS_L]
    refine cnd_split (fun hc => ?_) (fun hc => ?_)
    · have hlt : i < l.es.length := by first | (simpa using hc) | (simp at hc; omega)
      rw [List.drop_eq_getElem_cons hlt] at hj
      simp only [List.map_cons, wUses] at hj
      simp -implicitDefEqProofs [-List.map_take, -List.map_drop, go_sem, hlt]
      by_cases hb : a < wUse l.es[i]
      · have hsz : szR a (wUse l.es[i]) = -1 := szR_neg hb
        rw [szR_add_neg hb] at hj
        repeat' first
          | ((first | refine gv_split (fun h => ?_) (fun h => ?_) | refine cnd_split (fun h => ?_) (fun h => ?_) | refine cgv_split (fun h => ?_) (fun h => ?_)) <;> (try (have hp := h; simp at hp)) <;> simp -implicitDefEqProofs [-List.map_take, -List.map_drop, go_sem, h, hlt, hsz])
          | (refine And.intro (by first | omega | (simp only [maxLen]; omega) | (simp_all; done) | (simp_all; omega)) ?_; try simp -implicitDefEqProofs [-List.map_take, -List.map_drop, go_sem, hlt, hsz])
          | ((first | refine stp_ct (szUse_ct l.es[i] a hj.2) (by simp [go_sem, hlt, hsz]) ?_ ?_ | refine cstp_ct (szUse_ct l.es[i] a hj.2) (by simp [go_sem, hlt, hsz]) ?_ ?_); (simp [go_sem]); simp -implicitDefEqProofs [-List.map_take, -List.map_drop, go_sem, hlt, hsz])
          | (refine run_dreg' (by decide) ?_; simp -implicitDefEqProofs [-List.map_take, -List.map_drop, go_sem, hlt, hsz])
          | ((first | refine end_tup _ (by simp) (by simp [go_sem]; rfl) (by simp [go_sem]) ?_); first | (simp [go_sem, *]; done) | grind | (simp [go_sem]; grind) | (simp_all [go_sem]; done) | (simp_all [go_sem]; omega))
      · have hsz : szR a (wUse l.es[i]) = ((a - wUse l.es[i] : Nat) : Int) := szR_pos hb
        rw [← szR_add hb] at hj
        obtain ⟨hj1, hj2⟩ := id hj
        repeat' first
          | ((first | refine gv_split (fun h => ?_) (fun h => ?_) | refine cnd_split (fun h => ?_) (fun h => ?_) | refine cgv_split (fun h => ?_) (fun h => ?_)) <;> (try (have hp := h; simp at hp)) <;> simp -implicitDefEqProofs [-List.map_take, -List.map_drop, go_sem, h, hlt, hsz])
          | (refine And.intro (by first | omega | (simp only [maxLen]; omega) | (simp_all; done) | (simp_all; omega)) ?_; try simp -implicitDefEqProofs [-List.map_take, -List.map_drop, go_sem, hlt, hsz])
          | ((first | refine stp_ct (szUse_ct l.es[i] a hj.2) (by simp [go_sem, hlt, hsz]) ?_ ?_ | refine cstp_ct (szUse_ct l.es[i] a hj.2) (by simp [go_sem, hlt, hsz]) ?_ ?_); (simp [go_sem]); simp -implicitDefEqProofs [-List.map_take, -List.map_drop, go_sem, hlt, hsz])
          | (refine run_dreg' (by decide) ?_; simp -implicitDefEqProofs [-List.map_take, -List.map_drop, go_sem, hlt, hsz])
          | ((first | refine kx_next (a - wUse l.es[i]) hlt (gh_auto (by simp [go_sem, szUseS_L, wrap_succ hlt hm, hlt, hsz])) ?_ | refine end_tup _ (by simp) (by simp [go_sem]; rfl) (by simp [go_sem]) ?_); first | (simp [go_sem, *]; done) | grind | (simp [go_sem]; grind) | (simp_all [go_sem]; done) | (simp_all [go_sem]; omega))
    · have hge : l.es.length ≤ i := by first | (simpa using hc) | (simp at hc; omega)
      rw [List.drop_of_length_le hge] at hj
      simp only [List.map_nil, wUses] at hj
      have hj3 : szR a 0 = a := by rw [szR_pos (by omega)]; simp
      try simp -implicitDefEqProofs [-List.map_take, -List.map_drop, go_sem]
      repeat' first
        | ((first | refine gv_split (fun h => ?_) (fun h => ?_) | refine cnd_split (fun h => ?_) (fun h => ?_) | refine cgv_split (fun h => ?_) (fun h => ?_)) <;> (try (have hp := h; simp at hp)) <;> simp -implicitDefEqProofs [-List.map_take, -List.map_drop, go_sem, h])
        | (refine And.intro (by first | omega | (simp only [maxLen]; omega) | (simp_all; done) | (simp_all; omega)) ?_; try simp -implicitDefEqProofs [-List.map_take, -List.map_drop, go_sem])
        | (refine run_dreg' (by decide) ?_; simp -implicitDefEqProofs [-List.map_take, -List.map_drop, go_sem])
        | ((first | refine end_tup _ (by simp) (by simp [go_sem]; rfl) (by simp [go_sem]) ?_); first | (simp [go_sem, *]; done) | grind | (simp [go_sem]; grind) | (simp_all [go_sem]; done) | (simp_all [go_sem]; omega))
def mf_laws_szBind : MF := ⟨20, [(.t 4)], (.seq (.reg [⟨(some 2), (.box 238 (.t 0)), none⟩, ⟨(some 4), (.mov (.c (.int .i64 0))), none⟩]) (.seq (.reg [⟨(some 5), (.mov (.t 1)), none⟩, ⟨(some 6), (.fadr 0 (.t 2)), none⟩, ⟨(some 7), (.load false 1 (.t 6)), none⟩, ⟨(some 8), (.lens (.t 7)), none⟩, ⟨(some 9), (.bin .sub (.t 5) (.t 8)), none⟩, ⟨(some 1), (.mov (.t 9)), none⟩]) (.seq (.seq (.reg [⟨(some 10), (.mov (.t 1)), none⟩, ⟨(some 11), (.bin .lss (.t 10) (.c (.int .i64 0))), none⟩]) (.cond (.t 11) (.seq (.reg [⟨(some 4), (.mov (.c (.int .i64 (-1)))), none⟩]) .ret) .skip)) (.seq (.reg [⟨(some 12), (.mov (.t 1)), none⟩, ⟨(some 13), (.fadr 1 (.t 2)), none⟩, ⟨(some 14), (.load false 1 (.t 13)), none⟩, ⟨(some 15), (.lens (.t 14)), none⟩, ⟨(some 16), (.bin .sub (.t 12) (.t 15)), none⟩, ⟨(some 1), (.mov (.t 16)), none⟩]) (.seq (.seq (.reg [⟨(some 17), (.mov (.t 1)), none⟩, ⟨(some 18), (.bin .lss (.t 17) (.c (.int .i64 0))), none⟩]) (.cond (.t 18) (.seq (.reg [⟨(some 4), (.mov (.c (.int .i64 (-1)))), none⟩]) .ret) .skip)) (.seq (.reg [⟨(some 19), (.mov (.t 1)), none⟩, ⟨(some 4), (.mov (.t 19)), none⟩]) .ret))))))⟩
theorem fit_laws_szBind : Fit Tryz.prog 292 Tryz.f292 mf_laws_szBind := ⟨by kernel_rfl, Tryz.func292, by kernel_rfl, by kernel_rfl, by kernel_rfl, by kernel_rfl⟩
theorem szBind_ct (u : Bind) (left : Nat) (hl : left ≤ 1000000) : Ct Tryz.prog 292 [.agg u.C, .int .i64 left] (.int .i64 (szR left (wBind u))) := by
  refine ct_of_run fit_laws_szBind (by simp [mf_laws_szBind]) (by simp [go_sem]) fun hd => ?_
  simp -implicitDefEqProofs [-List.map_take, -List.map_drop, go_sem, mf_laws_szBind]
  have hd1 : u.name.length ≤ maxLen ∧ u.type.length ≤ maxLen := by have := hd.1; simp [Bind.C, deepL, deepV] at this; exact this
  simp only [maxLen] at hd1
  have hw1 : IntKind.i64.wrap ((left : Int) - (u.name.length : Int)) = (left : Int) - (u.name.length : Int) := wrap_small (by omega) (by omega)
  simp -implicitDefEqProofs [-List.map_take, -List.map_drop, go_sem, hw1]
  refine cnd_split (fun h => ?_) (fun h => ?_)
  · have hp : left < wBind u := by simp at h; simp only [wBind]; omega
    simp -implicitDefEqProofs [-List.map_take, -List.map_drop, go_sem, h]
    repeat' first
      | ((first | refine gv_split (fun h => ?_) (fun h => ?_) | refine cnd_split (fun h => ?_) (fun h => ?_) | refine cgv_split (fun h => ?_) (fun h => ?_)) <;> (try (have hp := h; simp at hp)) <;> simp -implicitDefEqProofs [-List.map_take, -List.map_drop, go_sem, h])
      | (refine And.intro (by first | omega | (simp only [maxLen]; omega) | (simp_all; done) | (simp_all; omega)) ?_; try simp -implicitDefEqProofs [-List.map_take, -List.map_drop, go_sem])
      | (refine run_dreg' (by decide) ?_; simp -implicitDefEqProofs [-List.map_take, -List.map_drop, go_sem])
      | ((first | refine end_tup _ (by simp) (by simp [go_sem]; rfl) (by simp [go_sem]) ?_); first | (simp [go_sem, *, szR_neg hp]; done) | grind [szR_neg hp] | (simp [go_sem, szR_neg hp]; grind [szR_neg hp]) | (simp_all [go_sem, szR_neg hp]; done) | (simp_all [go_sem, szR_neg hp]; omega))
  · have hq : (u.name.length : Int) ≤ left := by simp at h; omega
    have hw2 : IntKind.i64.wrap ((left : Int) - (u.name.length : Int) - (u.type.length : Int)) = (left : Int) - (u.name.length : Int) - (u.type.length : Int) := wrap_small (by omega) (by omega)
    simp -implicitDefEqProofs [-List.map_take, -List.map_drop, go_sem, h, hw1, hw2]
    refine cnd_split (fun h2 => ?_) (fun h2 => ?_)
    · have hp : left < wBind u := by simp at h2; simp only [wBind]; omega
      simp -implicitDefEqProofs [-List.map_take, -List.map_drop, go_sem, h2]
      repeat' first
        | ((first | refine gv_split (fun h => ?_) (fun h => ?_) | refine cnd_split (fun h => ?_) (fun h => ?_) | refine cgv_split (fun h => ?_) (fun h => ?_)) <;> (try (have hp := h; simp at hp)) <;> simp -implicitDefEqProofs [-List.map_take, -List.map_drop, go_sem, h])
        | (refine And.intro (by first | omega | (simp only [maxLen]; omega) | (simp_all; done) | (simp_all; omega)) ?_; try simp -implicitDefEqProofs [-List.map_take, -List.map_drop, go_sem])
        | (refine run_dreg' (by decide) ?_; simp -implicitDefEqProofs [-List.map_take, -List.map_drop, go_sem])
        | ((first | refine end_tup _ (by simp) (by simp [go_sem]; rfl) (by simp [go_sem]) ?_); first | (simp [go_sem, *, szR_neg hp]; done) | grind [szR_neg hp] | (simp [go_sem, szR_neg hp]; grind [szR_neg hp]) | (simp_all [go_sem, szR_neg hp]; done) | (simp_all [go_sem, szR_neg hp]; omega))
    · have hp : ¬ left < wBind u := by simp at h2; simp only [wBind]; omega
      have hp2 : ((left - wBind u : Nat) : Int) = (left : Int) - (u.name.length : Int) - (u.type.length : Int) := by simp at h2; simp only [wBind] at hp ⊢; omega
      simp -implicitDefEqProofs [-List.map_take, -List.map_drop, go_sem, h2]
      repeat' first
        | ((first | refine gv_split (fun h => ?_) (fun h => ?_) | refine cnd_split (fun h => ?_) (fun h => ?_) | refine cgv_split (fun h => ?_) (fun h => ?_)) <;> (try (have hp := h; simp at hp)) <;> simp -implicitDefEqProofs [-List.map_take, -List.map_drop, go_sem, h])
        | (refine And.intro (by first | omega | (simp only [maxLen]; omega) | (simp_all; done) | (simp_all; omega)) ?_; try simp -implicitDefEqProofs [-List.map_take, -List.map_drop, go_sem])
        | (refine run_dreg' (by decide) ?_; simp -implicitDefEqProofs [-List.map_take, -List.map_drop, go_sem])
        | ((first | refine end_tup _ (by simp) (by simp [go_sem]; rfl) (by simp [go_sem]) ?_); first | (simp [go_sem, *, szR_pos hp, hp2]; done) | grind [szR_pos hp, hp2] | (simp [go_sem, szR_pos hp, hp2]; grind [szR_pos hp, hp2]) | (simp_all [go_sem, szR_pos hp, hp2]; done) | (simp_all [go_sem, szR_pos hp, hp2]; omega))
def szBindS_L (l : Sl Bind) (i : Nat) (a : Nat) : St := ⟨lk [(0, l.I Bind.C), (1, .int .i64 a), (5, .int .i64 i)], [], []⟩
def mf_laws_szBindS : MF := ⟨27, [(.t 4)], (.seq (.reg [⟨(some 4), (.mov (.c (.int .i64 0))), none⟩]) (.seq (.reg [⟨(some 6), (.mov (.t 1)), none⟩, ⟨(some 7), (.mov (.t 0)), none⟩, ⟨(some 8), (.lenl (.t 7)), none⟩, ⟨(some 9), (.bin .sub (.t 6) (.t 8)), none⟩, ⟨(some 1), (.mov (.t 9)), none⟩]) (.seq (.seq (.reg [⟨(some 10), (.mov (.t 1)), none⟩, ⟨(some 11), (.bin .lss (.t 10) (.c (.int .i64 0))), none⟩]) (.cond (.t 11) (.seq (.reg [⟨(some 4), (.mov (.c (.int .i64 (-1)))), none⟩]) .ret) .skip)) (.seq (.seq (.reg [⟨(some 5), (.mov (.c (.int .i64 0))), none⟩]) (.blk 0 (.loop (.seq (.seq (.reg [⟨(some 12), (.mov (.t 5)), none⟩, ⟨(some 13), (.mov (.t 0)), none⟩, ⟨(some 14), (.lenl (.t 13)), none⟩, ⟨(some 15), (.bin .lss (.t 12) (.t 14)), none⟩]) (.cond (.t 15) .skip (.exit 0))) (.seq (.blk 1 (.seq (.reg [⟨(some 18), (.mov (.t 0)), none⟩, ⟨(some 19), (.mov (.t 5)), none⟩, ⟨(some 20), (.iadr 2 (.t 18) (.t 19)), none⟩, ⟨(some 21), (.load true 2 (.t 20)), none⟩, ⟨(some 22), (.mov (.t 1)), none⟩, ⟨(some 23), (.call (.c (.fn 292 [])) [(.t 21), (.t 22)]), none⟩, ⟨(some 1), (.mov (.t 23)), none⟩]) (.seq (.reg [⟨(some 24), (.mov (.t 1)), none⟩, ⟨(some 25), (.bin .lss (.t 24) (.c (.int .i64 0))), none⟩]) (.cond (.t 25) (.seq (.reg [⟨(some 4), (.mov (.c (.int .i64 (-1)))), none⟩]) .ret) .skip)))) (.reg [⟨(some 16), (.mov (.t 5)), none⟩, ⟨(some 17), (.bin .add (.t 16) (.c (.int .i64 1))), none⟩, ⟨(some 5), (.mov (.t 17)), none⟩])))))) (.seq (.reg [⟨(some 26), (.mov (.t 1)), none⟩, ⟨(some 4), (.mov (.t 26)), none⟩]) .ret)))))⟩
theorem fit_laws_szBindS : Fit Tryz.prog 256 Tryz.f256 mf_laws_szBindS := ⟨by kernel_rfl, Tryz.func256, by kernel_rfl, by kernel_rfl, by kernel_rfl, by kernel_rfl⟩
theorem szBindS_ct (l : Sl Bind) (left : Nat) (hl : left ≤ 1000000) : Ct Tryz.prog 256 [l.I Bind.C, .int .i64 left] (.int .i64 (szR left (l.es.length + wBinds (l.es)))) := by
  refine ct_of_run fit_laws_szBindS (by simp [mf_laws_szBindS]) (by simp [go_sem]) fun hd => ?_
  simp -implicitDefEqProofs [-List.map_take, -List.map_drop, go_sem, mf_laws_szBindS]
  have hm : l.es.length ≤ maxLen := sl_deep hd.1
  have hm' := hm
  simp only [maxLen] at hm'
  have hw1 : IntKind.i64.wrap ((left : Int) - (l.es.length : Int)) = (left : Int) - (l.es.length : Int) := wrap_small (by omega) (by omega)
  simp -implicitDefEqProofs [-List.map_take, -List.map_drop, go_sem, hw1]
  refine cnd_split (fun h => ?_) (fun h => ?_)
  · have hp : left < l.es.length + wBinds (l.es) := by simp at h; omega
    simp -implicitDefEqProofs [-List.map_take, -List.map_drop, go_sem, h]
    repeat' first
      | ((first | refine gv_split (fun h => ?_) (fun h => ?_) | refine cnd_split (fun h => ?_) (fun h => ?_) | refine cgv_split (fun h => ?_) (fun h => ?_)) <;> (try (have hp := h; simp at hp)) <;> simp -implicitDefEqProofs [-List.map_take, -List.map_drop, go_sem, h])
      | (refine And.intro (by first | omega | (simp only [maxLen]; omega) | (simp_all; done) | (simp_all; omega)) ?_; try simp -implicitDefEqProofs [-List.map_take, -List.map_drop, go_sem])
      | (refine run_dreg' (by decide) ?_; simp -implicitDefEqProofs [-List.map_take, -List.map_drop, go_sem])
      | ((first | refine end_tup _ (by simp) (by simp [go_sem]; rfl) (by simp [go_sem]) ?_); first | (simp [go_sem, *, szR_neg hp]; done) | grind [szR_neg hp] | (simp [go_sem, szR_neg hp]; grind [szR_neg hp]) | (simp_all [go_sem, szR_neg hp]; done) | (simp_all [go_sem, szR_neg hp]; omega))
  · have hq : l.es.length ≤ left := by simp at h; omega
    have hw2 : (left : Int) - (l.es.length : Int) = ((left - l.es.length : Nat) : Int) := by omega
    simp -implicitDefEqProofs [-List.map_take, -List.map_drop, go_sem, h, hw2]
    rw [← szR_add (show ¬ left < l.es.length by omega)]
    refine run_iter (l.es.length) (szBindS_L l) (fun i a => szR a (wBinds ((l.es.drop i))) = szR (left - l.es.length) (wBinds (l.es)) ∧ a ≤ 1000000) (left - l.es.length) (gh_auto (by simp [go_sem, szBindS_L])) (by first | (simp; done) | (simp []; done) | (simp []; omega) | grind) ?_
    intro i a hi hj
    simp -implicitDefEqProofs [-List.map_take, -List.map_drop, go_sem, szBindS_L]
    refine cnd_split (fun hc => ?_) (fun hc => ?_)
    · have hlt : i < l.es.length := by first | (simpa using hc) | (simp at hc; omega)
      rw [List.drop_eq_getElem_cons hlt] at hj
      simp only [List.map_cons, wBinds] at hj
      simp -implicitDefEqProofs [-List.map_take, -List.map_drop, go_sem, hlt]
      by_cases hb : a < wBind l.es[i]
      · have hsz : szR a (wBind l.es[i]) = -1 := szR_neg hb
        rw [szR_add_neg hb] at hj
        repeat' first
          | ((first | refine gv_split (fun h => ?_) (fun h => ?_) | refine cnd_split (fun h => ?_) (fun h => ?_) | refine cgv_split (fun h => ?_) (fun h => ?_)) <;> (try (have hp := h; simp at hp)) <;> simp -implicitDefEqProofs [-List.map_take, -List.map_drop, go_sem, h, hlt, hsz])
          | (refine And.intro (by first | omega | (simp only [maxLen]; omega) | (simp_all; done) | (simp_all; omega)) ?_; try simp -implicitDefEqProofs [-List.map_take, -List.map_drop, go_sem, hlt, hsz])
          | ((first | refine stp_ct (szBind_ct l.es[i] a hj.2) (by simp [go_sem, hlt, hsz]) ?_ ?_ | refine cstp_ct (szBind_ct l.es[i] a hj.2) (by simp [go_sem, hlt, hsz]) ?_ ?_); (simp [go_sem]); simp -implicitDefEqProofs [-List.map_take, -List.map_drop, go_sem, hlt, hsz])
          | (refine run_dreg' (by decide) ?_; simp -implicitDefEqProofs [-List.map_take, -List.map_drop, go_sem, hlt, hsz])
          | ((first | refine end_tup _ (by simp) (by simp [go_sem]; rfl) (by simp [go_sem]) ?_); first | (simp [go_sem, *]; done) | grind | (simp [go_sem]; grind) | (simp_all [go_sem]; done) | (simp_all [go_sem]; omega))
      · have hsz : szR a (wBind l.es[i]) = ((a - wBind l.es[i] : Nat) : Int) := szR_pos hb
        rw [← szR_add hb] at hj
        obtain ⟨hj1, hj2⟩ := id hj
        repeat' first
          | ((first | refine gv_split (fun h => ?_) (fun h => ?_) | refine cnd_split (fun h => ?_) (fun h => ?_) | refine cgv_split (fun h => ?_) (fun h => ?_)) <;> (try (have hp := h; simp at hp)) <;> simp -implicitDefEqProofs [-List.map_take, -List.map_drop, go_sem, h, hlt, hsz])
          | (refine And.intro (by first | omega | (simp only [maxLen]; omega) | (simp_all; done) | (simp_all; omega)) ?_; try simp -implicitDefEqProofs [-List.map_take, -List.map_drop, go_sem, hlt, hsz])
          | ((first | refine stp_ct (szBind_ct l.es[i] a hj.2) (by simp [go_sem, hlt, hsz]) ?_ ?_ | refine cstp_ct (szBind_ct l.es[i] a hj.2) (by simp [go_sem, hlt, hsz]) ?_ ?_); (simp [go_sem]); simp -implicitDefEqProofs [-List.map_take, -List.map_drop, go_sem, hlt, hsz])
          | (refine run_dreg' (by decide) ?_; simp -implicitDefEqProofs [-List.map_take, -List.map_drop, go_sem, hlt, hsz])
          | ((first | refine kx_next (a - wBind l.es[i]) hlt (gh_auto (by simp [go_sem, szBindS_L, wrap_succ hlt hm, hlt, hsz])) ?_ | refine end_tup _ (by simp) (by simp [go_sem]; rfl) (by simp [go_sem]) ?_); first | (simp [go_sem, *]; done) | grind | (simp [go_sem]; grind) | (simp_all [go_sem]; done) | (simp_all [go_sem]; omega))
    · have hge : l.es.length ≤ i := by first | (simpa using hc) | (simp at hc; omega)
      rw [List.drop_of_length_le hge] at hj
      simp only [List.map_nil, wBinds] at hj
      have hj3 : szR a 0 = a := by rw [szR_pos (by omega)]; simp
      try simp -implicitDefEqProofs [-List.map_take, -List.map_drop, go_sem]
      repeat' first
        | ((first | refine gv_split (fun h => ?_) (fun h => ?_) | refine cnd_split (fun h => ?_) (fun h => ?_) | refine cgv_split (fun h => ?_) (fun h => ?_)) <;> (try (have hp := h; simp at hp)) <;> simp -implicitDefEqProofs [-List.map_take, -List.map_drop, go_sem, h])
        | (refine And.intro (by first | omega | (simp only [maxLen]; omega) | (simp_all; done) | (simp_all; omega)) ?_; try simp -implicitDefEqProofs [-List.map_take, -List.map_drop, go_sem])
        | (refine run_dreg' (by decide) ?_; simp -implicitDefEqProofs [-List.map_take, -List.map_drop, go_sem])
        | ((first | refine end_tup _ (by simp) (by simp [go_sem]; rfl) (by simp [go_sem]) ?_); first | (simp [go_sem, *]; done) | grind | (simp [go_sem]; grind) | (simp_all [go_sem]; done) | (simp_all [go_sem]; omega))
def szExprS_L (l : Sl LExpr) (i : Nat) (a : Nat) : St := ⟨lk [(0, l.I LExpr.C), (1, .int .i64 a), (5, .int .i64 i)], [], []⟩
def mf_laws_szExprS : MF := ⟨27, [(.t 4)], (.seq (.reg [⟨(some 4), (.mov (.c (.int .i64 0))), none⟩]) (.seq (.reg [⟨(some 6), (.mov (.t 1)), none⟩, ⟨(some 7), (.mov (.t 0)), none⟩, ⟨(some 8), (.lenl (.t 7)), none⟩, ⟨(some 9), (.bin .sub (.t 6) (.t 8)), none⟩, ⟨(some 1), (.mov (.t 9)), none⟩]) (.seq (.seq (.reg [⟨(some 10), (.mov (.t 1)), none⟩, ⟨(some 11), (.bin .lss (.t 10) (.c (.int .i64 0))), none⟩]) (.cond (.t 11) (.seq (.reg [⟨(some 4), (.mov (.c (.int .i64 (-1)))), none⟩]) .ret) .skip)) (.seq (.seq (.reg [⟨(some 5), (.mov (.c (.int .i64 0))), none⟩]) (.blk 0 (.loop (.seq (.seq (.reg [⟨(some 12), (.mov (.t 5)), none⟩, ⟨(some 13), (.mov (.t 0)), none⟩, ⟨(some 14), (.lenl (.t 13)), none⟩, ⟨(some 15), (.bin .lss (.t 12) (.t 14)), none⟩]) (.cond (.t 15) .skip (.exit 0))) (.seq (.blk 1 (.seq (.reg [⟨(some 18), (.mov (.t 0)), none⟩, ⟨(some 19), (.mov (.t 5)), none⟩, ⟨(some 20), (.iadr 4 (.t 18) (.t 19)), none⟩, ⟨(some 21), (.load true 4 (.t 20)), none⟩, ⟨(some 22), (.mov (.t 1)), none⟩, ⟨(some 23), (.call (.c (.fn 257 [])) [(.t 21), (.t 22)]), none⟩, ⟨(some 1), (.mov (.t 23)), none⟩]) (.seq (.reg [⟨(some 24), (.mov (.t 1)), none⟩, ⟨(some 25), (.bin .lss (.t 24) (.c (.int .i64 0))), none⟩]) (.cond (.t 25) (.seq (.reg [⟨(some 4), (.mov (.c (.int .i64 (-1)))), none⟩]) .ret) .skip)))) (.reg [⟨(some 16), (.mov (.t 5)), none⟩, ⟨(some 17), (.bin .add (.t 16) (.c (.int .i64 1))), none⟩, ⟨(some 5), (.mov (.t 17)), none⟩])))))) (.seq (.reg [⟨(some 26), (.mov (.t 1)), none⟩, ⟨(some 4), (.mov (.t 26)), none⟩]) .ret)))))⟩
theorem fit_laws_szExprS : Fit Tryz.prog 293 Tryz.f293 mf_laws_szExprS := ⟨by kernel_rfl, Tryz.func293, by kernel_rfl, by kernel_rfl, by kernel_rfl, by kernel_rfl⟩
theorem szExprS_ct (l : Sl LExpr) (left : Nat) (hl : left ≤ 1000000) (hg : ∀ a, a ∈ l.es → ∀ left : Nat, left ≤ 1000000 → Ct Tryz.prog 257 [.agg a.C, .int .i64 left] (.int .i64 (szR left (wExpr a.core)))) : Ct Tryz.prog 293 [l.I LExpr.C, .int .i64 left] (.int .i64 (szR left (l.es.length + wExprs (l.es.map LExpr.core)))) := by
  refine ct_of_run fit_laws_szExprS (by simp [mf_laws_szExprS]) (by simp [go_sem]) fun hd => ?_
  simp -implicitDefEqProofs [-List.map_take, -List.map_drop, go_sem, mf_laws_szExprS]
  have hm : l.es.length ≤ maxLen := sl_deep hd.1
  have hm' := hm
  simp only [maxLen] at hm'
  have hw1 : IntKind.i64.wrap ((left : Int) - (l.es.length : Int)) = (left : Int) - (l.es.length : Int) := wrap_small (by omega) (by omega)
  simp -implicitDefEqProofs [-List.map_take, -List.map_drop, go_sem, hw1]
  refine cnd_split (fun h => ?_) (fun h => ?_)
  · have hp : left < l.es.length + wExprs (l.es.map LExpr.core) := by simp at h; omega
    simp -implicitDefEqProofs [-List.map_take, -List.map_drop, go_sem, h]
    repeat' first
      | ((first | refine gv_split (fun h => ?_) (fun h => ?_) | refine cnd_split (fun h => ?_) (fun h => ?_) | refine cgv_split (fun h => ?_) (fun h => ?_)) <;> (try (have hp := h; simp at hp)) <;> simp -implicitDefEqProofs [-List.map_take, -List.map_drop, go_sem, h])
      | (refine And.intro (by first | omega | (simp only [maxLen]; omega) | (simp_all; done) | (simp_all; omega)) ?_; try simp -implicitDefEqProofs [-List.map_take, -List.map_drop, go_sem])
      | (refine run_dreg' (by decide) ?_; simp -implicitDefEqProofs [-List.map_take, -List.map_drop, go_sem])
      | ((first | refine end_tup _ (by simp) (by simp [go_sem]; rfl) (by simp [go_sem]) ?_); first | (simp [go_sem, *, szR_neg hp]; done) | grind [szR_neg hp] | (simp [go_sem, szR_neg hp]; grind [szR_neg hp]) | (simp_all [go_sem, szR_neg hp]; done) | (simp_all [go_sem, szR_neg hp]; omega))
  · have hq : l.es.length ≤ left := by simp at h; omega
    have hw2 : (left : Int) - (l.es.length : Int) = ((left - l.es.length : Nat) : Int) := by omega
    simp -implicitDefEqProofs [-List.map_take, -List.map_drop, go_sem, h, hw2]
    rw [← szR_add (show ¬ left < l.es.length by omega)]
    refine run_iter (l.es.length) (szExprS_L l) (fun i a => szR a (wExprs ((l.es.drop i).map LExpr.core)) = szR (left - l.es.length) (wExprs (l.es.map LExpr.core)) ∧ a ≤ 1000000) (left - l.es.length) (gh_auto (by simp [go_sem, szExprS_L])) (by first | (simp; done) | (simp []; done) | (simp []; omega) | grind) ?_
    intro i a hi hj
    simp -implicitDefEqProofs [-List.map_take, -List.map_drop, go_sem, szExprS_L]
    refine cnd_split (fun hc => ?_) (fun hc => ?_)
    · have hlt : i < l.es.length := by first | (simpa using hc) | (simp at hc; omega)
      rw [List.drop_eq_getElem_cons hlt] at hj
      simp only [List.map_cons, wExprs] at hj
      simp -implicitDefEqProofs [-List.map_take, -List.map_drop, go_sem, hlt]
      by_cases hb : a < wExpr l.es[i].core
      · have hsz : szR a (wExpr l.es[i].core) = -1 := szR_neg hb
        rw [szR_add_neg hb] at hj
        repeat' first
          | ((first | refine gv_split (fun h => ?_) (fun h => ?_) | refine cnd_split (fun h => ?_) (fun h => ?_) | refine cgv_split (fun h => ?_) (fun h => ?_)) <;> (try (have hp := h; simp at hp)) <;> simp -implicitDefEqProofs [-List.map_take, -List.map_drop, go_sem, h, hlt, hsz])
          | (refine And.intro (by first | omega | (simp only [maxLen]; omega) | (simp_all; done) | (simp_all; omega)) ?_; try simp -implicitDefEqProofs [-List.map_take, -List.map_drop, go_sem, hlt, hsz])
          | ((first | refine stp_ct (hg l.es[i] (List.getElem_mem hlt) a hj.2) (by simp [go_sem, hlt, hsz]) ?_ ?_ | refine cstp_ct (hg l.es[i] (List.getElem_mem hlt) a hj.2) (by simp [go_sem, hlt, hsz]) ?_ ?_); (simp [go_sem]); simp -implicitDefEqProofs [-List.map_take, -List.map_drop, go_sem, hlt, hsz])
          | (refine run_dreg' (by decide) ?_; simp -implicitDefEqProofs [-List.map_take, -List.map_drop, go_sem, hlt, hsz])
          | ((first | refine end_tup _ (by simp) (by simp [go_sem]; rfl) (by simp [go_sem]) ?_); first | (simp [go_sem, *]; done) | grind | (simp [go_sem]; grind) | (simp_all [go_sem]; done) | (simp_all [go_sem]; omega))
      · have hsz : szR a (wExpr l.es[i].core) = ((a - wExpr l.es[i].core : Nat) : Int) := szR_pos hb
        rw [← szR_add hb] at hj
        obtain ⟨hj1, hj2⟩ := id hj
        repeat' first
          | ((first | refine gv_split (fun h => ?_) (fun h => ?_) | refine cnd_split (fun h => ?_) (fun h => ?_) | refine cgv_split (fun h => ?_) (fun h => ?_)) <;> (try (have hp := h; simp at hp)) <;> simp -implicitDefEqProofs [-List.map_take, -List.map_drop, go_sem, h, hlt, hsz])
          | (refine And.intro (by first | omega | (simp only [maxLen]; omega) | (simp_all; done) | (simp_all; omega)) ?_; try simp -implicitDefEqProofs [-List.map_take, -List.map_drop, go_sem, hlt, hsz])
          | ((first | refine stp_ct (hg l.es[i] (List.getElem_mem hlt) a hj.2) (by simp [go_sem, hlt, hsz]) ?_ ?_ | refine cstp_ct (hg l.es[i] (List.getElem_mem hlt) a hj.2) (by simp [go_sem, hlt, hsz]) ?_ ?_); (simp [go_sem]); simp -implicitDefEqProofs [-List.map_take, -List.map_drop, go_sem, hlt, hsz])
          | (refine run_dreg' (by decide) ?_; simp -implicitDefEqProofs [-List.map_take, -List.map_drop, go_sem, hlt, hsz])
          | ((first | refine kx_next (a - wExpr l.es[i].core) hlt (gh_auto (by simp [go_sem, szExprS_L, wrap_succ hlt hm, hlt, hsz])) ?_ | refine end_tup _ (by simp) (by simp [go_sem]; rfl) (by simp [go_sem]) ?_); first | (simp [go_sem, *]; done) | grind | (simp [go_sem]; grind) | (simp_all [go_sem]; done) | (simp_all [go_sem]; omega))
    · have hge : l.es.length ≤ i := by first | (simpa using hc) | (simp at hc; omega)
      rw [List.drop_of_length_le hge] at hj
      simp only [List.map_nil, wExprs] at hj
      have hj3 : szR a 0 = a := by rw [szR_pos (by omega)]; simp
      try simp -implicitDefEqProofs [-List.map_take, -List.map_drop, go_sem]
      repeat' first
        | ((first | refine gv_split (fun h => ?_) (fun h => ?_) | refine cnd_split (fun h => ?_) (fun h => ?_) | refine cgv_split (fun h => ?_) (fun h => ?_)) <;> (try (have hp := h; simp at hp)) <;> simp -implicitDefEqProofs [-List.map_take, -List.map_drop, go_sem, h])
        | (refine And.intro (by first | omega | (simp only [maxLen]; omega) | (simp_all; done) | (simp_all; omega)) ?_; try simp -implicitDefEqProofs [-List.map_take, -List.map_drop, go_sem])
        | (refine run_dreg' (by decide) ?_; simp -implicitDefEqProofs [-List.map_take, -List.map_drop, go_sem])
        | ((first | refine end_tup _ (by simp) (by simp [go_sem]; rfl) (by simp [go_sem]) ?_); first | (simp [go_sem, *]; done) | grind | (simp [go_sem]; grind) | (simp_all [go_sem]; done) | (simp_all [go_sem]; omega))
end Go.Mach
