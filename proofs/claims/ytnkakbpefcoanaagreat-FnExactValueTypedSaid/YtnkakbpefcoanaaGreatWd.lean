import Derived.Test.YtnkakbpefcoanaaGreatMh
import Derived.Test.YtnkakbpefcoanaaGreatWa
import Derived.Test.YtnkakbpefcoanaaGreatDb
/- The laws' weights, walked. -/
set_option maxHeartbeats 4000000
namespace Go.Mach
open Go Go.Proofs
set_option linter.unusedVariables false
set_option linter.unusedSimpArgs false
attribute [local go_sem] Z.k Z.g Z.n Z.m Z.t Z.i Z.b Z.s Z.c Z.r Z.q run_seq run_skip run_reg run_blk run_exit run_ret run_cond cnd_true cnd_false kx_seq_normal kx_seq_exit kx_seq_ret kx_blk_normal kx_blk_same kx_blk_other kx_blk_ret kx_loop_exit kx_loop_ret kx_done ops_nil ops_plain ops_grd gv_tt gv_ff gv_tf gv_ft gv_tup stp_ok stp_ob stp_hp stp_bad stp_if get_t get_c putO_some putO_none put_same put_ne put_σ put_base withσ_τ withσ_σ withσ_base withσ_put withσ_withσ mk_τ mk_σ mk_base mk_withσ entry_τ entry_σ entry_base calm_nil calm_plain calm_grd cgv_tt cgv_ff cgv_tf cgv_ft cgv_tup cstp_ok cstp_ob cstp_if
attribute [local irreducible] Ct Co Cs
attribute [local go_sem] evalOp notV negV pickV binV intB seqV beqV catV lensV lenlV boxV_eq newV cellsOf cellV fadrV fldV fldC loadV loadC_ag loadC_one plainV isOwn iadrV storeV lk bdV bdL renO renL renV pureV pureL noOwnV noOwnL idxV slsV optI extV resL resV ret1 mmV cnviV cnvsV nilcV eqnV bslV bslGo appV elems okE appE getD_map okO_none okO_some strC intC Sl.I
attribute [local simp] Bind.eqa Use.eqa loadC_str loadC_int Bind.C_len Bind.C_pure Bind.C_noOwn Bind.C_cell Bind.C_bd Bind.C_bdL Bind.C_ren Bind.C_any Bind.C_any0 Bind.C_any1 Bind.C_anyt Bind.C_take Bind.C_load Bind.C_load0 Bind.C_load1 Bind.C_fld Bind.C_box Bind.C_fold Use.C_len Use.C_pure Use.C_noOwn Use.C_cell Use.C_bd Use.C_bdL Use.C_ren Use.C_any Use.C_any0 Use.C_any1 Use.C_anyt Use.C_take Use.C_load Use.C_load0 Use.C_load1 Use.C_fld Use.C_box Use.C_fold LExpr.C_len LExpr.C_pure LExpr.C_noOwn LExpr.C_cell LExpr.C_bd LExpr.C_bdL LExpr.C_ren LExpr.C_any LExpr.C_any0 LExpr.C_any1 LExpr.C_anyt LExpr.C_take LExpr.C_load LExpr.C_load0 LExpr.C_load1 LExpr.C_fld LExpr.C_box LExpr.C_fold LDecl.C_len LDecl.C_pure LDecl.C_noOwn LDecl.C_cell LDecl.C_bd LDecl.C_bdL LDecl.C_ren LDecl.C_any LDecl.C_any0 LDecl.C_any1 LDecl.C_anyt LDecl.C_take LDecl.C_load LDecl.C_load0 LDecl.C_load1 LDecl.C_fld LDecl.C_box LDecl.C_fold LModule.C_len LModule.C_pure LModule.C_noOwn LModule.C_cell LModule.C_bd LModule.C_bdL LModule.C_ren LModule.C_any LModule.C_any0 LModule.C_any1 LModule.C_anyt LModule.C_take LModule.C_load LModule.C_load0 LModule.C_load1 LModule.C_fld LModule.C_box LModule.C_fold

theorem str_deep {s : Str} (h : deepV (.str s)) : s.length ≤ maxLen := h
open Z in
def mf_laws_szUse : MF := ⟨20, [(.t 4)], q (r [k 2 (.box 150 (t 0)), k 4 (.mov (i 0))]) (q (r [m 5 1, k 6 (.fadr 0 (t 2)), k 7 (.load false 1 (t 6)), k 8 (.lens (t 7)), k 9 (.bin .sub (t 5) (t 8)), m 1 9]) (q (q (r [m 10 1, k 11 (.bin .lss (t 10) (i 0))]) (.cond (t 11) (q (r [k 4 (.mov (i (-1)))]) .ret) .skip)) (q (r [m 12 1, k 13 (.fadr 1 (t 2)), k 14 (.load false 1 (t 13)), k 15 (.lens (t 14)), k 16 (.bin .sub (t 12) (t 15)), m 1 16]) (q (q (r [m 17 1, k 18 (.bin .lss (t 17) (i 0))]) (.cond (t 18) (q (r [k 4 (.mov (i (-1)))]) .ret) .skip)) (q (r [m 19 1, m 4 19]) .ret)))))⟩
theorem fit_laws_szUse : Fit Tryz.prog 120 Tryz.f120 mf_laws_szUse := ⟨by kernel_rfl, Tryz.func120, by kernel_rfl, by kernel_rfl, by kernel_rfl, by kernel_rfl⟩
theorem szUse_ct (u : Use) (left : Nat) (hl : left ≤ 1000000) : Ct Tryz.prog 120 [.agg u.C, .int .i64 left] (.int .i64 (szR left (wUse u))) := by
  refine ct_of_run fit_laws_szUse (by simp [mf_laws_szUse]) (by simp [go_sem]) fun hd => ?_
  simp -implicitDefEqProofs [-List.map_take, -List.map_drop, go_sem, mf_laws_szUse]
  have hd1 : u.module.length ≤ maxLen ∧ u.name.length ≤ maxLen := by have := hd.1; simp [Use.C, deepL, deepV] at this; exact this
  simp only [maxLen] at hd1
  have hw1 : IntKind.i64.wrap ((left : Int) - (u.module.length : Int)) = (left : Int) - (u.module.length : Int) := wrap_small (by omega) (by omega)
  simp -implicitDefEqProofs [-List.map_take, -List.map_drop, go_sem, hw1]
  refine cnd_split (fun h => ?_) (fun h => ?_)
  · have hp : left < wUse u := by simp at h; simp only [wUse]; omega
    simp -implicitDefEqProofs [-List.map_take, -List.map_drop, go_sem, h]
    repeat' first
      | ((first | refine gv_split (fun h => ?_) (fun h => ?_) | refine cnd_split (fun h => ?_) (fun h => ?_) | refine cgv_split (fun h => ?_) (fun h => ?_)) <;> (try (have hp := h; simp at hp)) <;> simp -implicitDefEqProofs [-List.map_take, -List.map_drop, go_sem, h])
      | (refine And.intro (by first | omega | (simp only [maxLen]; omega) | (simp_all; done) | (simp_all; omega)) ?_; try simp -implicitDefEqProofs [-List.map_take, -List.map_drop, go_sem])
      | (refine run_dreg' (by decide) ?_; simp -implicitDefEqProofs [-List.map_take, -List.map_drop, go_sem])
      | ((first | refine end_tup _ (by simp) (by simp [go_sem]; rfl) (by simp [go_sem]) ?_); first | (simp [go_sem, *, szR_neg hp]; done) | grind [szR_neg hp] | (simp [go_sem, szR_neg hp]; grind [szR_neg hp]) | (simp_all [go_sem, szR_neg hp]; done) | (simp_all [go_sem, szR_neg hp]; omega))
  · have hq : (u.module.length : Int) ≤ left := by simp at h; omega
    have hw2 : IntKind.i64.wrap ((left : Int) - (u.module.length : Int) - (u.name.length : Int)) = (left : Int) - (u.module.length : Int) - (u.name.length : Int) := wrap_small (by omega) (by omega)
    simp -implicitDefEqProofs [-List.map_take, -List.map_drop, go_sem, h, hw1, hw2]
    refine cnd_split (fun h2 => ?_) (fun h2 => ?_)
    · have hp : left < wUse u := by simp at h2; simp only [wUse]; omega
      simp -implicitDefEqProofs [-List.map_take, -List.map_drop, go_sem, h2]
      repeat' first
        | ((first | refine gv_split (fun h => ?_) (fun h => ?_) | refine cnd_split (fun h => ?_) (fun h => ?_) | refine cgv_split (fun h => ?_) (fun h => ?_)) <;> (try (have hp := h; simp at hp)) <;> simp -implicitDefEqProofs [-List.map_take, -List.map_drop, go_sem, h])
        | (refine And.intro (by first | omega | (simp only [maxLen]; omega) | (simp_all; done) | (simp_all; omega)) ?_; try simp -implicitDefEqProofs [-List.map_take, -List.map_drop, go_sem])
        | (refine run_dreg' (by decide) ?_; simp -implicitDefEqProofs [-List.map_take, -List.map_drop, go_sem])
        | ((first | refine end_tup _ (by simp) (by simp [go_sem]; rfl) (by simp [go_sem]) ?_); first | (simp [go_sem, *, szR_neg hp]; done) | grind [szR_neg hp] | (simp [go_sem, szR_neg hp]; grind [szR_neg hp]) | (simp_all [go_sem, szR_neg hp]; done) | (simp_all [go_sem, szR_neg hp]; omega))
    · have hp : ¬ left < wUse u := by simp at h2; simp only [wUse]; omega
      have hp2 : ((left - wUse u : Nat) : Int) = (left : Int) - (u.module.length : Int) - (u.name.length : Int) := by simp at h2; simp only [wUse] at hp ⊢; omega
      simp -implicitDefEqProofs [-List.map_take, -List.map_drop, go_sem, h2]
      repeat' first
        | ((first | refine gv_split (fun h => ?_) (fun h => ?_) | refine cnd_split (fun h => ?_) (fun h => ?_) | refine cgv_split (fun h => ?_) (fun h => ?_)) <;> (try (have hp := h; simp at hp)) <;> simp -implicitDefEqProofs [-List.map_take, -List.map_drop, go_sem, h])
        | (refine And.intro (by first | omega | (simp only [maxLen]; omega) | (simp_all; done) | (simp_all; omega)) ?_; try simp -implicitDefEqProofs [-List.map_take, -List.map_drop, go_sem])
        | (refine run_dreg' (by decide) ?_; simp -implicitDefEqProofs [-List.map_take, -List.map_drop, go_sem])
        | ((first | refine end_tup _ (by simp) (by simp [go_sem]; rfl) (by simp [go_sem]) ?_); first | (simp [go_sem, *, szR_pos hp, hp2]; done) | grind [szR_pos hp, hp2] | (simp [go_sem, szR_pos hp, hp2]; grind [szR_pos hp, hp2]) | (simp_all [go_sem, szR_pos hp, hp2]; done) | (simp_all [go_sem, szR_pos hp, hp2]; omega))
def szUseS_L (l : Sl Use) (i : Nat) (a : Nat) : St := ⟨lk [(0, l.I Use.C), (1, .int .i64 a), (5, .int .i64 i)], [], []⟩
open Z in
def mf_laws_szUseS : MF := ⟨27, [(.t 4)], q (r [k 4 (.mov (i 0))]) (q (r [m 6 1, m 7 0, k 8 (.lenl (t 7)), k 9 (.bin .sub (t 6) (t 8)), m 1 9]) (q (q (r [m 10 1, k 11 (.bin .lss (t 10) (i 0))]) (.cond (t 11) (q (r [k 4 (.mov (i (-1)))]) .ret) .skip)) (q (q (r [k 5 (.mov (i 0))]) (.blk 0 (.loop (q (q (r [m 12 5, m 13 0, k 14 (.lenl (t 13)), k 15 (.bin .lss (t 12) (t 14))]) (.cond (t 15) .skip (.exit 0))) (q (.blk 1 (q (r [m 18 0, m 19 5, k 20 (.iadr 2 (t 18) (t 19)), k 21 (.load true 2 (t 20)), m 22 1, k 23 (c 120 [t 21, t 22]), m 1 23]) (q (r [m 24 1, k 25 (.bin .lss (t 24) (i 0))]) (.cond (t 25) (q (r [k 4 (.mov (i (-1)))]) .ret) .skip)))) (r [m 16 5, k 17 (.bin .add (t 16) (i 1)), m 5 17])))))) (q (r [m 26 1, m 4 26]) .ret))))⟩
theorem fit_laws_szUseS : Fit Tryz.prog 59 Tryz.f59 mf_laws_szUseS := ⟨by kernel_rfl, Tryz.func59, by kernel_rfl, by kernel_rfl, by kernel_rfl, by kernel_rfl⟩
theorem szUseS_ct (l : Sl Use) (left : Nat) (hl : left ≤ 1000000) : Ct Tryz.prog 59 [l.I Use.C, .int .i64 left] (.int .i64 (szR left (l.es.length + wUses (l.es)))) := by
  refine ct_of_run fit_laws_szUseS (by simp [mf_laws_szUseS]) (by simp [go_sem]) fun hd => ?_
  simp -implicitDefEqProofs [-List.map_take, -List.map_drop, go_sem, mf_laws_szUseS]
  have hm : l.es.length ≤ maxLen := sl_deep hd.1
  have hm' := hm
  simp only [maxLen] at hm'
  have hw1 : IntKind.i64.wrap ((left : Int) - (l.es.length : Int)) = (left : Int) - (l.es.length : Int) := wrap_small (by omega) (by omega)
  simp -implicitDefEqProofs [-List.map_take, -List.map_drop, go_sem, hw1]
  refine cnd_split (fun h => ?_) (fun h => ?_)
  · have hp : left < l.es.length + wUses (l.es) := by simp at h; omega
    simp -implicitDefEqProofs [-List.map_take, -List.map_drop, go_sem, h]
    repeat' first
      | ((first | refine gv_split (fun h => ?_) (fun h => ?_) | refine cnd_split (fun h => ?_) (fun h => ?_) | refine cgv_split (fun h => ?_) (fun h => ?_)) <;> (try (have hp := h; simp at hp)) <;> simp -implicitDefEqProofs [-List.map_take, -List.map_drop, go_sem, h])
      | (refine And.intro (by first | omega | (simp only [maxLen]; omega) | (simp_all; done) | (simp_all; omega)) ?_; try simp -implicitDefEqProofs [-List.map_take, -List.map_drop, go_sem])
      | (refine run_dreg' (by decide) ?_; simp -implicitDefEqProofs [-List.map_take, -List.map_drop, go_sem])
      | ((first | refine end_tup _ (by simp) (by simp [go_sem]; rfl) (by simp [go_sem]) ?_); first | (simp [go_sem, *, szR_neg hp]; done) | grind [szR_neg hp] | (simp [go_sem, szR_neg hp]; grind [szR_neg hp]) | (simp_all [go_sem, szR_neg hp]; done) | (simp_all [go_sem, szR_neg hp]; omega))
  · have hq : l.es.length ≤ left := by simp at h; omega
    have hw2 : (left : Int) - (l.es.length : Int) = ((left - l.es.length : Nat) : Int) := by omega
    simp -implicitDefEqProofs [-List.map_take, -List.map_drop, go_sem, h, hw2]
    rw [← szR_add (show ¬ left < l.es.length by omega)]
    refine run_iter (l.es.length) (szUseS_L l) (fun i a => szR a (wUses ((l.es.drop i))) = szR (left - l.es.length) (wUses (l.es)) ∧ a ≤ 1000000) (left - l.es.length) (gh_auto (by simp [go_sem, szUseS_L])) (by first | (simp; done) | (simp []; done) | (simp []; omega) | grind) ?_
    intro i a hi hj
    simp -implicitDefEqProofs [-List.map_take, -List.map_drop, go_sem, szUseS_L]
    refine cnd_split (fun hc => ?_) (fun hc => ?_)
    · have hlt : i < l.es.length := by first | (simpa using hc) | (simp at hc; omega)
      rw [List.drop_eq_getElem_cons hlt] at hj
      simp only [List.map_cons, wUses] at hj
      simp -implicitDefEqProofs [-List.map_take, -List.map_drop, go_sem, hlt]
      by_cases hb : a < wUse l.es[i]
      · have hsz : szR a (wUse l.es[i]) = -1 := szR_neg hb
        rw [szR_add_neg hb] at hj
        have c1 := szUse_ct l.es[i] a hj.2
        have hy := And.intro (hlt) (hsz)
        have hdf := hy0
        exact wk1
      · have hsz : szR a (wUse l.es[i]) = ((a - wUse l.es[i] : Nat) : Int) := szR_pos hb
        rw [← szR_add hb] at hj
        obtain ⟨hj1, hj2⟩ := id hj
        repeat' first
          | ((first | refine gv_split (fun h => ?_) (fun h => ?_) | refine cnd_split (fun h => ?_) (fun h => ?_) | refine cgv_split (fun h => ?_) (fun h => ?_)) <;> (try (have hp := h; simp at hp)) <;> simp -implicitDefEqProofs [-List.map_take, -List.map_drop, go_sem, h, hlt, hsz])
          | (refine And.intro (by first | omega | (simp only [maxLen]; omega) | (simp_all; done) | (simp_all; omega)) ?_; try simp -implicitDefEqProofs [-List.map_take, -List.map_drop, go_sem, hlt, hsz])
          | ((first | refine stp_ct (szUse_ct l.es[i] a hj.2) (by simp [go_sem, hlt, hsz]) ?_ ?_ | refine cstp_ct (szUse_ct l.es[i] a hj.2) (by simp [go_sem, hlt, hsz]) ?_ ?_); (simp [go_sem]); simp -implicitDefEqProofs [-List.map_take, -List.map_drop, go_sem, hlt, hsz])
          | (refine run_dreg' (by decide) ?_; simp -implicitDefEqProofs [-List.map_take, -List.map_drop, go_sem, hlt, hsz])
          | ((first | refine kx_next (a - wUse l.es[i]) hlt (gh_auto (by simp [go_sem, szUseS_L, wrap_succ hlt hm, hlt, hsz])) ?_ | refine end_tup _ (by simp) (by simp [go_sem]; rfl) (by simp [go_sem]) ?_); first | (simp [go_sem, *]; done) | grind | (simp [go_sem]; grind) | (simp_all [go_sem]; done) | (simp_all [go_sem]; omega))
    · have hge : l.es.length ≤ i := by first | (simpa using hc) | (simp at hc; omega)
      rw [List.drop_of_length_le hge] at hj
      simp only [List.map_nil, wUses] at hj
      have hj3 : szR a 0 = a := by rw [szR_pos (by omega)]; simp
      try simp -implicitDefEqProofs [-List.map_take, -List.map_drop, go_sem]
      have hy := hy0
      have hdf := hy0
      exact wk0
open Z in
def mf_laws_szBind : MF := ⟨20, [(.t 4)], q (r [k 2 (.box 204 (t 0)), k 4 (.mov (i 0))]) (q (r [m 5 1, k 6 (.fadr 0 (t 2)), k 7 (.load false 1 (t 6)), k 8 (.lens (t 7)), k 9 (.bin .sub (t 5) (t 8)), m 1 9]) (q (q (r [m 10 1, k 11 (.bin .lss (t 10) (i 0))]) (.cond (t 11) (q (r [k 4 (.mov (i (-1)))]) .ret) .skip)) (q (r [m 12 1, k 13 (.fadr 1 (t 2)), k 14 (.load false 1 (t 13)), k 15 (.lens (t 14)), k 16 (.bin .sub (t 12) (t 15)), m 1 16]) (q (q (r [m 17 1, k 18 (.bin .lss (t 17) (i 0))]) (.cond (t 18) (q (r [k 4 (.mov (i (-1)))]) .ret) .skip)) (q (r [m 19 1, m 4 19]) .ret)))))⟩
theorem fit_laws_szBind : Fit Tryz.prog 203 Tryz.f203 mf_laws_szBind := ⟨by kernel_rfl, Tryz.func203, by kernel_rfl, by kernel_rfl, by kernel_rfl, by kernel_rfl⟩
theorem szBind_ct (u : Bind) (left : Nat) (hl : left ≤ 1000000) : Ct Tryz.prog 203 [.agg u.C, .int .i64 left] (.int .i64 (szR left (wBind u))) := by
  refine ct_of_run fit_laws_szBind (by simp [mf_laws_szBind]) (by simp [go_sem]) fun hd => ?_
  simp -implicitDefEqProofs [-List.map_take, -List.map_drop, go_sem, mf_laws_szBind]
  have hd1 : u.name.length ≤ maxLen ∧ u.type.length ≤ maxLen := by have := hd.1; simp [Bind.C, deepL, deepV] at this; exact this
  simp only [maxLen] at hd1
  have hw1 : IntKind.i64.wrap ((left : Int) - (u.name.length : Int)) = (left : Int) - (u.name.length : Int) := wrap_small (by omega) (by omega)
  simp -implicitDefEqProofs [-List.map_take, -List.map_drop, go_sem, hw1]
  refine cnd_split (fun h => ?_) (fun h => ?_)
  · have hp : left < wBind u := by simp at h; simp only [wBind]; omega
    simp -implicitDefEqProofs [-List.map_take, -List.map_drop, go_sem, h]
    repeat' first
      | ((first | refine gv_split (fun h => ?_) (fun h => ?_) | refine cnd_split (fun h => ?_) (fun h => ?_) | refine cgv_split (fun h => ?_) (fun h => ?_)) <;> (try (have hp := h; simp at hp)) <;> simp -implicitDefEqProofs [-List.map_take, -List.map_drop, go_sem, h])
      | (refine And.intro (by first | omega | (simp only [maxLen]; omega) | (simp_all; done) | (simp_all; omega)) ?_; try simp -implicitDefEqProofs [-List.map_take, -List.map_drop, go_sem])
      | (refine run_dreg' (by decide) ?_; simp -implicitDefEqProofs [-List.map_take, -List.map_drop, go_sem])
      | ((first | refine end_tup _ (by simp) (by simp [go_sem]; rfl) (by simp [go_sem]) ?_); first | (simp [go_sem, *, szR_neg hp]; done) | grind [szR_neg hp] | (simp [go_sem, szR_neg hp]; grind [szR_neg hp]) | (simp_all [go_sem, szR_neg hp]; done) | (simp_all [go_sem, szR_neg hp]; omega))
  · have hq : (u.name.length : Int) ≤ left := by simp at h; omega
    have hw2 : IntKind.i64.wrap ((left : Int) - (u.name.length : Int) - (u.type.length : Int)) = (left : Int) - (u.name.length : Int) - (u.type.length : Int) := wrap_small (by omega) (by omega)
    simp -implicitDefEqProofs [-List.map_take, -List.map_drop, go_sem, h, hw1, hw2]
    refine cnd_split (fun h2 => ?_) (fun h2 => ?_)
    · have hp : left < wBind u := by simp at h2; simp only [wBind]; omega
      simp -implicitDefEqProofs [-List.map_take, -List.map_drop, go_sem, h2]
      repeat' first
        | ((first | refine gv_split (fun h => ?_) (fun h => ?_) | refine cnd_split (fun h => ?_) (fun h => ?_) | refine cgv_split (fun h => ?_) (fun h => ?_)) <;> (try (have hp := h; simp at hp)) <;> simp -implicitDefEqProofs [-List.map_take, -List.map_drop, go_sem, h])
        | (refine And.intro (by first | omega | (simp only [maxLen]; omega) | (simp_all; done) | (simp_all; omega)) ?_; try simp -implicitDefEqProofs [-List.map_take, -List.map_drop, go_sem])
        | (refine run_dreg' (by decide) ?_; simp -implicitDefEqProofs [-List.map_take, -List.map_drop, go_sem])
        | ((first | refine end_tup _ (by simp) (by simp [go_sem]; rfl) (by simp [go_sem]) ?_); first | (simp [go_sem, *, szR_neg hp]; done) | grind [szR_neg hp] | (simp [go_sem, szR_neg hp]; grind [szR_neg hp]) | (simp_all [go_sem, szR_neg hp]; done) | (simp_all [go_sem, szR_neg hp]; omega))
    · have hp : ¬ left < wBind u := by simp at h2; simp only [wBind]; omega
      have hp2 : ((left - wBind u : Nat) : Int) = (left : Int) - (u.name.length : Int) - (u.type.length : Int) := by simp at h2; simp only [wBind] at hp ⊢; omega
      simp -implicitDefEqProofs [-List.map_take, -List.map_drop, go_sem, h2]
      repeat' first
        | ((first | refine gv_split (fun h => ?_) (fun h => ?_) | refine cnd_split (fun h => ?_) (fun h => ?_) | refine cgv_split (fun h => ?_) (fun h => ?_)) <;> (try (have hp := h; simp at hp)) <;> simp -implicitDefEqProofs [-List.map_take, -List.map_drop, go_sem, h])
        | (refine And.intro (by first | omega | (simp only [maxLen]; omega) | (simp_all; done) | (simp_all; omega)) ?_; try simp -implicitDefEqProofs [-List.map_take, -List.map_drop, go_sem])
        | (refine run_dreg' (by decide) ?_; simp -implicitDefEqProofs [-List.map_take, -List.map_drop, go_sem])
        | ((first | refine end_tup _ (by simp) (by simp [go_sem]; rfl) (by simp [go_sem]) ?_); first | (simp [go_sem, *, szR_pos hp, hp2]; done) | grind [szR_pos hp, hp2] | (simp [go_sem, szR_pos hp, hp2]; grind [szR_pos hp, hp2]) | (simp_all [go_sem, szR_pos hp, hp2]; done) | (simp_all [go_sem, szR_pos hp, hp2]; omega))
def szBindS_L (l : Sl Bind) (i : Nat) (a : Nat) : St := ⟨lk [(0, l.I Bind.C), (1, .int .i64 a), (5, .int .i64 i)], [], []⟩
open Z in
def mf_laws_szBindS : MF := ⟨27, [(.t 4)], q (r [k 4 (.mov (i 0))]) (q (r [m 6 1, m 7 0, k 8 (.lenl (t 7)), k 9 (.bin .sub (t 6) (t 8)), m 1 9]) (q (q (r [m 10 1, k 11 (.bin .lss (t 10) (i 0))]) (.cond (t 11) (q (r [k 4 (.mov (i (-1)))]) .ret) .skip)) (q (q (r [k 5 (.mov (i 0))]) (.blk 0 (.loop (q (q (r [m 12 5, m 13 0, k 14 (.lenl (t 13)), k 15 (.bin .lss (t 12) (t 14))]) (.cond (t 15) .skip (.exit 0))) (q (.blk 1 (q (r [m 18 0, m 19 5, k 20 (.iadr 2 (t 18) (t 19)), k 21 (.load true 2 (t 20)), m 22 1, k 23 (c 203 [t 21, t 22]), m 1 23]) (q (r [m 24 1, k 25 (.bin .lss (t 24) (i 0))]) (.cond (t 25) (q (r [k 4 (.mov (i (-1)))]) .ret) .skip)))) (r [m 16 5, k 17 (.bin .add (t 16) (i 1)), m 5 17])))))) (q (r [m 26 1, m 4 26]) .ret))))⟩
theorem fit_laws_szBindS : Fit Tryz.prog 171 Tryz.f171 mf_laws_szBindS := ⟨by kernel_rfl, Tryz.func171, by kernel_rfl, by kernel_rfl, by kernel_rfl, by kernel_rfl⟩
theorem szBindS_ct (l : Sl Bind) (left : Nat) (hl : left ≤ 1000000) : Ct Tryz.prog 171 [l.I Bind.C, .int .i64 left] (.int .i64 (szR left (l.es.length + wBinds (l.es)))) := by
  refine ct_of_run fit_laws_szBindS (by simp [mf_laws_szBindS]) (by simp [go_sem]) fun hd => ?_
  simp -implicitDefEqProofs [-List.map_take, -List.map_drop, go_sem, mf_laws_szBindS]
  have hm : l.es.length ≤ maxLen := sl_deep hd.1
  have hm' := hm
  simp only [maxLen] at hm'
  have hw1 : IntKind.i64.wrap ((left : Int) - (l.es.length : Int)) = (left : Int) - (l.es.length : Int) := wrap_small (by omega) (by omega)
  simp -implicitDefEqProofs [-List.map_take, -List.map_drop, go_sem, hw1]
  refine cnd_split (fun h => ?_) (fun h => ?_)
  · have hp : left < l.es.length + wBinds (l.es) := by simp at h; omega
    simp -implicitDefEqProofs [-List.map_take, -List.map_drop, go_sem, h]
    repeat' first
      | ((first | refine gv_split (fun h => ?_) (fun h => ?_) | refine cnd_split (fun h => ?_) (fun h => ?_) | refine cgv_split (fun h => ?_) (fun h => ?_)) <;> (try (have hp := h; simp at hp)) <;> simp -implicitDefEqProofs [-List.map_take, -List.map_drop, go_sem, h])
      | (refine And.intro (by first | omega | (simp only [maxLen]; omega) | (simp_all; done) | (simp_all; omega)) ?_; try simp -implicitDefEqProofs [-List.map_take, -List.map_drop, go_sem])
      | (refine run_dreg' (by decide) ?_; simp -implicitDefEqProofs [-List.map_take, -List.map_drop, go_sem])
      | ((first | refine end_tup _ (by simp) (by simp [go_sem]; rfl) (by simp [go_sem]) ?_); first | (simp [go_sem, *, szR_neg hp]; done) | grind [szR_neg hp] | (simp [go_sem, szR_neg hp]; grind [szR_neg hp]) | (simp_all [go_sem, szR_neg hp]; done) | (simp_all [go_sem, szR_neg hp]; omega))
  · have hq : l.es.length ≤ left := by simp at h; omega
    have hw2 : (left : Int) - (l.es.length : Int) = ((left - l.es.length : Nat) : Int) := by omega
    simp -implicitDefEqProofs [-List.map_take, -List.map_drop, go_sem, h, hw2]
    rw [← szR_add (show ¬ left < l.es.length by omega)]
    refine run_iter (l.es.length) (szBindS_L l) (fun i a => szR a (wBinds ((l.es.drop i))) = szR (left - l.es.length) (wBinds (l.es)) ∧ a ≤ 1000000) (left - l.es.length) (gh_auto (by simp [go_sem, szBindS_L])) (by first | (simp; done) | (simp []; done) | (simp []; omega) | grind) ?_
    intro i a hi hj
    simp -implicitDefEqProofs [-List.map_take, -List.map_drop, go_sem, szBindS_L]
    refine cnd_split (fun hc => ?_) (fun hc => ?_)
    · have hlt : i < l.es.length := by first | (simpa using hc) | (simp at hc; omega)
      rw [List.drop_eq_getElem_cons hlt] at hj
      simp only [List.map_cons, wBinds] at hj
      simp -implicitDefEqProofs [-List.map_take, -List.map_drop, go_sem, hlt]
      by_cases hb : a < wBind l.es[i]
      · have hsz : szR a (wBind l.es[i]) = -1 := szR_neg hb
        rw [szR_add_neg hb] at hj
        have c1 := szBind_ct l.es[i] a hj.2
        have hy := And.intro (hlt) (hsz)
        have hdf := hy0
        exact wk1
      · have hsz : szR a (wBind l.es[i]) = ((a - wBind l.es[i] : Nat) : Int) := szR_pos hb
        rw [← szR_add hb] at hj
        obtain ⟨hj1, hj2⟩ := id hj
        repeat' first
          | ((first | refine gv_split (fun h => ?_) (fun h => ?_) | refine cnd_split (fun h => ?_) (fun h => ?_) | refine cgv_split (fun h => ?_) (fun h => ?_)) <;> (try (have hp := h; simp at hp)) <;> simp -implicitDefEqProofs [-List.map_take, -List.map_drop, go_sem, h, hlt, hsz])
          | (refine And.intro (by first | omega | (simp only [maxLen]; omega) | (simp_all; done) | (simp_all; omega)) ?_; try simp -implicitDefEqProofs [-List.map_take, -List.map_drop, go_sem, hlt, hsz])
          | ((first | refine stp_ct (szBind_ct l.es[i] a hj.2) (by simp [go_sem, hlt, hsz]) ?_ ?_ | refine cstp_ct (szBind_ct l.es[i] a hj.2) (by simp [go_sem, hlt, hsz]) ?_ ?_); (simp [go_sem]); simp -implicitDefEqProofs [-List.map_take, -List.map_drop, go_sem, hlt, hsz])
          | (refine run_dreg' (by decide) ?_; simp -implicitDefEqProofs [-List.map_take, -List.map_drop, go_sem, hlt, hsz])
          | ((first | refine kx_next (a - wBind l.es[i]) hlt (gh_auto (by simp [go_sem, szBindS_L, wrap_succ hlt hm, hlt, hsz])) ?_ | refine end_tup _ (by simp) (by simp [go_sem]; rfl) (by simp [go_sem]) ?_); first | (simp [go_sem, *]; done) | grind | (simp [go_sem]; grind) | (simp_all [go_sem]; done) | (simp_all [go_sem]; omega))
    · have hge : l.es.length ≤ i := by first | (simpa using hc) | (simp at hc; omega)
      rw [List.drop_of_length_le hge] at hj
      simp only [List.map_nil, wBinds] at hj
      have hj3 : szR a 0 = a := by rw [szR_pos (by omega)]; simp
      try simp -implicitDefEqProofs [-List.map_take, -List.map_drop, go_sem]
      have hy := hy0
      have hdf := hy0
      exact wk0
def szExprS_L (l : Sl LExpr) (i : Nat) (a : Nat) : St := ⟨lk [(0, l.I LExpr.C), (1, .int .i64 a), (5, .int .i64 i)], [], []⟩
open Z in
def mf_laws_szExprS : MF := ⟨27, [(.t 4)], q (r [k 4 (.mov (i 0))]) (q (r [m 6 1, m 7 0, k 8 (.lenl (t 7)), k 9 (.bin .sub (t 6) (t 8)), m 1 9]) (q (q (r [m 10 1, k 11 (.bin .lss (t 10) (i 0))]) (.cond (t 11) (q (r [k 4 (.mov (i (-1)))]) .ret) .skip)) (q (q (r [k 5 (.mov (i 0))]) (.blk 0 (.loop (q (q (r [m 12 5, m 13 0, k 14 (.lenl (t 13)), k 15 (.bin .lss (t 12) (t 14))]) (.cond (t 15) .skip (.exit 0))) (q (.blk 1 (q (r [m 18 0, m 19 5, k 20 (.iadr 4 (t 18) (t 19)), k 21 (.load true 4 (t 20)), m 22 1, k 23 (c 20 [t 21, t 22]), m 1 23]) (q (r [m 24 1, k 25 (.bin .lss (t 24) (i 0))]) (.cond (t 25) (q (r [k 4 (.mov (i (-1)))]) .ret) .skip)))) (r [m 16 5, k 17 (.bin .add (t 16) (i 1)), m 5 17])))))) (q (r [m 26 1, m 4 26]) .ret))))⟩
theorem fit_laws_szExprS : Fit Tryz.prog 48 Tryz.f48 mf_laws_szExprS := ⟨by kernel_rfl, Tryz.func48, by kernel_rfl, by kernel_rfl, by kernel_rfl, by kernel_rfl⟩
theorem szExprS_ct (l : Sl LExpr) (left : Nat) (hl : left ≤ 1000000) (hg : ∀ a, a ∈ l.es → ∀ left : Nat, left ≤ 1000000 → Ct Tryz.prog 20 [.agg a.C, .int .i64 left] (.int .i64 (szR left (wExpr a.core)))) : Ct Tryz.prog 48 [l.I LExpr.C, .int .i64 left] (.int .i64 (szR left (l.es.length + wExprs (l.es.map LExpr.core)))) := by
  refine ct_of_run fit_laws_szExprS (by simp [mf_laws_szExprS]) (by simp [go_sem]) fun hd => ?_
  simp -implicitDefEqProofs [-List.map_take, -List.map_drop, go_sem, mf_laws_szExprS]
  have hm : l.es.length ≤ maxLen := sl_deep hd.1
  have hm' := hm
  simp only [maxLen] at hm'
  have hw1 : IntKind.i64.wrap ((left : Int) - (l.es.length : Int)) = (left : Int) - (l.es.length : Int) := wrap_small (by omega) (by omega)
  simp -implicitDefEqProofs [-List.map_take, -List.map_drop, go_sem, hw1]
  refine cnd_split (fun h => ?_) (fun h => ?_)
  · have hp : left < l.es.length + wExprs (l.es.map LExpr.core) := by simp at h; omega
    simp -implicitDefEqProofs [-List.map_take, -List.map_drop, go_sem, h]
    repeat' first
      | ((first | refine gv_split (fun h => ?_) (fun h => ?_) | refine cnd_split (fun h => ?_) (fun h => ?_) | refine cgv_split (fun h => ?_) (fun h => ?_)) <;> (try (have hp := h; simp at hp)) <;> simp -implicitDefEqProofs [-List.map_take, -List.map_drop, go_sem, h])
      | (refine And.intro (by first | omega | (simp only [maxLen]; omega) | (simp_all; done) | (simp_all; omega)) ?_; try simp -implicitDefEqProofs [-List.map_take, -List.map_drop, go_sem])
      | (refine run_dreg' (by decide) ?_; simp -implicitDefEqProofs [-List.map_take, -List.map_drop, go_sem])
      | ((first | refine end_tup _ (by simp) (by simp [go_sem]; rfl) (by simp [go_sem]) ?_); first | (simp [go_sem, *, szR_neg hp]; done) | grind [szR_neg hp] | (simp [go_sem, szR_neg hp]; grind [szR_neg hp]) | (simp_all [go_sem, szR_neg hp]; done) | (simp_all [go_sem, szR_neg hp]; omega))
  · have hq : l.es.length ≤ left := by simp at h; omega
    have hw2 : (left : Int) - (l.es.length : Int) = ((left - l.es.length : Nat) : Int) := by omega
    simp -implicitDefEqProofs [-List.map_take, -List.map_drop, go_sem, h, hw2]
    rw [← szR_add (show ¬ left < l.es.length by omega)]
    refine run_iter (l.es.length) (szExprS_L l) (fun i a => szR a (wExprs ((l.es.drop i).map LExpr.core)) = szR (left - l.es.length) (wExprs (l.es.map LExpr.core)) ∧ a ≤ 1000000) (left - l.es.length) (gh_auto (by simp [go_sem, szExprS_L])) (by first | (simp; done) | (simp []; done) | (simp []; omega) | grind) ?_
    intro i a hi hj
    simp -implicitDefEqProofs [-List.map_take, -List.map_drop, go_sem, szExprS_L]
    refine cnd_split (fun hc => ?_) (fun hc => ?_)
    · have hlt : i < l.es.length := by first | (simpa using hc) | (simp at hc; omega)
      rw [List.drop_eq_getElem_cons hlt] at hj
      simp only [List.map_cons, wExprs] at hj
      simp -implicitDefEqProofs [-List.map_take, -List.map_drop, go_sem, hlt]
      by_cases hb : a < wExpr l.es[i].core
      · have hsz : szR a (wExpr l.es[i].core) = -1 := szR_neg hb
        rw [szR_add_neg hb] at hj
        have c1 := hg l.es[i] (List.getElem_mem hlt) a hj.2
        have hy := And.intro (hlt) (hsz)
        have hdf := hy0
        exact wk1
      · have hsz : szR a (wExpr l.es[i].core) = ((a - wExpr l.es[i].core : Nat) : Int) := szR_pos hb
        rw [← szR_add hb] at hj
        obtain ⟨hj1, hj2⟩ := id hj
        repeat' first
          | ((first | refine gv_split (fun h => ?_) (fun h => ?_) | refine cnd_split (fun h => ?_) (fun h => ?_) | refine cgv_split (fun h => ?_) (fun h => ?_)) <;> (try (have hp := h; simp at hp)) <;> simp -implicitDefEqProofs [-List.map_take, -List.map_drop, go_sem, h, hlt, hsz])
          | (refine And.intro (by first | omega | (simp only [maxLen]; omega) | (simp_all; done) | (simp_all; omega)) ?_; try simp -implicitDefEqProofs [-List.map_take, -List.map_drop, go_sem, hlt, hsz])
          | ((first | refine stp_ct (hg l.es[i] (List.getElem_mem hlt) a hj.2) (by simp [go_sem, hlt, hsz]) ?_ ?_ | refine cstp_ct (hg l.es[i] (List.getElem_mem hlt) a hj.2) (by simp [go_sem, hlt, hsz]) ?_ ?_); (simp [go_sem]); simp -implicitDefEqProofs [-List.map_take, -List.map_drop, go_sem, hlt, hsz])
          | (refine run_dreg' (by decide) ?_; simp -implicitDefEqProofs [-List.map_take, -List.map_drop, go_sem, hlt, hsz])
          | ((first | refine kx_next (a - wExpr l.es[i].core) hlt (gh_auto (by simp [go_sem, szExprS_L, wrap_succ hlt hm, hlt, hsz])) ?_ | refine end_tup _ (by simp) (by simp [go_sem]; rfl) (by simp [go_sem]) ?_); first | (simp [go_sem, *]; done) | grind | (simp [go_sem]; grind) | (simp_all [go_sem]; done) | (simp_all [go_sem]; omega))
    · have hge : l.es.length ≤ i := by first | (simpa using hc) | (simp at hc; omega)
      rw [List.drop_of_length_le hge] at hj
      simp only [List.map_nil, wExprs] at hj
      have hj3 : szR a 0 = a := by rw [szR_pos (by omega)]; simp
      try simp -implicitDefEqProofs [-List.map_take, -List.map_drop, go_sem]
      have hy := hy0
      have hdf := hy0
      exact wk0

open Z in
def mf_laws_szExpr : MF := ⟨19, [(.t 4)], q (r [k 2 (.box 43 (t 0)), k 4 (.mov (i 0))]) (q (r [m 5 1, k 6 (.fadr 2 (t 2)), k 7 (.load false 1 (t 6)), k 8 (.lens (t 7)), k 9 (.bin .sub (t 5) (t 8)), m 1 9]) (q (q (r [m 10 1, k 11 (.bin .lss (t 10) (i 0))]) (.cond (t 11) (q (r [k 4 (.mov (i (-1)))]) .ret) .skip)) (q (r [k 12 (.fadr 3 (t 2)), k 13 (.load false 1 (t 12)), m 14 1, k 15 (c 48 [t 13, t 14]), m 1 15]) (q (q (r [m 16 1, k 17 (.bin .lss (t 16) (i 0))]) (.cond (t 17) (q (r [k 4 (.mov (i (-1)))]) .ret) .skip)) (q (r [m 18 1, m 4 18]) .ret)))))⟩
theorem fit_laws_szExpr : Fit Tryz.prog 20 Tryz.f20 mf_laws_szExpr := ⟨by kernel_rfl, Tryz.func20, by kernel_rfl, by kernel_rfl, by kernel_rfl, by kernel_rfl⟩
theorem szExpr_ct (u : LExpr) (left : Nat) (hl : left ≤ 1000000) : Ct Tryz.prog 20 [.agg u.C, .int .i64 left] (.int .i64 (szR left (wExpr u.core))) := by
  refine ct_of_run fit_laws_szExpr (by simp [mf_laws_szExpr]) (by simp [go_sem]) fun hd => ?_
  simp -implicitDefEqProofs [-List.map_take, -List.map_drop, go_sem, mf_laws_szExpr]
  have hd1 : u.text.length ≤ maxLen := by have := hd.1; rw [LExpr.C_eq] at this; exact this.2.2.1
  simp only [maxLen] at hd1
  by_cases hb0 : left < u.text.length
  · have hw0 : IntKind.i64.wrap (((left : Nat) : Int) - ((u.text.length : Nat) : Int)) = ((left : Nat) : Int) - ((u.text.length : Nat) : Int) := wrap_small (by omega) (by omega)
    have hbad : szR left (wExpr u.core) = -1 := szR_neg (by simp only [wExpr_eq, LExpr.core_text, LExpr.core_kids, List.length_map]; omega)
    have hc0 : decide (((left : Nat) : Int) - ((u.text.length : Nat) : Int) < 0) = true := by first | (simp; done) | (simp; omega)
    simp -implicitDefEqProofs [-List.map_take, -List.map_drop, go_sem, hw0, hc0]
    have hy := hy0
    have hdf := hy0
    exact wk0
  · obtain ⟨left1, hleft1⟩ : ∃ n, n = left - u.text.length := ⟨_, rfl⟩
    have hw0 : IntKind.i64.wrap (((left : Nat) : Int) - ((u.text.length : Nat) : Int)) = ((left1 : Nat) : Int) := by rw [wrap_small (by omega) (by omega)]; omega
    have hc0 : decide (((left1 : Nat) : Int) < 0) = false := by first | (simp; done) | (simp; omega)
    simp -implicitDefEqProofs [-List.map_take, -List.map_drop, go_sem, hw0, hc0]
    by_cases hb1 : left1 < (u.kids.length + wExprs (u.kids.map LExpr.core))
    · have hs1 : szR (left1) ((u.kids.length + wExprs (u.kids.map LExpr.core))) = -1 := szR_neg hb1
      have hbad : szR left (wExpr u.core) = -1 := szR_neg (by simp only [wExpr_eq, LExpr.core_text, LExpr.core_kids, List.length_map]; omega)
      have ih1 := szExprS_ct ⟨u.kids, u.sp, u.lim⟩ (left1) (by omega) (fun a ha l hl => szExpr_ct a l hl)
      rw [hs1] at ih1
      have c1 := ih1
      have hy := hy0
      have hdf := hy0
      exact wk1
    · have hs1 : szR (left1) ((u.kids.length + wExprs (u.kids.map LExpr.core))) = (((left1 - (u.kids.length + wExprs (u.kids.map LExpr.core)) : Nat)) : Int) := szR_pos hb1
      obtain ⟨left2, hleft2⟩ : ∃ n, n = left1 - (u.kids.length + wExprs (u.kids.map LExpr.core)) := ⟨_, rfl⟩
      rw [← hleft2] at hs1
      have ih1 := szExprS_ct ⟨u.kids, u.sp, u.lim⟩ (left1) (by omega) (fun a ha l hl => szExpr_ct a l hl)
      rw [hs1] at ih1
      refine stp_ct ih1 (by simp [go_sem]) (by simp [go_sem]) ?_
      have hc1 : decide (((left2 : Nat) : Int) < 0) = false := by first | (simp; done) | (simp; omega)
      simp -implicitDefEqProofs [-List.map_take, -List.map_drop, go_sem, hc1]
      have hfin : (((left2) : Nat) : Int) = szR left (wExpr u.core) := by rw [szR_pos (by simp only [wExpr_eq, LExpr.core_text, LExpr.core_kids, List.length_map]; omega)]; simp only [wExpr_eq, LExpr.core_text, LExpr.core_kids, List.length_map]; omega
      have hy := hy0
      have hdf := hy0
      exact wk0
termination_by SizeOf.sizeOf u
decreasing_by all_goals exact LExpr.kid_lt ha
open Z in
def mf_laws_szDecl : MF := ⟨32, [(.t 4)], q (r [k 2 (.box 154 (t 0)), k 4 (.mov (i 0))]) (q (r [m 5 1, k 6 (.fadr 1 (t 2)), k 7 (.load false 1 (t 6)), k 8 (.lens (t 7)), k 9 (.bin .sub (t 5) (t 8)), m 1 9]) (q (q (r [m 10 1, k 11 (.bin .lss (t 10) (i 0))]) (.cond (t 11) (q (r [k 4 (.mov (i (-1)))]) .ret) .skip)) (q (r [k 12 (.fadr 2 (t 2)), k 13 (.load false 1 (t 12)), m 14 1, k 15 (c 171 [t 13, t 14]), m 1 15]) (q (q (r [m 16 1, k 17 (.bin .lss (t 16) (i 0))]) (.cond (t 17) (q (r [k 4 (.mov (i (-1)))]) .ret) .skip)) (q (r [m 18 1, k 19 (.fadr 3 (t 2)), k 20 (.load false 1 (t 19)), k 21 (.lens (t 20)), k 22 (.bin .sub (t 18) (t 21)), m 1 22]) (q (q (r [m 23 1, k 24 (.bin .lss (t 23) (i 0))]) (.cond (t 24) (q (r [k 4 (.mov (i (-1)))]) .ret) .skip)) (q (r [k 25 (.fadr 4 (t 2)), k 26 (.load true 4 (t 25)), m 27 1, k 28 (c 20 [t 26, t 27]), m 1 28]) (q (q (r [m 29 1, k 30 (.bin .lss (t 29) (i 0))]) (.cond (t 30) (q (r [k 4 (.mov (i (-1)))]) .ret) .skip)) (q (r [m 31 1, m 4 31]) .ret)))))))))⟩
theorem fit_laws_szDecl : Fit Tryz.prog 121 Tryz.f121 mf_laws_szDecl := ⟨by kernel_rfl, Tryz.func121, by kernel_rfl, by kernel_rfl, by kernel_rfl, by kernel_rfl⟩
theorem szDecl_ct (u : LDecl) (left : Nat) (hl : left ≤ 1000000) : Ct Tryz.prog 121 [.agg u.C, .int .i64 left] (.int .i64 (szR left (wDecl u.core))) := by
  refine ct_of_run fit_laws_szDecl (by simp [mf_laws_szDecl]) (by simp [go_sem]) fun hd => ?_
  simp -implicitDefEqProofs [-List.map_take, -List.map_drop, go_sem, mf_laws_szDecl]
  have hd1 : u.name.length ≤ maxLen ∧ u.type.length ≤ maxLen := by have := hd.1; rw [LDecl.C_eq] at this; exact ⟨this.2.1, this.2.2.2.1⟩
  simp only [maxLen] at hd1
  by_cases hb0 : left < u.name.length
  · have hw0 : IntKind.i64.wrap (((left : Nat) : Int) - ((u.name.length : Nat) : Int)) = ((left : Nat) : Int) - ((u.name.length : Nat) : Int) := wrap_small (by omega) (by omega)
    have hbad : szR left (wDecl u.core) = -1 := szR_neg (by simp only [wDecl, LDecl.core_name, LDecl.core_binds, LDecl.core_type, LDecl.core_body]; omega)
    have hc0 : decide (((left : Nat) : Int) - ((u.name.length : Nat) : Int) < 0) = true := by first | (simp; done) | (simp; omega)
    simp -implicitDefEqProofs [-List.map_take, -List.map_drop, go_sem, hw0, hc0]
    have hy := hy0
    have hdf := hy0
    exact wk0
  · obtain ⟨left1, hleft1⟩ : ∃ n, n = left - u.name.length := ⟨_, rfl⟩
    have hw0 : IntKind.i64.wrap (((left : Nat) : Int) - ((u.name.length : Nat) : Int)) = ((left1 : Nat) : Int) := by rw [wrap_small (by omega) (by omega)]; omega
    have hc0 : decide (((left1 : Nat) : Int) < 0) = false := by first | (simp; done) | (simp; omega)
    simp -implicitDefEqProofs [-List.map_take, -List.map_drop, go_sem, hw0, hc0]
    by_cases hb1 : left1 < (u.binds.es.length + wBinds u.binds.es)
    · have hs1 : szR (left1) ((u.binds.es.length + wBinds u.binds.es)) = -1 := szR_neg hb1
      have hbad : szR left (wDecl u.core) = -1 := szR_neg (by simp only [wDecl, LDecl.core_name, LDecl.core_binds, LDecl.core_type, LDecl.core_body]; omega)
      have ih1 := szBindS_ct u.binds (left1) (by omega)
      rw [hs1] at ih1
      have c1 := ih1
      have hy := hy0
      have hdf := hy0
      exact wk1
    · have hs1 : szR (left1) ((u.binds.es.length + wBinds u.binds.es)) = (((left1 - (u.binds.es.length + wBinds u.binds.es) : Nat)) : Int) := szR_pos hb1
      obtain ⟨left2, hleft2⟩ : ∃ n, n = left1 - (u.binds.es.length + wBinds u.binds.es) := ⟨_, rfl⟩
      rw [← hleft2] at hs1
      have ih1 := szBindS_ct u.binds (left1) (by omega)
      rw [hs1] at ih1
      refine stp_ct ih1 (by simp [go_sem]) (by simp [go_sem]) ?_
      have hc1 : decide (((left2 : Nat) : Int) < 0) = false := by first | (simp; done) | (simp; omega)
      simp -implicitDefEqProofs [-List.map_take, -List.map_drop, go_sem, hc1]
      by_cases hb2 : left2 < u.type.length
      · have hw2 : IntKind.i64.wrap (((left2 : Nat) : Int) - ((u.type.length : Nat) : Int)) = ((left2 : Nat) : Int) - ((u.type.length : Nat) : Int) := wrap_small (by omega) (by omega)
        have hbad : szR left (wDecl u.core) = -1 := szR_neg (by simp only [wDecl, LDecl.core_name, LDecl.core_binds, LDecl.core_type, LDecl.core_body]; omega)
        have hc2 : decide (((left2 : Nat) : Int) - ((u.type.length : Nat) : Int) < 0) = true := by first | (simp; done) | (simp; omega)
        simp -implicitDefEqProofs [-List.map_take, -List.map_drop, go_sem, hw2, hc2]
        have hy := hy0
        have hdf := hy0
        exact wk0
      · obtain ⟨left3, hleft3⟩ : ∃ n, n = left2 - u.type.length := ⟨_, rfl⟩
        have hw2 : IntKind.i64.wrap (((left2 : Nat) : Int) - ((u.type.length : Nat) : Int)) = ((left3 : Nat) : Int) := by rw [wrap_small (by omega) (by omega)]; omega
        have hc2 : decide (((left3 : Nat) : Int) < 0) = false := by first | (simp; done) | (simp; omega)
        simp -implicitDefEqProofs [-List.map_take, -List.map_drop, go_sem, hw2, hc2]
        by_cases hb3 : left3 < (wExpr u.body.core)
        · have hs3 : szR (left3) ((wExpr u.body.core)) = -1 := szR_neg hb3
          have hbad : szR left (wDecl u.core) = -1 := szR_neg (by simp only [wDecl, LDecl.core_name, LDecl.core_binds, LDecl.core_type, LDecl.core_body]; omega)
          have ih3 := szExpr_ct u.body (left3) (by omega)
          rw [hs3] at ih3
          have c1 := ih3
          have hy := hy0
          have hdf := hy0
          exact wk1
        · have hs3 : szR (left3) ((wExpr u.body.core)) = (((left3 - (wExpr u.body.core) : Nat)) : Int) := szR_pos hb3
          obtain ⟨left4, hleft4⟩ : ∃ n, n = left3 - (wExpr u.body.core) := ⟨_, rfl⟩
          rw [← hleft4] at hs3
          have ih3 := szExpr_ct u.body (left3) (by omega)
          rw [hs3] at ih3
          refine stp_ct ih3 (by simp [go_sem]) (by simp [go_sem]) ?_
          have hc3 : decide (((left4 : Nat) : Int) < 0) = false := by first | (simp; done) | (simp; omega)
          simp -implicitDefEqProofs [-List.map_take, -List.map_drop, go_sem, hc3]
          have hfin : (((left4) : Nat) : Int) = szR left (wDecl u.core) := by rw [szR_pos (by simp only [wDecl, LDecl.core_name, LDecl.core_binds, LDecl.core_type, LDecl.core_body]; omega)]; simp only [wDecl, LDecl.core_name, LDecl.core_binds, LDecl.core_type, LDecl.core_body]; omega
          have hy := hy0
          have hdf := hy0
          exact wk0
def szDeclS_L (l : Sl LDecl) (i : Nat) (a : Nat) : St := ⟨lk [(0, l.I LDecl.C), (1, .int .i64 a), (5, .int .i64 i)], [], []⟩
open Z in
def mf_laws_szDeclS : MF := ⟨27, [(.t 4)], q (r [k 4 (.mov (i 0))]) (q (r [m 6 1, m 7 0, k 8 (.lenl (t 7)), k 9 (.bin .sub (t 6) (t 8)), m 1 9]) (q (q (r [m 10 1, k 11 (.bin .lss (t 10) (i 0))]) (.cond (t 11) (q (r [k 4 (.mov (i (-1)))]) .ret) .skip)) (q (q (r [k 5 (.mov (i 0))]) (.blk 0 (.loop (q (q (r [m 12 5, m 13 0, k 14 (.lenl (t 13)), k 15 (.bin .lss (t 12) (t 14))]) (.cond (t 15) .skip (.exit 0))) (q (.blk 1 (q (r [m 18 0, m 19 5, k 20 (.iadr 8 (t 18) (t 19)), k 21 (.load true 8 (t 20)), m 22 1, k 23 (c 121 [t 21, t 22]), m 1 23]) (q (r [m 24 1, k 25 (.bin .lss (t 24) (i 0))]) (.cond (t 25) (q (r [k 4 (.mov (i (-1)))]) .ret) .skip)))) (r [m 16 5, k 17 (.bin .add (t 16) (i 1)), m 5 17])))))) (q (r [m 26 1, m 4 26]) .ret))))⟩
theorem fit_laws_szDeclS : Fit Tryz.prog 60 Tryz.f60 mf_laws_szDeclS := ⟨by kernel_rfl, Tryz.func60, by kernel_rfl, by kernel_rfl, by kernel_rfl, by kernel_rfl⟩
theorem szDeclS_ct (l : Sl LDecl) (left : Nat) (hl : left ≤ 1000000) : Ct Tryz.prog 60 [l.I LDecl.C, .int .i64 left] (.int .i64 (szR left (l.es.length + wDecls (l.es.map LDecl.core)))) := by
  refine ct_of_run fit_laws_szDeclS (by simp [mf_laws_szDeclS]) (by simp [go_sem]) fun hd => ?_
  simp -implicitDefEqProofs [-List.map_take, -List.map_drop, go_sem, mf_laws_szDeclS]
  have hm : l.es.length ≤ maxLen := sl_deep hd.1
  have hm' := hm
  simp only [maxLen] at hm'
  have hw1 : IntKind.i64.wrap ((left : Int) - (l.es.length : Int)) = (left : Int) - (l.es.length : Int) := wrap_small (by omega) (by omega)
  simp -implicitDefEqProofs [-List.map_take, -List.map_drop, go_sem, hw1]
  refine cnd_split (fun h => ?_) (fun h => ?_)
  · have hp : left < l.es.length + wDecls (l.es.map LDecl.core) := by simp at h; omega
    simp -implicitDefEqProofs [-List.map_take, -List.map_drop, go_sem, h]
    repeat' first
      | ((first | refine gv_split (fun h => ?_) (fun h => ?_) | refine cnd_split (fun h => ?_) (fun h => ?_) | refine cgv_split (fun h => ?_) (fun h => ?_)) <;> (try (have hp := h; simp at hp)) <;> simp -implicitDefEqProofs [-List.map_take, -List.map_drop, go_sem, h])
      | (refine And.intro (by first | omega | (simp only [maxLen]; omega) | (simp_all; done) | (simp_all; omega)) ?_; try simp -implicitDefEqProofs [-List.map_take, -List.map_drop, go_sem])
      | (refine run_dreg' (by decide) ?_; simp -implicitDefEqProofs [-List.map_take, -List.map_drop, go_sem])
      | ((first | refine end_tup _ (by simp) (by simp [go_sem]; rfl) (by simp [go_sem]) ?_); first | (simp [go_sem, *, szR_neg hp]; done) | grind [szR_neg hp] | (simp [go_sem, szR_neg hp]; grind [szR_neg hp]) | (simp_all [go_sem, szR_neg hp]; done) | (simp_all [go_sem, szR_neg hp]; omega))
  · have hq : l.es.length ≤ left := by simp at h; omega
    have hw2 : (left : Int) - (l.es.length : Int) = ((left - l.es.length : Nat) : Int) := by omega
    simp -implicitDefEqProofs [-List.map_take, -List.map_drop, go_sem, h, hw2]
    rw [← szR_add (show ¬ left < l.es.length by omega)]
    refine run_iter (l.es.length) (szDeclS_L l) (fun i a => szR a (wDecls ((l.es.drop i).map LDecl.core)) = szR (left - l.es.length) (wDecls (l.es.map LDecl.core)) ∧ a ≤ 1000000) (left - l.es.length) (gh_auto (by simp [go_sem, szDeclS_L])) (by first | (simp; done) | (simp []; done) | (simp []; omega) | grind) ?_
    intro i a hi hj
    simp -implicitDefEqProofs [-List.map_take, -List.map_drop, go_sem, szDeclS_L]
    refine cnd_split (fun hc => ?_) (fun hc => ?_)
    · have hlt : i < l.es.length := by first | (simpa using hc) | (simp at hc; omega)
      rw [List.drop_eq_getElem_cons hlt] at hj
      simp only [List.map_cons, wDecls] at hj
      simp -implicitDefEqProofs [-List.map_take, -List.map_drop, go_sem, hlt]
      by_cases hb : a < wDecl l.es[i].core
      · have hsz : szR a (wDecl l.es[i].core) = -1 := szR_neg hb
        rw [szR_add_neg hb] at hj
        have c1 := szDecl_ct l.es[i] a hj.2
        have hy := And.intro (hlt) (hsz)
        have hdf := hy0
        exact wk1
      · have hsz : szR a (wDecl l.es[i].core) = ((a - wDecl l.es[i].core : Nat) : Int) := szR_pos hb
        rw [← szR_add hb] at hj
        obtain ⟨hj1, hj2⟩ := id hj
        repeat' first
          | ((first | refine gv_split (fun h => ?_) (fun h => ?_) | refine cnd_split (fun h => ?_) (fun h => ?_) | refine cgv_split (fun h => ?_) (fun h => ?_)) <;> (try (have hp := h; simp at hp)) <;> simp -implicitDefEqProofs [-List.map_take, -List.map_drop, go_sem, h, hlt, hsz])
          | (refine And.intro (by first | omega | (simp only [maxLen]; omega) | (simp_all; done) | (simp_all; omega)) ?_; try simp -implicitDefEqProofs [-List.map_take, -List.map_drop, go_sem, hlt, hsz])
          | ((first | refine stp_ct (szDecl_ct l.es[i] a hj.2) (by simp [go_sem, hlt, hsz]) ?_ ?_ | refine cstp_ct (szDecl_ct l.es[i] a hj.2) (by simp [go_sem, hlt, hsz]) ?_ ?_); (simp [go_sem]); simp -implicitDefEqProofs [-List.map_take, -List.map_drop, go_sem, hlt, hsz])
          | (refine run_dreg' (by decide) ?_; simp -implicitDefEqProofs [-List.map_take, -List.map_drop, go_sem, hlt, hsz])
          | ((first | refine kx_next (a - wDecl l.es[i].core) hlt (gh_auto (by simp [go_sem, szDeclS_L, wrap_succ hlt hm, hlt, hsz])) ?_ | refine end_tup _ (by simp) (by simp [go_sem]; rfl) (by simp [go_sem]) ?_); first | (simp [go_sem, *]; done) | grind | (simp [go_sem]; grind) | (simp_all [go_sem]; done) | (simp_all [go_sem]; omega))
    · have hge : l.es.length ≤ i := by first | (simpa using hc) | (simp at hc; omega)
      rw [List.drop_of_length_le hge] at hj
      simp only [List.map_nil, wDecls] at hj
      have hj3 : szR a 0 = a := by rw [szR_pos (by omega)]; simp
      try simp -implicitDefEqProofs [-List.map_take, -List.map_drop, go_sem]
      have hy := hy0
      have hdf := hy0
      exact wk0
open Z in
def mf_laws_szModule : MF := ⟨25, [(.t 4)], q (r [k 2 (.box 56 (t 0)), k 4 (.mov (i 0))]) (q (r [m 5 1, k 6 (.fadr 0 (t 2)), k 7 (.load false 1 (t 6)), k 8 (.lens (t 7)), k 9 (.bin .sub (t 5) (t 8)), m 1 9]) (q (q (r [m 10 1, k 11 (.bin .lss (t 10) (i 0))]) (.cond (t 11) (q (r [k 4 (.mov (i (-1)))]) .ret) .skip)) (q (r [k 12 (.fadr 1 (t 2)), k 13 (.load false 1 (t 12)), m 14 1, k 15 (c 59 [t 13, t 14]), m 1 15]) (q (q (r [m 16 1, k 17 (.bin .lss (t 16) (i 0))]) (.cond (t 17) (q (r [k 4 (.mov (i (-1)))]) .ret) .skip)) (q (r [k 18 (.fadr 2 (t 2)), k 19 (.load false 1 (t 18)), m 20 1, k 21 (c 60 [t 19, t 20]), m 1 21]) (q (q (r [m 22 1, k 23 (.bin .lss (t 22) (i 0))]) (.cond (t 23) (q (r [k 4 (.mov (i (-1)))]) .ret) .skip)) (q (r [m 24 1, m 4 24]) .ret)))))))⟩
theorem fit_laws_szModule : Fit Tryz.prog 27 Tryz.f27 mf_laws_szModule := ⟨by kernel_rfl, Tryz.func27, by kernel_rfl, by kernel_rfl, by kernel_rfl, by kernel_rfl⟩
theorem szModule_ct (u : LModule) (left : Nat) (hl : left ≤ 1000000) : Ct Tryz.prog 27 [.agg u.C, .int .i64 left] (.int .i64 (szR left (wModule u.core))) := by
  refine ct_of_run fit_laws_szModule (by simp [mf_laws_szModule]) (by simp [go_sem]) fun hd => ?_
  simp -implicitDefEqProofs [-List.map_take, -List.map_drop, go_sem, mf_laws_szModule]
  have hd1 : u.name.length ≤ maxLen := by have := hd.1; rw [LModule.C_eq] at this; exact this.1
  simp only [maxLen] at hd1
  by_cases hb0 : left < u.name.length
  · have hw0 : IntKind.i64.wrap (((left : Nat) : Int) - ((u.name.length : Nat) : Int)) = ((left : Nat) : Int) - ((u.name.length : Nat) : Int) := wrap_small (by omega) (by omega)
    have hbad : szR left (wModule u.core) = -1 := szR_neg (by simp only [wModule, LModule.core_name, LModule.core_uses, LModule.core_decls, List.length_map]; omega)
    have hc0 : decide (((left : Nat) : Int) - ((u.name.length : Nat) : Int) < 0) = true := by first | (simp; done) | (simp; omega)
    simp -implicitDefEqProofs [-List.map_take, -List.map_drop, go_sem, hw0, hc0]
    have hy := hy0
    have hdf := hy0
    exact wk0
  · obtain ⟨left1, hleft1⟩ : ∃ n, n = left - u.name.length := ⟨_, rfl⟩
    have hw0 : IntKind.i64.wrap (((left : Nat) : Int) - ((u.name.length : Nat) : Int)) = ((left1 : Nat) : Int) := by rw [wrap_small (by omega) (by omega)]; omega
    have hc0 : decide (((left1 : Nat) : Int) < 0) = false := by first | (simp; done) | (simp; omega)
    simp -implicitDefEqProofs [-List.map_take, -List.map_drop, go_sem, hw0, hc0]
    by_cases hb1 : left1 < (u.uses.es.length + wUses u.uses.es)
    · have hs1 : szR (left1) ((u.uses.es.length + wUses u.uses.es)) = -1 := szR_neg hb1
      have hbad : szR left (wModule u.core) = -1 := szR_neg (by simp only [wModule, LModule.core_name, LModule.core_uses, LModule.core_decls, List.length_map]; omega)
      have ih1 := szUseS_ct u.uses (left1) (by omega)
      rw [hs1] at ih1
      have c1 := ih1
      have hy := hy0
      have hdf := hy0
      exact wk1
    · have hs1 : szR (left1) ((u.uses.es.length + wUses u.uses.es)) = (((left1 - (u.uses.es.length + wUses u.uses.es) : Nat)) : Int) := szR_pos hb1
      obtain ⟨left2, hleft2⟩ : ∃ n, n = left1 - (u.uses.es.length + wUses u.uses.es) := ⟨_, rfl⟩
      rw [← hleft2] at hs1
      have ih1 := szUseS_ct u.uses (left1) (by omega)
      rw [hs1] at ih1
      refine stp_ct ih1 (by simp [go_sem]) (by simp [go_sem]) ?_
      have hc1 : decide (((left2 : Nat) : Int) < 0) = false := by first | (simp; done) | (simp; omega)
      simp -implicitDefEqProofs [-List.map_take, -List.map_drop, go_sem, hc1]
      by_cases hb2 : left2 < (u.decls.es.length + wDecls (u.decls.es.map LDecl.core))
      · have hs2 : szR (left2) ((u.decls.es.length + wDecls (u.decls.es.map LDecl.core))) = -1 := szR_neg hb2
        have hbad : szR left (wModule u.core) = -1 := szR_neg (by simp only [wModule, LModule.core_name, LModule.core_uses, LModule.core_decls, List.length_map]; omega)
        have ih2 := szDeclS_ct u.decls (left2) (by omega)
        rw [hs2] at ih2
        have c1 := ih2
        have hy := hy0
        have hdf := hy0
        exact wk1
      · have hs2 : szR (left2) ((u.decls.es.length + wDecls (u.decls.es.map LDecl.core))) = (((left2 - (u.decls.es.length + wDecls (u.decls.es.map LDecl.core)) : Nat)) : Int) := szR_pos hb2
        obtain ⟨left3, hleft3⟩ : ∃ n, n = left2 - (u.decls.es.length + wDecls (u.decls.es.map LDecl.core)) := ⟨_, rfl⟩
        rw [← hleft3] at hs2
        have ih2 := szDeclS_ct u.decls (left2) (by omega)
        rw [hs2] at ih2
        refine stp_ct ih2 (by simp [go_sem]) (by simp [go_sem]) ?_
        have hc2 : decide (((left3 : Nat) : Int) < 0) = false := by first | (simp; done) | (simp; omega)
        simp -implicitDefEqProofs [-List.map_take, -List.map_drop, go_sem, hc2]
        have hfin : (((left3) : Nat) : Int) = szR left (wModule u.core) := by rw [szR_pos (by simp only [wModule, LModule.core_name, LModule.core_uses, LModule.core_decls, List.length_map]; omega)]; simp only [wModule, LModule.core_name, LModule.core_uses, LModule.core_decls, List.length_map]; omega
        have hy := hy0
        have hdf := hy0
        exact wk0
def szModuleS_L (l : Sl LModule) (i : Nat) (a : Nat) : St := ⟨lk [(0, l.I LModule.C), (1, .int .i64 a), (5, .int .i64 i)], [], []⟩
open Z in
def mf_laws_szModuleS : MF := ⟨27, [(.t 4)], q (r [k 4 (.mov (i 0))]) (q (r [m 6 1, m 7 0, k 8 (.lenl (t 7)), k 9 (.bin .sub (t 6) (t 8)), m 1 9]) (q (q (r [m 10 1, k 11 (.bin .lss (t 10) (i 0))]) (.cond (t 11) (q (r [k 4 (.mov (i (-1)))]) .ret) .skip)) (q (q (r [k 5 (.mov (i 0))]) (.blk 0 (.loop (q (q (r [m 12 5, m 13 0, k 14 (.lenl (t 13)), k 15 (.bin .lss (t 12) (t 14))]) (.cond (t 15) .skip (.exit 0))) (q (.blk 1 (q (r [m 18 0, m 19 5, k 20 (.iadr 3 (t 18) (t 19)), k 21 (.load true 3 (t 20)), m 22 1, k 23 (c 27 [t 21, t 22]), m 1 23]) (q (r [m 24 1, k 25 (.bin .lss (t 24) (i 0))]) (.cond (t 25) (q (r [k 4 (.mov (i (-1)))]) .ret) .skip)))) (r [m 16 5, k 17 (.bin .add (t 16) (i 1)), m 5 17])))))) (q (r [m 26 1, m 4 26]) .ret))))⟩
theorem fit_laws_szModuleS : Fit Tryz.prog 8 Tryz.f8 mf_laws_szModuleS := ⟨by kernel_rfl, Tryz.func8, by kernel_rfl, by kernel_rfl, by kernel_rfl, by kernel_rfl⟩
theorem szModuleS_ct (l : Sl LModule) (left : Nat) (hl : left ≤ 1000000) : Ct Tryz.prog 8 [l.I LModule.C, .int .i64 left] (.int .i64 (szR left (l.es.length + wModules (l.es.map LModule.core)))) := by
  refine ct_of_run fit_laws_szModuleS (by simp [mf_laws_szModuleS]) (by simp [go_sem]) fun hd => ?_
  simp -implicitDefEqProofs [-List.map_take, -List.map_drop, go_sem, mf_laws_szModuleS]
  have hm : l.es.length ≤ maxLen := sl_deep hd.1
  have hm' := hm
  simp only [maxLen] at hm'
  have hw1 : IntKind.i64.wrap ((left : Int) - (l.es.length : Int)) = (left : Int) - (l.es.length : Int) := wrap_small (by omega) (by omega)
  simp -implicitDefEqProofs [-List.map_take, -List.map_drop, go_sem, hw1]
  refine cnd_split (fun h => ?_) (fun h => ?_)
  · have hp : left < l.es.length + wModules (l.es.map LModule.core) := by simp at h; omega
    simp -implicitDefEqProofs [-List.map_take, -List.map_drop, go_sem, h]
    repeat' first
      | ((first | refine gv_split (fun h => ?_) (fun h => ?_) | refine cnd_split (fun h => ?_) (fun h => ?_) | refine cgv_split (fun h => ?_) (fun h => ?_)) <;> (try (have hp := h; simp at hp)) <;> simp -implicitDefEqProofs [-List.map_take, -List.map_drop, go_sem, h])
      | (refine And.intro (by first | omega | (simp only [maxLen]; omega) | (simp_all; done) | (simp_all; omega)) ?_; try simp -implicitDefEqProofs [-List.map_take, -List.map_drop, go_sem])
      | (refine run_dreg' (by decide) ?_; simp -implicitDefEqProofs [-List.map_take, -List.map_drop, go_sem])
      | ((first | refine end_tup _ (by simp) (by simp [go_sem]; rfl) (by simp [go_sem]) ?_); first | (simp [go_sem, *, szR_neg hp]; done) | grind [szR_neg hp] | (simp [go_sem, szR_neg hp]; grind [szR_neg hp]) | (simp_all [go_sem, szR_neg hp]; done) | (simp_all [go_sem, szR_neg hp]; omega))
  · have hq : l.es.length ≤ left := by simp at h; omega
    have hw2 : (left : Int) - (l.es.length : Int) = ((left - l.es.length : Nat) : Int) := by omega
    simp -implicitDefEqProofs [-List.map_take, -List.map_drop, go_sem, h, hw2]
    rw [← szR_add (show ¬ left < l.es.length by omega)]
    refine run_iter (l.es.length) (szModuleS_L l) (fun i a => szR a (wModules ((l.es.drop i).map LModule.core)) = szR (left - l.es.length) (wModules (l.es.map LModule.core)) ∧ a ≤ 1000000) (left - l.es.length) (gh_auto (by simp [go_sem, szModuleS_L])) (by first | (simp; done) | (simp []; done) | (simp []; omega) | grind) ?_
    intro i a hi hj
    simp -implicitDefEqProofs [-List.map_take, -List.map_drop, go_sem, szModuleS_L]
    refine cnd_split (fun hc => ?_) (fun hc => ?_)
    · have hlt : i < l.es.length := by first | (simpa using hc) | (simp at hc; omega)
      rw [List.drop_eq_getElem_cons hlt] at hj
      simp only [List.map_cons, wModules] at hj
      simp -implicitDefEqProofs [-List.map_take, -List.map_drop, go_sem, hlt]
      by_cases hb : a < wModule l.es[i].core
      · have hsz : szR a (wModule l.es[i].core) = -1 := szR_neg hb
        rw [szR_add_neg hb] at hj
        have c1 := szModule_ct l.es[i] a hj.2
        have hy := And.intro (hlt) (hsz)
        have hdf := hy0
        exact wk1
      · have hsz : szR a (wModule l.es[i].core) = ((a - wModule l.es[i].core : Nat) : Int) := szR_pos hb
        rw [← szR_add hb] at hj
        obtain ⟨hj1, hj2⟩ := id hj
        repeat' first
          | ((first | refine gv_split (fun h => ?_) (fun h => ?_) | refine cnd_split (fun h => ?_) (fun h => ?_) | refine cgv_split (fun h => ?_) (fun h => ?_)) <;> (try (have hp := h; simp at hp)) <;> simp -implicitDefEqProofs [-List.map_take, -List.map_drop, go_sem, h, hlt, hsz])
          | (refine And.intro (by first | omega | (simp only [maxLen]; omega) | (simp_all; done) | (simp_all; omega)) ?_; try simp -implicitDefEqProofs [-List.map_take, -List.map_drop, go_sem, hlt, hsz])
          | ((first | refine stp_ct (szModule_ct l.es[i] a hj.2) (by simp [go_sem, hlt, hsz]) ?_ ?_ | refine cstp_ct (szModule_ct l.es[i] a hj.2) (by simp [go_sem, hlt, hsz]) ?_ ?_); (simp [go_sem]); simp -implicitDefEqProofs [-List.map_take, -List.map_drop, go_sem, hlt, hsz])
          | (refine run_dreg' (by decide) ?_; simp -implicitDefEqProofs [-List.map_take, -List.map_drop, go_sem, hlt, hsz])
          | ((first | refine kx_next (a - wModule l.es[i].core) hlt (gh_auto (by simp [go_sem, szModuleS_L, wrap_succ hlt hm, hlt, hsz])) ?_ | refine end_tup _ (by simp) (by simp [go_sem]; rfl) (by simp [go_sem]) ?_); first | (simp [go_sem, *]; done) | grind | (simp [go_sem]; grind) | (simp_all [go_sem]; done) | (simp_all [go_sem]; omega))
    · have hge : l.es.length ≤ i := by first | (simpa using hc) | (simp at hc; omega)
      rw [List.drop_of_length_le hge] at hj
      simp only [List.map_nil, wModules] at hj
      have hj3 : szR a 0 = a := by rw [szR_pos (by omega)]; simp
      try simp -implicitDefEqProofs [-List.map_take, -List.map_drop, go_sem]
      have hy := hy0
      have hdf := hy0
      exact wk0

attribute [local go_sem] buildV fillC mksV slV
open Z in
def mf_laws_roomBehind : MF := ⟨10, [(.t 2)], q (r [k 2 (.mov (i 0))]) (q (q (r [m 3 0, k 4 (.bin .rem (t 3) (i 6)), k 5 (.bin .eql (t 4) (i 5))]) (.cond (t 5) (q (r [k 2 (.mov (i 0))]) .ret) .skip)) (q (q (r [m 6 0, k 7 (.bin .rem (t 6) (i 3)), k 8 (.bin .eql (t 7) (i 0))]) (.cond (t 8) (q (r [k 2 (.mov (i 1))]) .ret) .skip)) (q (r [m 9 0, m 2 9]) .ret)))⟩
theorem fit_laws_roomBehind : Fit Tryz.prog 30 Tryz.f30 mf_laws_roomBehind := ⟨by kernel_rfl, Tryz.func30, by kernel_rfl, by kernel_rfl, by kernel_rfl, by kernel_rfl⟩
theorem room_ct (n : Nat) : Ct Tryz.prog 30 [.int .i64 n] (.int .i64 (room n)) := by
  refine ct_of_run fit_laws_roomBehind (by simp [mf_laws_roomBehind]) (by simp [go_sem]) fun hd => ?_
  simp -implicitDefEqProofs [-List.map_take, -List.map_drop, go_sem, mf_laws_roomBehind]
  have hw6 : (n : Int).tmod 6 = ((n % 6 : Nat) : Int) := rfl
  have hw3 : (n : Int).tmod 3 = ((n % 3 : Nat) : Int) := rfl
  simp -implicitDefEqProofs [-List.map_take, -List.map_drop, go_sem, hw6]
  have hy := hw3
  have e1 := @room.eq_1
  have hdf := @e1
  exact wk0
open Z in
def mf_laws_fillerUse : MF := ⟨2, [(.cell 0 2 true)], q (r [k 0 (.alloc 99 [.str [], .str []])]) (q (r [k 1 (.build [.str [], .str []] [(0, (1, s [126, 115, 112, 97, 114, 101, 126])), (1, (1, s [126, 115, 112, 97, 114, 101, 126]))]), n (.store 2 (t 0) (t 1))]) .ret)⟩
theorem fit_laws_fillerUse : Fit Tryz.prog 69 Tryz.f69 mf_laws_fillerUse := ⟨by kernel_rfl, Tryz.func69, by kernel_rfl, by kernel_rfl, by kernel_rfl, by kernel_rfl⟩
theorem fillUse_ct : Ct Tryz.prog 69 [] (.agg fillUse.C) := by
  refine ct_of_run fit_laws_fillerUse (by simp [mf_laws_fillerUse]) (by simp [go_sem]) fun hd => ?_
  simp -implicitDefEqProofs [-List.map_take, -List.map_drop, go_sem, mf_laws_fillerUse]
  have hy := hy0
  have e1 := @fillUse.eq_1
  have e2 := @Use.C.eq_1
  have e3 := @spareS.eq_1
  have hdf := And.intro (@e1) (And.intro (@e2) (@e3))
  exact wk0
open Z in
def mf_laws_fillerBind : MF := ⟨2, [(.cell 0 2 true)], q (r [k 0 (.alloc 118 [.str [], .str []])]) (q (r [k 1 (.build [.str [], .str []] [(0, (1, s [126, 115, 112, 97, 114, 101, 126])), (1, (1, s [126, 115, 112, 97, 114, 101, 126]))]), n (.store 2 (t 0) (t 1))]) .ret)⟩
theorem fit_laws_fillerBind : Fit Tryz.prog 129 Tryz.f129 mf_laws_fillerBind := ⟨by kernel_rfl, Tryz.func129, by kernel_rfl, by kernel_rfl, by kernel_rfl, by kernel_rfl⟩
theorem fillBind_ct : Ct Tryz.prog 129 [] (.agg fillBind.C) := by
  refine ct_of_run fit_laws_fillerBind (by simp [mf_laws_fillerBind]) (by simp [go_sem]) fun hd => ?_
  simp -implicitDefEqProofs [-List.map_take, -List.map_drop, go_sem, mf_laws_fillerBind]
  have hy := hy0
  have e1 := @fillBind.eq_1
  have e2 := @Bind.C.eq_1
  have e3 := @spareS.eq_1
  have hdf := And.intro (@e1) (And.intro (@e2) (@e3))
  exact wk0
open Z in
def mf_laws_fillerExpr : MF := ⟨3, [(.cell 0 4 true)], q (r [k 0 (.alloc 48 [.int .i64 0, .int .i64 0, .str [], .imm [] [] true])]) (q (r [k 1 (.bsl 48 4 0 [.int .i64 0, .int .i64 0, .str [], .imm [] [] true] []), k 2 (.build [.int .i64 0, .int .i64 0, .str [], .imm [] [] true] [(0, (1, i (-7000000000000000101))), (1, (1, i (-7000000000000000101))), (2, (1, s [126, 115, 112, 97, 114, 101, 126])), (3, (1, t 1))]), n (.store 4 (t 0) (t 2))]) .ret)⟩
theorem fit_laws_fillerExpr : Fit Tryz.prog 105 Tryz.f105 mf_laws_fillerExpr := ⟨by kernel_rfl, Tryz.func105, by kernel_rfl, by kernel_rfl, by kernel_rfl, by kernel_rfl⟩
theorem fillExpr_ct : Ct Tryz.prog 105 [] (.agg fillExpr.C) := by
  refine ct_of_run fit_laws_fillerExpr (by simp [mf_laws_fillerExpr]) (by simp [go_sem]) fun hd => ?_
  simp -implicitDefEqProofs [-List.map_take, -List.map_drop, go_sem, mf_laws_fillerExpr]
  refine end_snapG 3 _ _ (by simp) (by simp [go_sem]; rfl) (by simp [go_sem, snapV, mapO, snapE, snapSp]; rfl) ?_
  rfl
open Z in
def mf_laws_toUse : MF := ⟨11, [(.cell 2 2 true)], q (r [k 1 (.box 150 (t 0)), k 2 (.alloc 99 [.str [], .str []])]) (q (r [k 3 (.alloc 99 [.str [], .str []])]) (q (r [k 4 (.fadr 0 (t 1)), k 5 (.load false 1 (t 4)), k 6 (.fadr 0 (t 3)), n (.store 1 (t 6) (t 5))]) (q (r [k 7 (.fadr 1 (t 1)), k 8 (.load false 1 (t 7)), k 9 (.fadr 1 (t 3)), n (.store 1 (t 9) (t 8))]) (q (r [k 10 (.load true 2 (t 3)), n (.store 2 (t 2) (t 10))]) .ret))))⟩
theorem fit_laws_toUse : Fit Tryz.prog 127 Tryz.f127 mf_laws_toUse := ⟨by kernel_rfl, Tryz.func127, by kernel_rfl, by kernel_rfl, by kernel_rfl, by kernel_rfl⟩
theorem toUse_ct (u : Use) : Ct Tryz.prog 127 [.agg u.C] (.agg u.C) := by
  refine ct_of_run fit_laws_toUse (by simp [mf_laws_toUse]) (by simp [go_sem]) fun hd => ?_
  simp -implicitDefEqProofs [-List.map_take, -List.map_drop, go_sem, mf_laws_toUse]
  have hy := hy0
  have e1 := @Use.C.eq_1
  have hdf := @e1
  exact wk0
open Z in
def mf_laws_toBind : MF := ⟨11, [(.cell 2 2 true)], q (r [k 1 (.box 204 (t 0)), k 2 (.alloc 118 [.str [], .str []])]) (q (r [k 3 (.alloc 118 [.str [], .str []])]) (q (r [k 4 (.fadr 0 (t 1)), k 5 (.load false 1 (t 4)), k 6 (.fadr 0 (t 3)), n (.store 1 (t 6) (t 5))]) (q (r [k 7 (.fadr 1 (t 1)), k 8 (.load false 1 (t 7)), k 9 (.fadr 1 (t 3)), n (.store 1 (t 9) (t 8))]) (q (r [k 10 (.load true 2 (t 3)), n (.store 2 (t 2) (t 10))]) .ret))))⟩
theorem fit_laws_toBind : Fit Tryz.prog 206 Tryz.f206 mf_laws_toBind := ⟨by kernel_rfl, Tryz.func206, by kernel_rfl, by kernel_rfl, by kernel_rfl, by kernel_rfl⟩
theorem toBind_ct (u : Bind) : Ct Tryz.prog 206 [.agg u.C] (.agg u.C) := by
  refine ct_of_run fit_laws_toBind (by simp [mf_laws_toBind]) (by simp [go_sem]) fun hd => ?_
  simp -implicitDefEqProofs [-List.map_take, -List.map_drop, go_sem, mf_laws_toBind]
  have hy := hy0
  have e1 := @Bind.C.eq_1
  have hdf := @e1
  exact wk0
end Go.Mach
