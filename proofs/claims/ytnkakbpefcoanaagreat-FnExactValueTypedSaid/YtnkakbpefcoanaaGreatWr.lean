import Derived.Test.YtnkakbpefcoanaaGreatMh
import Derived.Test.YtnkakbpefcoanaaGreatWe
import Derived.Test.YtnkakbpefcoanaaGreatWd
/- Values as the laws weigh and compare them, walked. -/
set_option maxHeartbeats 4000000
namespace Go.Mach
open Go Go.Proofs
set_option linter.unusedVariables false
set_option linter.unusedSimpArgs false
attribute [local go_sem] Z.k Z.g Z.n Z.m Z.t Z.i Z.b Z.s Z.c Z.r Z.q run_seq run_skip run_reg run_blk run_exit run_ret run_cond cnd_true cnd_false kx_seq_normal kx_seq_exit kx_seq_ret kx_blk_normal kx_blk_same kx_blk_other kx_blk_ret kx_loop_exit kx_loop_ret kx_done ops_nil ops_plain ops_grd gv_tt gv_ff gv_tf gv_ft gv_tup stp_ok stp_ob stp_hp stp_bad stp_if get_t get_c putO_some putO_none put_same put_ne put_σ put_base withσ_τ withσ_σ withσ_base withσ_put withσ_withσ mk_τ mk_σ mk_base mk_withσ entry_τ entry_σ entry_base calm_nil calm_plain calm_grd cgv_tt cgv_ff cgv_tf cgv_ft cgv_tup cstp_ok cstp_ob cstp_if
attribute [local irreducible] Ct Co Cs
attribute [local go_sem] evalOp notV negV pickV binV intB seqV beqV catV lensV lenlV boxV_eq newV cellsOf cellV fadrV fldV fldC loadV loadC_ag loadC_one plainV isOwn iadrV storeV lk bdV bdL renO renL renV pureV pureL noOwnV noOwnL idxV slsV optI extV resL resV ret1 mmV cnviV cnvsV nilcV eqnV bslV bslGo appV elems okE appE getD_map okO_none okO_some strC intC Sl.I
attribute [local simp] Bind.eqa Use.eqa loadC_str loadC_int Bind.C_len Bind.C_pure Bind.C_noOwn Bind.C_cell Bind.C_bd Bind.C_bdL Bind.C_ren Bind.C_any Bind.C_any0 Bind.C_any1 Bind.C_anyt Bind.C_take Bind.C_load Bind.C_load0 Bind.C_load1 Bind.C_fld Bind.C_box Bind.C_fold Use.C_len Use.C_pure Use.C_noOwn Use.C_cell Use.C_bd Use.C_bdL Use.C_ren Use.C_any Use.C_any0 Use.C_any1 Use.C_anyt Use.C_take Use.C_load Use.C_load0 Use.C_load1 Use.C_fld Use.C_box Use.C_fold LExpr.C_len LExpr.C_pure LExpr.C_noOwn LExpr.C_cell LExpr.C_bd LExpr.C_bdL LExpr.C_ren LExpr.C_any LExpr.C_any0 LExpr.C_any1 LExpr.C_anyt LExpr.C_take LExpr.C_load LExpr.C_load0 LExpr.C_load1 LExpr.C_fld LExpr.C_box LExpr.C_fold LDecl.C_len LDecl.C_pure LDecl.C_noOwn LDecl.C_cell LDecl.C_bd LDecl.C_bdL LDecl.C_ren LDecl.C_any LDecl.C_any0 LDecl.C_any1 LDecl.C_anyt LDecl.C_take LDecl.C_load LDecl.C_load0 LDecl.C_load1 LDecl.C_fld LDecl.C_box LDecl.C_fold LModule.C_len LModule.C_pure LModule.C_noOwn LModule.C_cell LModule.C_bd LModule.C_bdL LModule.C_ren LModule.C_any LModule.C_any0 LModule.C_any1 LModule.C_anyt LModule.C_take LModule.C_load LModule.C_load0 LModule.C_load1 LModule.C_fld LModule.C_box LModule.C_fold

def szValueS_L (l : Sl LExpr) (i : Nat) (a : Nat) : St := ⟨lk [(0, l.I LExpr.C), (1, .int .i64 a), (5, .int .i64 i)], [], []⟩
open Z in
def mf_laws_szValueS : MF := ⟨27, [(.t 4)], q (r [k 4 (.mov (i 0))]) (q (r [m 6 1, m 7 0, k 8 (.lenl (t 7)), k 9 (.bin .sub (t 6) (t 8)), m 1 9]) (q (q (r [m 10 1, k 11 (.bin .lss (t 10) (i 0))]) (.cond (t 11) (q (r [k 4 (.mov (i (-1)))]) .ret) .skip)) (q (q (r [k 5 (.mov (i 0))]) (.blk 0 (.loop (q (q (r [m 12 5, m 13 0, k 14 (.lenl (t 13)), k 15 (.bin .lss (t 12) (t 14))]) (.cond (t 15) .skip (.exit 0))) (q (.blk 1 (q (r [m 18 0, m 19 5, k 20 (.iadr 4 (t 18) (t 19)), k 21 (.load true 4 (t 20)), m 22 1, k 23 (c 13 [t 21, t 22]), m 1 23]) (q (r [m 24 1, k 25 (.bin .lss (t 24) (i 0))]) (.cond (t 25) (q (r [k 4 (.mov (i (-1)))]) .ret) .skip)))) (r [m 16 5, k 17 (.bin .add (t 16) (i 1)), m 5 17])))))) (q (r [m 26 1, m 4 26]) .ret))))⟩
theorem fit_laws_szValueS : Fit Tryz.prog 37 Tryz.f37 mf_laws_szValueS := ⟨by kernel_rfl, Tryz.func37, by kernel_rfl, by kernel_rfl, by kernel_rfl, by kernel_rfl⟩
theorem szValueS_ct (l : Sl LExpr) (left : Nat) (hl : left ≤ 1000000) (hg : ∀ a, a ∈ l.es → ∀ left : Nat, left ≤ 1000000 → Ct Tryz.prog 13 [.agg a.C, .int .i64 left] (.int .i64 (szR left (wExpr a.core)))) : Ct Tryz.prog 37 [l.I LExpr.C, .int .i64 left] (.int .i64 (szR left (l.es.length + wExprs (l.es.map LExpr.core)))) := by
  refine ct_of_run fit_laws_szValueS (by simp [mf_laws_szValueS]) (by simp [go_sem]) fun hd => ?_
  simp -implicitDefEqProofs [-List.map_take, -List.map_drop, go_sem, mf_laws_szValueS]
  have hm : l.es.length ≤ maxLen := sl_deep hd.1
  have hm' := hm
  simp only [maxLen] at hm'
  have hw1 : IntKind.i64.wrap ((left : Int) - (l.es.length : Int)) = (left : Int) - (l.es.length : Int) := wrap_small (by omega) (by omega)
  simp -implicitDefEqProofs [-List.map_take, -List.map_drop, go_sem, hw1]
  refine cnd_split (fun h => ?_) (fun h => ?_)
  · have hp : left < l.es.length + wExprs (l.es.map LExpr.core) := by simp at h; omega
    simp -implicitDefEqProofs [-List.map_take, -List.map_drop, go_sem, h]
    repeat' first
      | ((first | refine gv_split (fun h => ?_) (fun h => ?_) | refine cnd_split (fun h => ?_) (fun h => ?_) | refine cgv_split (fun h => ?_) (fun h => ?_)) <;> (try (have hp := h; simp at hp)) <;> simp -implicitDefEqProofs [-List.map_take, -List.map_drop, go_sem, h])
      | (refine And.intro (by first | omega | (simp only [maxLen]; omega) | (simp_all; done) | (simp_all; omega)) ?_; try simp -implicitDefEqProofs [-List.map_take, -List.map_drop, go_sem])
      | (refine run_dreg' (by decide) ?_; simp -implicitDefEqProofs [-List.map_take, -List.map_drop, go_sem])
      | ((first | refine end_tup _ (by simp) (by simp [go_sem]; rfl) (by simp [go_sem]) ?_); first | (simp [go_sem, *, szR_neg hp]; done) | grind [szR_neg hp] | (simp [go_sem, szR_neg hp]; grind [szR_neg hp]) | (simp_all [go_sem, szR_neg hp]; done) | (simp_all [go_sem, szR_neg hp]; omega))
  · have hq : l.es.length ≤ left := by simp at h; omega
    have hw2 : (left : Int) - (l.es.length : Int) = ((left - l.es.length : Nat) : Int) := by omega
    simp -implicitDefEqProofs [-List.map_take, -List.map_drop, go_sem, h, hw2]
    rw [← szR_add (show ¬ left < l.es.length by omega)]
    refine run_iter (l.es.length) (szValueS_L l) (fun i a => szR a (wExprs ((l.es.drop i).map LExpr.core)) = szR (left - l.es.length) (wExprs (l.es.map LExpr.core)) ∧ a ≤ 1000000) (left - l.es.length) (gh_auto (by simp [go_sem, szValueS_L])) (by first | (simp; done) | (simp []; done) | (simp []; omega) | grind) ?_
    intro i a hi hj
    simp -implicitDefEqProofs [-List.map_take, -List.map_drop, go_sem, szValueS_L]
    refine cnd_split (fun hc => ?_) (fun hc => ?_)
    · have hlt : i < l.es.length := by first | (simpa using hc) | (simp at hc; omega)
      rw [List.drop_eq_getElem_cons hlt] at hj
      simp only [List.map_cons, wExprs] at hj
      simp -implicitDefEqProofs [-List.map_take, -List.map_drop, go_sem, hlt]
      by_cases hb : a < wExpr l.es[i].core
      · have hsz : szR a (wExpr l.es[i].core) = -1 := szR_neg hb
        rw [szR_add_neg hb] at hj
        have c1 := hg l.es[i] (List.getElem_mem hlt) a hj.2
        have hy := And.intro (hlt) (hsz)
        have hdf := hy0
        exact wk1
      · have hsz : szR a (wExpr l.es[i].core) = ((a - wExpr l.es[i].core : Nat) : Int) := szR_pos hb
        rw [← szR_add hb] at hj
        obtain ⟨hj1, hj2⟩ := id hj
        repeat' first
          | ((first | refine gv_split (fun h => ?_) (fun h => ?_) | refine cnd_split (fun h => ?_) (fun h => ?_) | refine cgv_split (fun h => ?_) (fun h => ?_)) <;> (try (have hp := h; simp at hp)) <;> simp -implicitDefEqProofs [-List.map_take, -List.map_drop, go_sem, h, hlt, hsz])
          | (refine And.intro (by first | omega | (simp only [maxLen]; omega) | (simp_all; done) | (simp_all; omega)) ?_; try simp -implicitDefEqProofs [-List.map_take, -List.map_drop, go_sem, hlt, hsz])
          | ((first | refine stp_ct (hg l.es[i] (List.getElem_mem hlt) a hj.2) (by simp [go_sem, hlt, hsz]) ?_ ?_ | refine cstp_ct (hg l.es[i] (List.getElem_mem hlt) a hj.2) (by simp [go_sem, hlt, hsz]) ?_ ?_); (simp [go_sem]); simp -implicitDefEqProofs [-List.map_take, -List.map_drop, go_sem, hlt, hsz])
          | (refine run_dreg' (by decide) ?_; simp -implicitDefEqProofs [-List.map_take, -List.map_drop, go_sem, hlt, hsz])
          | ((first | refine kx_next (a - wExpr l.es[i].core) hlt (gh_auto (by simp [go_sem, szValueS_L, wrap_succ hlt hm, hlt, hsz])) ?_ | refine end_tup _ (by simp) (by simp [go_sem]; rfl) (by simp [go_sem]) ?_); first | (simp [go_sem, *]; done) | grind | (simp [go_sem]; grind) | (simp_all [go_sem]; done) | (simp_all [go_sem]; omega))
    · have hge : l.es.length ≤ i := by first | (simpa using hc) | (simp at hc; omega)
      rw [List.drop_of_length_le hge] at hj
      simp only [List.map_nil, wExprs] at hj
      have hj3 : szR a 0 = a := by rw [szR_pos (by omega)]; simp
      try simp -implicitDefEqProofs [-List.map_take, -List.map_drop, go_sem]
      have hy := hy0
      have hdf := hy0
      exact wk0
open Z in
def mf_laws_szValue : MF := ⟨19, [(.t 4)], q (r [k 2 (.box 30 (t 0)), k 4 (.mov (i 0))]) (q (r [m 5 1, k 6 (.fadr 2 (t 2)), k 7 (.load false 1 (t 6)), k 8 (.lens (t 7)), k 9 (.bin .sub (t 5) (t 8)), m 1 9]) (q (q (r [m 10 1, k 11 (.bin .lss (t 10) (i 0))]) (.cond (t 11) (q (r [k 4 (.mov (i (-1)))]) .ret) .skip)) (q (r [k 12 (.fadr 3 (t 2)), k 13 (.load false 1 (t 12)), m 14 1, k 15 (c 37 [t 13, t 14]), m 1 15]) (q (q (r [m 16 1, k 17 (.bin .lss (t 16) (i 0))]) (.cond (t 17) (q (r [k 4 (.mov (i (-1)))]) .ret) .skip)) (q (r [m 18 1, m 4 18]) .ret)))))⟩
theorem fit_laws_szValue : Fit Tryz.prog 13 Tryz.f13 mf_laws_szValue := ⟨by kernel_rfl, Tryz.func13, by kernel_rfl, by kernel_rfl, by kernel_rfl, by kernel_rfl⟩
theorem szValue_ct (u : LExpr) (left : Nat) (hl : left ≤ 1000000) : Ct Tryz.prog 13 [.agg u.C, .int .i64 left] (.int .i64 (szR left (wExpr u.core))) := by
  refine ct_of_run fit_laws_szValue (by simp [mf_laws_szValue]) (by simp [go_sem]) fun hd => ?_
  simp -implicitDefEqProofs [-List.map_take, -List.map_drop, go_sem, mf_laws_szValue]
  have hd1 : u.text.length ≤ maxLen := by have := hd.1; rw [LExpr.C_eq] at this; exact this.2.2.1
  simp only [maxLen] at hd1
  by_cases hb0 : left < u.text.length
  · have hw0 : IntKind.i64.wrap (((left : Nat) : Int) - ((u.text.length : Nat) : Int)) = ((left : Nat) : Int) - ((u.text.length : Nat) : Int) := wrap_small (by omega) (by omega)
    have hbad : szR left (wExpr u.core) = -1 := szR_neg (by simp only [wExpr_eq, LExpr.core_text, LExpr.core_kids, List.length_map]; omega)
    have hc0 : decide (((left : Nat) : Int) - ((u.text.length : Nat) : Int) < 0) = true := by first | (simp; done) | (simp; omega)
    simp -implicitDefEqProofs [-List.map_take, -List.map_drop, go_sem, hw0, hc0]
    have hy := hy0
    have hdf := hy0
    exact wk0
  · obtain ⟨left1, hleft1⟩ : ∃ n, n = left - u.text.length := ⟨_, rfl⟩
    have hw0 : IntKind.i64.wrap (((left : Nat) : Int) - ((u.text.length : Nat) : Int)) = ((left1 : Nat) : Int) := by rw [wrap_small (by omega) (by omega)]; omega
    have hc0 : decide (((left1 : Nat) : Int) < 0) = false := by first | (simp; done) | (simp; omega)
    simp -implicitDefEqProofs [-List.map_take, -List.map_drop, go_sem, hw0, hc0]
    by_cases hb1 : left1 < (u.kids.length + wExprs (u.kids.map LExpr.core))
    · have hs1 : szR (left1) ((u.kids.length + wExprs (u.kids.map LExpr.core))) = -1 := szR_neg hb1
      have hbad : szR left (wExpr u.core) = -1 := szR_neg (by simp only [wExpr_eq, LExpr.core_text, LExpr.core_kids, List.length_map]; omega)
      have ih1 := szValueS_ct ⟨u.kids, u.sp, u.lim⟩ (left1) (by omega) (fun a ha l hl => szValue_ct a l hl)
      rw [hs1] at ih1
      have c1 := ih1
      have hy := hy0
      have hdf := hy0
      exact wk1
    · have hs1 : szR (left1) ((u.kids.length + wExprs (u.kids.map LExpr.core))) = (((left1 - (u.kids.length + wExprs (u.kids.map LExpr.core)) : Nat)) : Int) := szR_pos hb1
      obtain ⟨left2, hleft2⟩ : ∃ n, n = left1 - (u.kids.length + wExprs (u.kids.map LExpr.core)) := ⟨_, rfl⟩
      rw [← hleft2] at hs1
      have ih1 := szValueS_ct ⟨u.kids, u.sp, u.lim⟩ (left1) (by omega) (fun a ha l hl => szValue_ct a l hl)
      rw [hs1] at ih1
      refine stp_ct ih1 (by simp [go_sem]) (by simp [go_sem]) ?_
      have hc1 : decide (((left2 : Nat) : Int) < 0) = false := by first | (simp; done) | (simp; omega)
      simp -implicitDefEqProofs [-List.map_take, -List.map_drop, go_sem, hc1]
      have hfin : (((left2) : Nat) : Int) = szR left (wExpr u.core) := by rw [szR_pos (by simp only [wExpr_eq, LExpr.core_text, LExpr.core_kids, List.length_map]; omega)]; simp only [wExpr_eq, LExpr.core_text, LExpr.core_kids, List.length_map]; omega
      have hy := hy0
      have hdf := hy0
      exact wk0
termination_by SizeOf.sizeOf u
decreasing_by all_goals exact LExpr.kid_lt ha
def eqValueS_L (x y : Sl LExpr) (i : Nat) (_ : Unit) : St := ⟨lk [(0, x.I LExpr.C), (1, y.I LExpr.C), (5, .int .i64 i)], [], []⟩
open Z in
def mf_laws_eqValueS : MF := ⟨27, [(.t 4)], q (r [k 4 (.mov (b false))]) (q (q (r [m 6 0, k 7 (.lenl (t 6)), m 8 1, k 9 (.lenl (t 8)), k 10 (.bin .neq (t 7) (t 9))]) (.cond (t 10) (q (r [k 4 (.mov (b false))]) .ret) .skip)) (q (q (r [k 5 (.mov (i 0))]) (.blk 0 (.loop (q (q (r [m 11 5, m 12 0, k 13 (.lenl (t 12)), k 14 (.bin .lss (t 11) (t 13))]) (.cond (t 14) .skip (.exit 0))) (q (.blk 1 (q (.dreg [(m 17 0, []), (m 18 5, []), (k 19 (.iadr 4 (t 17) (t 18)), [0, 1]), (k 20 (.load true 4 (t 19)), [2]), (m 21 1, []), (m 22 5, []), (k 23 (.iadr 4 (t 21) (t 22)), [4, 5]), (k 24 (.load true 4 (t 23)), [6]), (k 25 (c 151 [t 20, t 24]), [3, 7]), (k 26 (.not (t 25)), [8])]) (.cond (t 26) (q (r [k 4 (.mov (b false))]) .ret) .skip))) (r [m 15 5, k 16 (.bin .add (t 15) (i 1)), m 5 16])))))) (q (r [k 4 (.mov (b true))]) .ret)))⟩
theorem fit_laws_eqValueS : Fit Tryz.prog 95 Tryz.f95 mf_laws_eqValueS := ⟨by kernel_rfl, Tryz.func95, by kernel_rfl, by kernel_rfl, by kernel_rfl, by kernel_rfl⟩
theorem eqValueS_ct (x y : Sl LExpr) (p : LExpr → LExpr → Bool) (hg : ∀ a, a ∈ x.es → ∀ b, Ct Tryz.prog 151 [.agg a.C, .agg b.C] (.bool (p a b))) : Ct Tryz.prog 95 [x.I LExpr.C, y.I LExpr.C] (.bool (all2 p x.es y.es)) := by
  refine ct_of_run fit_laws_eqValueS (by simp [mf_laws_eqValueS]) (by simp [go_sem]) fun hd => ?_
  simp -implicitDefEqProofs [-List.map_take, -List.map_drop, go_sem, mf_laws_eqValueS]
  have hm : x.es.length ≤ maxLen := sl_deep hd.1
  have hne := all2_ne p x.es y.es
  repeat' first
    | ((first | refine gv_split (fun h => ?_) (fun h => ?_) | refine cnd_split (fun h => ?_) (fun h => ?_) | refine cgv_split (fun h => ?_) (fun h => ?_)) <;> (try (have hp := h; simp at hp)) <;> simp -implicitDefEqProofs [-List.map_take, -List.map_drop, go_sem, h])
    | (refine And.intro (by first | omega | (simp only [maxLen]; omega) | (simp_all; done) | (simp_all; omega)) ?_; try simp -implicitDefEqProofs [-List.map_take, -List.map_drop, go_sem])
    | (refine run_dreg' (by decide) ?_; simp -implicitDefEqProofs [-List.map_take, -List.map_drop, go_sem])
    | ((first | refine end_tup _ (by simp) (by simp [go_sem]; rfl) (by simp [go_sem]) ?_); first | (simp [go_sem, *]; done) | grind | (simp [go_sem]; grind) | (simp_all [go_sem]; done) | (simp_all [go_sem]; omega))
  have hlen : x.es.length = y.es.length := by omega
  refine run_iter (x.es.length) (eqValueS_L x y) (fun i a => all2 p (x.es.drop i) (y.es.drop i) = all2 p x.es y.es) () (gh_auto (by simp [go_sem, eqValueS_L])) (by first | (simp; done) | (simp []; done) | (simp []; omega) | grind) ?_
  intro i a hi hj
  simp -implicitDefEqProofs [-List.map_take, -List.map_drop, go_sem, eqValueS_L]
  refine cnd_split (fun hc => ?_) (fun hc => ?_)
  · have hlt : i < x.es.length := by first | (simpa using hc) | (simp at hc; omega)
    rw [List.drop_eq_getElem_cons (l := x.es) (by omega)] at hj
    have hlt_1 : i < y.es.length := by omega
    rw [List.drop_eq_getElem_cons (l := y.es) (by omega)] at hj
    simp only [List.map_cons, all2] at hj
    simp -implicitDefEqProofs [-List.map_take, -List.map_drop, go_sem, hlt, hlt_1]
    have c1 := hg x.es[i] (List.getElem_mem hlt) y.es[i]
    have hy := And.intro (hlt) (hlt_1)
    have hdf := hy0
    have eL := @eqValueS_L.eq_1
    have hm0 := hm
    have hlt0 := hlt
    exact wk1n
  · have hge : x.es.length ≤ i := by first | (simpa using hc) | (simp at hc; omega)
    rw [List.drop_of_length_le (l := x.es) (by omega)] at hj
    rw [List.drop_of_length_le (l := y.es) (by omega)] at hj
    simp only [List.map_nil, all2] at hj
    try simp -implicitDefEqProofs [-List.map_take, -List.map_drop, go_sem]
    have hy := hy0
    have hdf := hy0
    exact wk0
open Z in
def mf_laws_eqValue : MF := ⟨26, [(.t 4)], q (r [k 2 (.box 35 (t 0)), k 3 (.box 35 (t 1)), k 4 (.mov (b false))]) (q (q (r [k 5 (.fadr 0 (t 2)), k 6 (.load false 1 (t 5)), k 7 (.fadr 0 (t 3)), k 8 (.load false 1 (t 7)), k 9 (.bin .neq (t 6) (t 8))]) (.cond (t 9) (q (r [k 4 (.mov (b false))]) .ret) .skip)) (q (q (r [k 10 (.fadr 1 (t 2)), k 11 (.load false 1 (t 10)), k 12 (.fadr 1 (t 3)), k 13 (.load false 1 (t 12)), k 14 (.bin .neq (t 11) (t 13))]) (.cond (t 14) (q (r [k 4 (.mov (b false))]) .ret) .skip)) (q (q (r [k 15 (.fadr 2 (t 2)), k 16 (.load false 1 (t 15)), k 17 (.fadr 2 (t 3)), k 18 (.load false 1 (t 17)), k 19 (.seq true (t 16) (t 18))]) (.cond (t 19) (q (r [k 4 (.mov (b false))]) .ret) .skip)) (q (q (r [k 20 (.fadr 3 (t 2)), k 21 (.load false 1 (t 20)), k 22 (.fadr 3 (t 3)), k 23 (.load false 1 (t 22)), k 24 (c 95 [t 21, t 23]), k 25 (.not (t 24))]) (.cond (t 25) (q (r [k 4 (.mov (b false))]) .ret) .skip)) (q (r [k 4 (.mov (b true))]) .ret)))))⟩
theorem fit_laws_eqValue : Fit Tryz.prog 151 Tryz.f151 mf_laws_eqValue := ⟨by kernel_rfl, Tryz.func151, by kernel_rfl, by kernel_rfl, by kernel_rfl, by kernel_rfl⟩
theorem eqValue_ct (x y : LExpr) : Ct Tryz.prog 151 [.agg x.C, .agg y.C] (.bool (Expr.same x.core y.core)) := by
  have h1 := Expr.same_eq x.core y.core
  rw [LExpr.core_kind, LExpr.core_num, LExpr.core_text, LExpr.core_kids, LExpr.core_kind, LExpr.core_num, LExpr.core_text, LExpr.core_kids, ← all2_same'] at h1
  have h2 := eqValueS_ct ⟨x.kids, x.sp, x.lim⟩ ⟨y.kids, y.sp, y.lim⟩ (fun a b => Expr.same a.core b.core) fun a ha b => eqValue_ct a b
  rw [h1]
  clear h1
  refine ct_of_run fit_laws_eqValue (by simp [mf_laws_eqValue]) (by simp [go_sem]) fun hd => ?_
  simp -implicitDefEqProofs [-List.map_take, -List.map_drop, go_sem, mf_laws_eqValue]
  have c1 := h2
  have hy := hy0
  have hdf := hy0
  exact wk1
termination_by SizeOf.sizeOf x
decreasing_by exact LExpr.kid_lt ha
def intactValueS_L (Y : PV) (n : Int) (i : Nat) (_ : Unit) : St := ⟨lk [(0, Y), (1, Y), (5, .int .i64 n), (6, .int .i64 i)], [], []⟩
open Z in
def mf_laws_intactValueS : MF := ⟨45, [(.t 4)], q (r [k 4 (.mov (b false))]) (q (r [m 7 1, k 8 (.lenl (t 7)), m 9 1, k 10 (.lenl (t 9)), k 11 (c 30 [t 10]), k 12 (.bin .add (t 8) (t 11)), m 5 12]) (q (q (r [m 13 0, k 14 (.lenl (t 13)), m 15 1, k 16 (.lenl (t 15)), k 17 (.bin .neq (t 14) (t 16))]) (.cond (t 17) (q (r [k 4 (.mov (b false))]) .ret) .skip)) (q (q (r [k 6 (.mov (i 0))]) (.blk 0 (.loop (q (q (r [m 18 6, m 19 1, k 20 (.lenl (t 19)), k 21 (.bin .lss (t 18) (t 20))]) (.cond (t 21) .skip (.exit 0))) (q (.blk 1 (q (.dreg [(m 24 0, []), (m 25 6, []), (k 26 (.iadr 4 (t 24) (t 25)), [0, 1]), (k 27 (.load true 4 (t 26)), [2]), (m 28 1, []), (m 29 6, []), (k 30 (.iadr 4 (t 28) (t 29)), [4, 5]), (k 31 (.load true 4 (t 30)), [6]), (k 32 (c 17 [t 27, t 31]), [3, 7]), (k 33 (.not (t 32)), [8])]) (.cond (t 33) (q (r [k 4 (.mov (b false))]) .ret) .skip))) (r [m 22 6, k 23 (.bin .add (t 22) (i 1)), m 6 23])))))) (q (.dreg [(m 34 0, []), (m 35 1, []), (k 36 (.lenl (t 35)), [1]), (m 37 5, []), (k 38 (.sl 4 (t 34) (some (t 36)) (some (t 37)) none), [0, 2, 3]), (m 39 1, []), (m 40 1, []), (k 41 (.lenl (t 40)), [6]), (m 42 5, []), (k 43 (.sl 4 (t 39) (some (t 41)) (some (t 42)) none), [5, 7, 8]), (k 44 (c 95 [t 38, t 43]), [4, 9]), (m 4 44, [10, 10, 0, 1, 2, 3, 4, 5, 6, 7, 8, 9, 10])]) .ret))))⟩
theorem fit_laws_intactValueS : Fit Tryz.prog 45 Tryz.f45 mf_laws_intactValueS := ⟨by kernel_rfl, Tryz.func45, by kernel_rfl, by kernel_rfl, by kernel_rfl, by kernel_rfl⟩
theorem intactValueS_ct (es : List LExpr) (hl : es.length ≤ 1000000) (hg : ∀ a, a ∈ es → Ct Tryz.prog 17 [.agg a.C, .agg a.C] (.bool true)) (q : LExpr → LExpr → Bool) (hq : ∀ a, q a a = true) (hqc : ∀ a b, Ct Tryz.prog 151 [.agg a.C, .agg b.C] (.bool (q a b))) :
    Ct Tryz.prog 45 [(toS LExpr.C fillExpr false es).I LExpr.C, (toS LExpr.C fillExpr false es).I LExpr.C] (.bool true) := by
  have hY : (toS LExpr.C fillExpr false es).I LExpr.C = .imm (es.map LExpr.C) ((List.replicate (room es.length) fillExpr).map LExpr.C) true := by simp [toS, Sl.I]
  rw [hY]
  have hr := room_le es.length
  have hrm := room_ct es.length
  have hm : es.length ≤ maxLen := Nat.le_trans hl (by decide)
  have hw : IntKind.i64.wrap ((es.length : Int) + (room es.length : Int)) = (es.length : Int) + (room es.length : Int) := wrap_small (by omega) (by omega)
  have hwsl := fun (σ : Heap) => slV_behind (σ := σ) (k := .i64) (f := LExpr.C) (l := es) (s := List.replicate (room es.length) fillExpr) (lim := true) (m := (es.length : Int) + (room es.length : Int)) (n := 4) (by simp) LExpr.C_len
  have h1 := eqValueS_ct ⟨List.replicate (room es.length) fillExpr, [], true⟩ ⟨List.replicate (room es.length) fillExpr, [], true⟩ q (fun a _ b => hqc a b)
  rw [all2_refl hq] at h1
  simp only [List.map_replicate] at hwsl
  simp only [Sl.I, List.map_replicate] at h1
  refine ct_of_run fit_laws_intactValueS (by simp [mf_laws_intactValueS]) (by simp [go_sem]) fun hd => ?_
  simp -implicitDefEqProofs [-List.map_take, -List.map_drop, go_sem, mf_laws_intactValueS]
  repeat' first
    | ((first | refine gv_split (fun h => ?_) (fun h => ?_) | refine cnd_split (fun h => ?_) (fun h => ?_) | refine cgv_split (fun h => ?_) (fun h => ?_)) <;> (try (have hp := h; simp at hp)) <;> simp -implicitDefEqProofs [-List.map_take, -List.map_drop, go_sem, h, hw])
    | (refine And.intro (by first | omega | (simp only [maxLen]; omega) | (simp_all; done) | (simp_all; omega)) ?_; try simp -implicitDefEqProofs [-List.map_take, -List.map_drop, go_sem, hw])
    | ((first | refine stp_ct (hrm) (by simp [go_sem, hw]) ?_ ?_ | refine cstp_ct (hrm) (by simp [go_sem, hw]) ?_ ?_); (simp [go_sem]); simp -implicitDefEqProofs [-List.map_take, -List.map_drop, go_sem, hw])
    | (refine run_dreg' (by decide) ?_; simp -implicitDefEqProofs [-List.map_take, -List.map_drop, go_sem, hw])
    | ((first | refine end_tup _ (by simp) (by simp [go_sem]; rfl) (by simp [go_sem]) ?_); first | (simp [go_sem, *]; done) | grind | (simp [go_sem]; grind) | (simp_all [go_sem]; done) | (simp_all [go_sem]; omega))
  refine run_iter (es.length) (intactValueS_L (.imm (es.map LExpr.C) ((List.replicate (room es.length) fillExpr).map LExpr.C) true) ((es.length : Int) + (room es.length : Int))) (fun i a => True) () (gh_auto (by simp [go_sem, intactValueS_L, hw])) (by first | (simp; done) | (simp []; done) | (simp []; omega) | grind) ?_
  intro i a hi hj
  simp -implicitDefEqProofs [-List.map_take, -List.map_drop, go_sem, intactValueS_L, hw]
  refine cnd_split (fun hc => ?_) (fun hc => ?_)
  · have hlt : i < es.length := by first | (simpa using hc) | (simp at hc; omega)
    simp -implicitDefEqProofs [-List.map_take, -List.map_drop, go_sem, hlt, hw]
    have hgi := hg es[i] (List.getElem_mem hlt)
    have c1 := hgi
    have hy := hlt
    have hdf := hy0
    have eL := @intactValueS_L.eq_1
    have hm0 := hm
    have hlt0 := hlt
    exact wk1n
  · have hge : es.length ≤ i := by first | (simpa using hc) | (simp at hc; omega)
    try simp -implicitDefEqProofs [-List.map_take, -List.map_drop, go_sem, hw]
    have c1 := h1
    have hy := hwsl
    have hdf := hy0
    exact wk1
open Z in
def mf_laws_intactValue : MF := ⟨26, [(.t 4)], q (r [k 2 (.box 35 (t 0)), k 3 (.box 35 (t 1)), k 4 (.mov (b false))]) (q (q (r [k 5 (.fadr 0 (t 2)), k 6 (.load false 1 (t 5)), k 7 (.fadr 0 (t 3)), k 8 (.load false 1 (t 7)), k 9 (.bin .neq (t 6) (t 8))]) (.cond (t 9) (q (r [k 4 (.mov (b false))]) .ret) .skip)) (q (q (r [k 10 (.fadr 1 (t 2)), k 11 (.load false 1 (t 10)), k 12 (.fadr 1 (t 3)), k 13 (.load false 1 (t 12)), k 14 (.bin .neq (t 11) (t 13))]) (.cond (t 14) (q (r [k 4 (.mov (b false))]) .ret) .skip)) (q (q (r [k 15 (.fadr 2 (t 2)), k 16 (.load false 1 (t 15)), k 17 (.fadr 2 (t 3)), k 18 (.load false 1 (t 17)), k 19 (.seq true (t 16) (t 18))]) (.cond (t 19) (q (r [k 4 (.mov (b false))]) .ret) .skip)) (q (q (r [k 20 (.fadr 3 (t 2)), k 21 (.load false 1 (t 20)), k 22 (.fadr 3 (t 3)), k 23 (.load false 1 (t 22)), k 24 (c 45 [t 21, t 23]), k 25 (.not (t 24))]) (.cond (t 25) (q (r [k 4 (.mov (b false))]) .ret) .skip)) (q (r [k 4 (.mov (b true))]) .ret)))))⟩
theorem fit_laws_intactValue : Fit Tryz.prog 17 Tryz.f17 mf_laws_intactValue := ⟨by kernel_rfl, Tryz.func17, by kernel_rfl, by kernel_rfl, by kernel_rfl, by kernel_rfl⟩
theorem intactValue_ct (e : LExpr) (hs : e.core.Sm) : Ct Tryz.prog 17 [.agg (toE false e).C, .agg (toE false e).C] (.bool true) := by
  have hl : (e.kids.map (toE false)).length ≤ 1000000 := by have := hs; rw [Expr.Sm_eq] at this; simpa using this.2.1
  have h1 := intactValueS_ct (e.kids.map (toE false)) hl (fun a ha => by
    obtain ⟨x, hx, rfl⟩ := List.mem_map.1 ha
    exact intactValue_ct x (by obtain ⟨i, hi, rfl⟩ := List.getElem_of_mem hx; exact Expr.Sm_kid hs hi)) (fun a b => Expr.same a.core b.core) (fun a => same_refl _) eqValue_ct
  rw [← toE_kidsI] at h1
  refine ct_of_run fit_laws_intactValue (by simp [mf_laws_intactValue]) (by simp [go_sem]) fun hd => ?_
  simp -implicitDefEqProofs [-List.map_take, -List.map_drop, go_sem, mf_laws_intactValue]
  have c1 := h1
  have hy := hy0
  have hdf := hy0
  exact wk1
termination_by SizeOf.sizeOf e
decreasing_by exact LExpr.kid_lt hx

attribute [local go_sem] buildV fillC mksV
open Z in
def mf_laws_fillerValue : MF := ⟨3, [(.cell 0 4 true)], q (r [k 0 (.alloc 35 [.int .i64 0, .int .i64 0, .str [], .imm [] [] true])]) (q (r [k 1 (.bsl 35 4 0 [.int .i64 0, .int .i64 0, .str [], .imm [] [] true] []), k 2 (.build [.int .i64 0, .int .i64 0, .str [], .imm [] [] true] [(0, (1, i (-7000000000000000101))), (1, (1, i (-7000000000000000101))), (2, (1, s [126, 115, 112, 97, 114, 101, 126])), (3, (1, t 1))]), n (.store 4 (t 0) (t 2))]) .ret)⟩
theorem fit_laws_fillerValue : Fit Tryz.prog 88 Tryz.f88 mf_laws_fillerValue := ⟨by kernel_rfl, Tryz.func88, by kernel_rfl, by kernel_rfl, by kernel_rfl, by kernel_rfl⟩
theorem fillValue_ct : Ct Tryz.prog 88 [] (.agg fillExpr.C) := by
  refine ct_of_run fit_laws_fillerValue (by simp [mf_laws_fillerValue]) (by simp [go_sem]) fun hd => ?_
  simp -implicitDefEqProofs [-List.map_take, -List.map_drop, go_sem, mf_laws_fillerValue]
  refine end_snapG 3 _ _ (by simp) (by simp [go_sem]; rfl) (by simp [go_sem, snapV, mapO, snapE, snapSp]; rfl) ?_
  rfl
def toValueS_L1 (l : Sl LExpr) (bare : Bool) (A : List (List PV)) (c : Nat) (i : Nat) (_ : Unit) : St := ⟨lk [(0, l.I LExpr.C), (1, .bool bare), (5, .ref 0 c 0 c (some c)), (6, .int .i64 i)], [some ⟨bldE A c [.int .i64 0, .int .i64 0, .str [], .imm [] [] true] i, 4, 35, true, false⟩], []⟩
def toValueS_L2 (l : Sl LExpr) (A : List (List PV)) (c r : Nat) (j : Nat) (_ : Unit) : St := ⟨lk [(0, l.I LExpr.C), (5, .ref 0 c 0 c (some c)), (7, .int .i64 ((l.es.length : Int) + (j : Int)))], [some ⟨bldF A r [.int .i64 0, .int .i64 0, .str [], .imm [] [] true] fillExpr.C j, 4, 35, true, false⟩], []⟩
open Z in
def mf_laws_toValueS : MF := ⟨52, [(.t 4)], q (r [k 4 (.mov (.c (.imm [] [] true)))]) (q (q (r [m 8 1, m 9 8, g 10 (.mov (t 0)) 9 true, g 11 (.lenl (t 10)) 9 true, g 12 (.bin .eql (t 11) (i 0)) 9 true, k 13 (.pick (t 9) (t 12) (b false))]) (.cond (t 13) (q (r [k 4 (.mov (.c (.imm [] [] true)))]) .ret) .skip)) (q (r [m 14 0, k 15 (.lenl (t 14)), m 16 0, k 17 (.lenl (t 16)), k 18 (c 30 [t 17]), k 19 (.bin .add (t 15) (t 18)), k 20 (.mks 35 4 56 [.int .i64 0, .int .i64 0, .str [], .imm [] [] true] (t 19) (t 19)), m 5 20]) (q (q (r [k 6 (.mov (i 0))]) (.blk 0 (.loop (q (q (r [m 21 6, m 22 0, k 23 (.lenl (t 22)), k 24 (.bin .lss (t 21) (t 23))]) (.cond (t 24) .skip (.exit 0))) (q (.blk 1 (r [m 27 5, m 28 6, m 29 0, m 30 6, k 31 (.iadr 4 (t 29) (t 30)), k 32 (.load true 4 (t 31)), m 33 1, k 34 (c 15 [t 32, t 33]), k 35 (.iadr 4 (t 27) (t 28)), n (.store 4 (t 35) (t 34))])) (r [m 25 6, k 26 (.bin .add (t 25) (i 1)), m 6 26])))))) (q (q (r [m 36 0, k 37 (.lenl (t 36)), m 7 37]) (.blk 2 (.loop (q (q (r [m 38 7, m 39 5, k 40 (.lenl (t 39)), k 41 (.bin .lss (t 38) (t 40))]) (.cond (t 41) .skip (.exit 2))) (q (.blk 3 (r [m 44 5, m 45 7, k 46 (c 88 []), k 47 (.iadr 4 (t 44) (t 45)), n (.store 4 (t 47) (t 46))])) (r [m 42 7, k 43 (.bin .add (t 42) (i 1)), m 7 43])))))) (q (r [m 48 5, m 49 0, k 50 (.lenl (t 49)), k 51 (.sl 4 (t 48) none (some (t 50)) none), m 4 51]) .ret)))))⟩
theorem fit_laws_toValueS : Fit Tryz.prog 41 Tryz.f41 mf_laws_toValueS := ⟨by kernel_rfl, Tryz.func41, by kernel_rfl, by kernel_rfl, by kernel_rfl, by kernel_rfl⟩
theorem toValueS_ct (l : Sl LExpr) (bare : Bool) (hl : l.es.length ≤ 1000000) (tf : LExpr → LExpr) (hg : ∀ a, a ∈ l.es → Ct Tryz.prog 15 [.agg a.C, .bool bare] (.agg (tf a).C)) :
    Ct Tryz.prog 41 [l.I LExpr.C, .bool bare] ((toS LExpr.C fillExpr bare (l.es.map tf)).I LExpr.C) := by
  obtain ⟨Y, hY⟩ : ∃ Y, Y = (toS LExpr.C fillExpr bare (l.es.map tf)).I LExpr.C := ⟨_, rfl⟩
  rw [← hY]
  refine ct_of_run fit_laws_toValueS (by simp [mf_laws_toValueS]) (by simp [go_sem]) fun hd => ?_
  simp -implicitDefEqProofs [-List.map_take, -List.map_drop, go_sem, mf_laws_toValueS]
  have hm : l.es.length ≤ maxLen := sl_deep hd.1
  have hA : ∀ e, e ∈ l.es.map (fun x => (tf x).C) → pureL e = true := by
    intro e he
    obtain ⟨x, _, rfl⟩ := List.mem_map.1 he
    exact LExpr.C_pure _
  obtain ⟨A, hAe⟩ : ∃ A, A = l.es.map (fun x => (tf x).C) := ⟨_, rfl⟩
  have hAl : A.length = l.es.length := by rw [hAe, List.length_map]
  have hAg : ∀ (i : Nat) (h : i < l.es.length), A[i]'(by omega) = (tf l.es[i]).C := fun i h => by subst hAe; simp
  rw [← hAe] at hA
  have hrl := room_le l.es.length
  have hcase : (bare && l.es.length == 0) = true → Y = .imm [] [] true := fun h => by
    rw [hY]; simp only [toS, List.length_map, h, if_true, Sl.I, List.map_nil]
  have hcase2 : (bare && l.es.length == 0) = false → Y = .imm A (List.replicate (room l.es.length) fillExpr.C) true := fun h => by
    rw [hY]
    simp only [toS, List.length_map, h, Bool.false_eq_true, if_false, Sl.I, List.map_map, hAe, List.map_replicate]
    rfl
  cases hb : (bare && l.es.length == 0)
  · have h1 := hcase2 hb
    obtain ⟨r, hr⟩ : ∃ r, r = room l.es.length := ⟨_, rfl⟩
    obtain ⟨c, hc⟩ : ∃ c, c = l.es.length + r := ⟨_, rfl⟩
    rw [← hr] at hrl h1
    subst h1
    clear hY hcase hcase2
    have hw0 : IntKind.i64.wrap ((l.es.length : Int) + (r : Int)) = (c : Int) := by rw [wrap_small (by omega) (by omega)]; omega
    have hrm := room_ct l.es.length
    rw [← hr] at hrm
    have hz : pureL [.int .i64 0, .int .i64 0, .str [], .imm [] [] true] = true := rfl
    have hfp : pureL fillExpr.C = true := LExpr.C_pure _
    have hbnd : c * 1000 ≤ 140737488355328 := by omega
    cases bare
    · try simp only [Bool.true_and, beq_eq_false_iff_ne, ne_eq] at hb
      have hbz : ((l.es.length : Int) == 0) = decide (l.es.length = 0) := by rw [Bool.eq_iff_iff]; simp
      simp -implicitDefEqProofs [-List.map_take, -List.map_drop, go_sem]
      repeat' first
        | ((first | refine gv_split (fun h => ?_) (fun h => ?_) | refine cnd_split (fun h => ?_) (fun h => ?_) | refine cgv_split (fun h => ?_) (fun h => ?_)) <;> (try (have hp := h; simp at hp)) <;> simp -implicitDefEqProofs [-List.map_take, -List.map_drop, go_sem, h, hw0, hb, hbz])
        | (refine And.intro (by first | omega | (simp only [maxLen]; omega) | (simp_all; done) | (simp_all; omega)) ?_; try simp -implicitDefEqProofs [-List.map_take, -List.map_drop, go_sem, hw0, hb, hbz])
        | ((first | refine stp_ct (hrm) (by simp [go_sem, hw0, hb, hbz]) ?_ ?_ | refine cstp_ct (hrm) (by simp [go_sem, hw0, hb, hbz]) ?_ ?_); (simp [go_sem]); simp -implicitDefEqProofs [-List.map_take, -List.map_drop, go_sem, hw0, hb, hbz])
        | (refine run_dreg' (by decide) ?_; simp -implicitDefEqProofs [-List.map_take, -List.map_drop, go_sem, hw0, hb, hbz])
        | ((first | refine end_tup _ (by simp) (by simp [go_sem]; rfl) (by simp [go_sem]) ?_); first | (simp [go_sem, *]; done) | grind | (simp [go_sem]; grind) | (simp_all [go_sem]; done) | (simp_all [go_sem]; omega))
      refine run_iter (l.es.length) (toValueS_L1 l false A c) (fun i a => True) () (gh_auto (by simp [go_sem, toValueS_L1, bldE_zero])) (by first | (simp; done) | (simp []; done) | (simp []; omega) | grind) ?_
      intro i a hi hj
      simp -implicitDefEqProofs [-List.map_take, -List.map_drop, go_sem, toValueS_L1, bldE_zero]
      refine cnd_split (fun hc => ?_) (fun hc => ?_)
      · have hlt : i < l.es.length := by first | (simpa using hc) | (simp at hc; omega)
        simp -implicitDefEqProofs [-List.map_take, -List.map_drop, go_sem, hlt, bldE_zero]
        have hwl : (bldE A c [.int .i64 0, .int .i64 0, .str [], .imm [] [] true] i).length = c := bldE_len (by omega) (by omega)
        have hwg : (bldE A c [.int .i64 0, .int .i64 0, .str [], .imm [] [] true] i)[i]? = some [.int .i64 0, .int .i64 0, .str [], .imm [] [] true] := bldE_get (by omega) (by omega)
        have hws : (bldE A c [.int .i64 0, .int .i64 0, .str [], .imm [] [] true] i).set i (tf l.es[i]).C = bldE A c [.int .i64 0, .int .i64 0, .str [], .imm [] [] true] (i + 1) := by rw [← hAg i hlt]; exact bldE_set (by omega) (by omega)
        have hwb : ∀ m, ((bldE A c [.int .i64 0, .int .i64 0, .str [], .imm [] [] true] (i + 1)).all fun e => e.all (bdV m)) = true := bld_bd (bldE_pure hA hz)
        have hlc : (i : Int) < (c : Int) := by omega
        have hgi := hg l.es[i] (List.getElem_mem hlt)
        have c1 := hgi
        have hy := And.intro (hlt) (And.intro (hwl) (And.intro (hlc) (And.intro (hwg) (And.intro (hws) (hwb)))))
        have hdf := hy0
        have eL := @toValueS_L1.eq_1
        have hm0 := hm
        have hlt0 := hlt
        exact wk1n
      · have hge : l.es.length ≤ i := by first | (simpa using hc) | (simp at hc; omega)
        try simp -implicitDefEqProofs [-List.map_take, -List.map_drop, go_sem, bldE_zero]
        obtain rfl : i = l.es.length := by omega
        have hwf0 : bldF A r [.int .i64 0, .int .i64 0, .str [], .imm [] [] true] fillExpr.C 0 = bldE A c [.int .i64 0, .int .i64 0, .str [], .imm [] [] true] l.es.length := by rw [← hAl]; exact bldF_zero (by omega)
        have hwb : ∀ m, ((bldE A c [.int .i64 0, .int .i64 0, .str [], .imm [] [] true] l.es.length).all fun e => e.all (bdV m)) = true := bld_bd (bldE_pure hA hz)
        refine run_iter (r) (toValueS_L2 l A c r) (fun i2 a2 => True) () (gh_auto (by simp [go_sem, toValueS_L2, hwf0, hwb])) (by first | (simp; done) | (simp []; done) | (simp []; omega) | grind) ?_
        intro i2 a2 hi2 hj2
        simp -implicitDefEqProofs [-List.map_take, -List.map_drop, go_sem, toValueS_L2, hwf0, hwb]
        refine cnd_split (fun hc2 => ?_) (fun hc2 => ?_)
        · have hlt2 : i2 < r := by first | (simpa using hc2) | (simp at hc2; omega)
          simp -implicitDefEqProofs [-List.map_take, -List.map_drop, go_sem, hlt2, hwf0, hwb]
          have hwl2 : (bldF A r [.int .i64 0, .int .i64 0, .str [], .imm [] [] true] fillExpr.C i2).length = c := by rw [bldF_len (by omega)]; omega
          have hwg2 : (bldF A r [.int .i64 0, .int .i64 0, .str [], .imm [] [] true] fillExpr.C i2)[l.es.length + i2]? = some [.int .i64 0, .int .i64 0, .str [], .imm [] [] true] := by rw [← hAl]; exact bldF_get (by omega)
          have hws2 : (bldF A r [.int .i64 0, .int .i64 0, .str [], .imm [] [] true] fillExpr.C i2).set (l.es.length + i2) fillExpr.C = bldF A r [.int .i64 0, .int .i64 0, .str [], .imm [] [] true] fillExpr.C (i2 + 1) := by rw [← hAl]; exact bldF_set (by omega)
          have hwb2 : ∀ m, ((bldF A r [.int .i64 0, .int .i64 0, .str [], .imm [] [] true] fillExpr.C (i2 + 1)).all fun e => e.all (bdV m)) = true := bld_bd (bldF_pure hA hz hfp)
          have hlc2 : (0 : Int) ≤ (l.es.length : Int) + (i2 : Int) ∧ (l.es.length : Int) + (i2 : Int) < (c : Int) := by omega
          have hwt2 : ((l.es.length : Int) + (i2 : Int)).toNat = l.es.length + i2 := by omega
          have hwi2 : IntKind.i64.wrap ((l.es.length : Int) + (i2 : Int) + 1) = (l.es.length : Int) + ((i2 : Int) + 1) := by rw [wrap_small (by omega) (by omega)]; omega
          have hm2 : r ≤ maxLen := by simp only [maxLen]; omega
          have c1 := fillValue_ct
          have hy := And.intro (hlt2) (And.intro (hwl2) (And.intro (hlc2) (And.intro (hwt2) (And.intro (hwg2) (And.intro (hws2) (And.intro (hwb2) (hwi2)))))))
          have hdf := hy0
          have eL := @toValueS_L2.eq_1
          have hm0 := hm2
          have hlt0 := hlt2
          exact wk1n
        · have hge2 : r ≤ i2 := by first | (simpa using hc2) | (simp at hc2; omega)
          try simp -implicitDefEqProofs [-List.map_take, -List.map_drop, go_sem, hwf0, hwb]
          obtain rfl : i2 = r := by omega
          have hwl3 : (bldF A i2 [.int .i64 0, .int .i64 0, .str [], .imm [] [] true] fillExpr.C i2).length = c := by rw [bldF_len (by omega)]; omega
          have hwsl : slV [some ⟨bldF A i2 [.int .i64 0, .int .i64 0, .str [], .imm [] [] true] fillExpr.C i2, 4, 35, true, false⟩] 4 (.ref 0 c 0 c (some c)) none (some (.int .i64 (l.es.length : Int))) none = .ob True (.ref 0 c 0 l.es.length (some c)) := sl_own rfl hwl3 (by omega)
          simp -implicitDefEqProofs [-List.map_take, -List.map_drop, go_sem, hwsl]
          refine end_ref (o := 0) (c := c) (k := l.es.length) (es := bldF A i2 [.int .i64 0, .int .i64 0, .str [], .imm [] [] true] fillExpr.C i2) (sz := 4) (ty := 35) (arr := true) (frz := false) (by simp) (by simp [go_sem]) (by simp [go_sem]) hwl3 (bldF_pure hA hz hfp) ?_
          rw [bldF_full, ← hAl, List.take_left, List.drop_left]
    · try simp only [Bool.true_and, beq_eq_false_iff_ne, ne_eq] at hb
      have hbz : ((l.es.length : Int) == 0) = decide (l.es.length = 0) := by rw [Bool.eq_iff_iff]; simp
      simp -implicitDefEqProofs [-List.map_take, -List.map_drop, go_sem]
      repeat' first
        | ((first | refine gv_split (fun h => ?_) (fun h => ?_) | refine cnd_split (fun h => ?_) (fun h => ?_) | refine cgv_split (fun h => ?_) (fun h => ?_)) <;> (try (have hp := h; simp at hp)) <;> simp -implicitDefEqProofs [-List.map_take, -List.map_drop, go_sem, h, hw0, hb, hbz])
        | (refine And.intro (by first | omega | (simp only [maxLen]; omega) | (simp_all; done) | (simp_all; omega)) ?_; try simp -implicitDefEqProofs [-List.map_take, -List.map_drop, go_sem, hw0, hb, hbz])
        | ((first | refine stp_ct (hrm) (by simp [go_sem, hw0, hb, hbz]) ?_ ?_ | refine cstp_ct (hrm) (by simp [go_sem, hw0, hb, hbz]) ?_ ?_); (simp [go_sem]); simp -implicitDefEqProofs [-List.map_take, -List.map_drop, go_sem, hw0, hb, hbz])
        | (refine run_dreg' (by decide) ?_; simp -implicitDefEqProofs [-List.map_take, -List.map_drop, go_sem, hw0, hb, hbz])
        | ((first | refine end_tup _ (by simp) (by simp [go_sem]; rfl) (by simp [go_sem]) ?_); first | (simp [go_sem, *]; done) | grind | (simp [go_sem]; grind) | (simp_all [go_sem]; done) | (simp_all [go_sem]; omega))
      refine run_iter (l.es.length) (toValueS_L1 l true A c) (fun i a => True) () (gh_auto (by simp [go_sem, toValueS_L1, bldE_zero])) (by first | (simp; done) | (simp []; done) | (simp []; omega) | grind) ?_
      intro i a hi hj
      simp -implicitDefEqProofs [-List.map_take, -List.map_drop, go_sem, toValueS_L1, bldE_zero]
      refine cnd_split (fun hc => ?_) (fun hc => ?_)
      · have hlt : i < l.es.length := by first | (simpa using hc) | (simp at hc; omega)
        simp -implicitDefEqProofs [-List.map_take, -List.map_drop, go_sem, hlt, bldE_zero]
        have hwl : (bldE A c [.int .i64 0, .int .i64 0, .str [], .imm [] [] true] i).length = c := bldE_len (by omega) (by omega)
        have hwg : (bldE A c [.int .i64 0, .int .i64 0, .str [], .imm [] [] true] i)[i]? = some [.int .i64 0, .int .i64 0, .str [], .imm [] [] true] := bldE_get (by omega) (by omega)
        have hws : (bldE A c [.int .i64 0, .int .i64 0, .str [], .imm [] [] true] i).set i (tf l.es[i]).C = bldE A c [.int .i64 0, .int .i64 0, .str [], .imm [] [] true] (i + 1) := by rw [← hAg i hlt]; exact bldE_set (by omega) (by omega)
        have hwb : ∀ m, ((bldE A c [.int .i64 0, .int .i64 0, .str [], .imm [] [] true] (i + 1)).all fun e => e.all (bdV m)) = true := bld_bd (bldE_pure hA hz)
        have hlc : (i : Int) < (c : Int) := by omega
        have hgi := hg l.es[i] (List.getElem_mem hlt)
        have c1 := hgi
        have hy := And.intro (hlt) (And.intro (hwl) (And.intro (hlc) (And.intro (hwg) (And.intro (hws) (hwb)))))
        have hdf := hy0
        have eL := @toValueS_L1.eq_1
        have hm0 := hm
        have hlt0 := hlt
        exact wk1n
      · have hge : l.es.length ≤ i := by first | (simpa using hc) | (simp at hc; omega)
        try simp -implicitDefEqProofs [-List.map_take, -List.map_drop, go_sem, bldE_zero]
        obtain rfl : i = l.es.length := by omega
        have hwf0 : bldF A r [.int .i64 0, .int .i64 0, .str [], .imm [] [] true] fillExpr.C 0 = bldE A c [.int .i64 0, .int .i64 0, .str [], .imm [] [] true] l.es.length := by rw [← hAl]; exact bldF_zero (by omega)
        have hwb : ∀ m, ((bldE A c [.int .i64 0, .int .i64 0, .str [], .imm [] [] true] l.es.length).all fun e => e.all (bdV m)) = true := bld_bd (bldE_pure hA hz)
        refine run_iter (r) (toValueS_L2 l A c r) (fun i2 a2 => True) () (gh_auto (by simp [go_sem, toValueS_L2, hwf0, hwb])) (by first | (simp; done) | (simp []; done) | (simp []; omega) | grind) ?_
        intro i2 a2 hi2 hj2
        simp -implicitDefEqProofs [-List.map_take, -List.map_drop, go_sem, toValueS_L2, hwf0, hwb]
        refine cnd_split (fun hc2 => ?_) (fun hc2 => ?_)
        · have hlt2 : i2 < r := by first | (simpa using hc2) | (simp at hc2; omega)
          simp -implicitDefEqProofs [-List.map_take, -List.map_drop, go_sem, hlt2, hwf0, hwb]
          have hwl2 : (bldF A r [.int .i64 0, .int .i64 0, .str [], .imm [] [] true] fillExpr.C i2).length = c := by rw [bldF_len (by omega)]; omega
          have hwg2 : (bldF A r [.int .i64 0, .int .i64 0, .str [], .imm [] [] true] fillExpr.C i2)[l.es.length + i2]? = some [.int .i64 0, .int .i64 0, .str [], .imm [] [] true] := by rw [← hAl]; exact bldF_get (by omega)
          have hws2 : (bldF A r [.int .i64 0, .int .i64 0, .str [], .imm [] [] true] fillExpr.C i2).set (l.es.length + i2) fillExpr.C = bldF A r [.int .i64 0, .int .i64 0, .str [], .imm [] [] true] fillExpr.C (i2 + 1) := by rw [← hAl]; exact bldF_set (by omega)
          have hwb2 : ∀ m, ((bldF A r [.int .i64 0, .int .i64 0, .str [], .imm [] [] true] fillExpr.C (i2 + 1)).all fun e => e.all (bdV m)) = true := bld_bd (bldF_pure hA hz hfp)
          have hlc2 : (0 : Int) ≤ (l.es.length : Int) + (i2 : Int) ∧ (l.es.length : Int) + (i2 : Int) < (c : Int) := by omega
          have hwt2 : ((l.es.length : Int) + (i2 : Int)).toNat = l.es.length + i2 := by omega
          have hwi2 : IntKind.i64.wrap ((l.es.length : Int) + (i2 : Int) + 1) = (l.es.length : Int) + ((i2 : Int) + 1) := by rw [wrap_small (by omega) (by omega)]; omega
          have hm2 : r ≤ maxLen := by simp only [maxLen]; omega
          have c1 := fillValue_ct
          have hy := And.intro (hlt2) (And.intro (hwl2) (And.intro (hlc2) (And.intro (hwt2) (And.intro (hwg2) (And.intro (hws2) (And.intro (hwb2) (hwi2)))))))
          have hdf := hy0
          have eL := @toValueS_L2.eq_1
          have hm0 := hm2
          have hlt0 := hlt2
          exact wk1n
        · have hge2 : r ≤ i2 := by first | (simpa using hc2) | (simp at hc2; omega)
          try simp -implicitDefEqProofs [-List.map_take, -List.map_drop, go_sem, hwf0, hwb]
          obtain rfl : i2 = r := by omega
          have hwl3 : (bldF A i2 [.int .i64 0, .int .i64 0, .str [], .imm [] [] true] fillExpr.C i2).length = c := by rw [bldF_len (by omega)]; omega
          have hwsl : slV [some ⟨bldF A i2 [.int .i64 0, .int .i64 0, .str [], .imm [] [] true] fillExpr.C i2, 4, 35, true, false⟩] 4 (.ref 0 c 0 c (some c)) none (some (.int .i64 (l.es.length : Int))) none = .ob True (.ref 0 c 0 l.es.length (some c)) := sl_own rfl hwl3 (by omega)
          simp -implicitDefEqProofs [-List.map_take, -List.map_drop, go_sem, hwsl]
          refine end_ref (o := 0) (c := c) (k := l.es.length) (es := bldF A i2 [.int .i64 0, .int .i64 0, .str [], .imm [] [] true] fillExpr.C i2) (sz := 4) (ty := 35) (arr := true) (frz := false) (by simp) (by simp [go_sem]) (by simp [go_sem]) hwl3 (bldF_pure hA hz hfp) ?_
          rw [bldF_full, ← hAl, List.take_left, List.drop_left]
  · have h1 := hcase hb
    subst h1
    simp at hb
    obtain ⟨rfl, hb⟩ := hb
    have hbt : ((l.es.length : Int) == 0) = true := by simp [hb]
    simp -implicitDefEqProofs [-List.map_take, -List.map_drop, go_sem, hbt]
    have hy := hbt
    have hdf := hy0
    exact wk0
open Z in
def mf_laws_toValue : MF := ⟨21, [(.cell 4 4 true)], q (r [k 2 (.box 30 (t 0)), k 4 (.alloc 35 [.int .i64 0, .int .i64 0, .str [], .imm [] [] true])]) (q (r [k 5 (.alloc 35 [.int .i64 0, .int .i64 0, .str [], .imm [] [] true])]) (q (r [k 6 (.fadr 0 (t 2)), k 7 (.load false 1 (t 6)), k 8 (.fadr 0 (t 5)), n (.store 1 (t 8) (t 7))]) (q (r [k 9 (.fadr 1 (t 2)), k 10 (.load false 1 (t 9)), k 11 (.fadr 1 (t 5)), n (.store 1 (t 11) (t 10))]) (q (r [k 12 (.fadr 2 (t 2)), k 13 (.load false 1 (t 12)), k 14 (.fadr 2 (t 5)), n (.store 1 (t 14) (t 13))]) (q (r [k 15 (.fadr 3 (t 2)), k 16 (.load false 1 (t 15)), m 17 1, k 18 (c 41 [t 16, t 17]), k 19 (.fadr 3 (t 5)), n (.store 1 (t 19) (t 18))]) (q (r [k 20 (.load true 4 (t 5)), n (.store 4 (t 4) (t 20))]) .ret))))))⟩
theorem fit_laws_toValue : Fit Tryz.prog 15 Tryz.f15 mf_laws_toValue := ⟨by kernel_rfl, Tryz.func15, by kernel_rfl, by kernel_rfl, by kernel_rfl, by kernel_rfl⟩
theorem toValue_ct (e : LExpr) (bare : Bool) (hs : e.core.Sm) : Ct Tryz.prog 15 [.agg e.C, .bool bare] (.agg (toE bare e).C) := by
  have hk := toValueS_ct ⟨e.kids, e.sp, e.lim⟩ bare (by have := hs; rw [Expr.Sm_eq] at this; simpa using this.2.1) (toE bare) (fun a ha => toValue_ct a bare (by obtain ⟨i, hi, rfl⟩ := List.getElem_of_mem ha; exact Expr.Sm_kid hs hi))
  have he : (toE bare e).C = [.int .i64 e.kind, .int .i64 e.num, .str e.text, (toS LExpr.C fillExpr bare (e.kids.map (toE bare))).I LExpr.C] := by
    cases e with
    | mk k n t ks sp lim =>
      rw [LExpr.C_eq]
      simp only [toE, LExpr.kind, LExpr.num, LExpr.text, LExpr.kids, LExpr.sp, LExpr.lim, Sl.I, toS_es, toEs_map]
  rw [he]
  refine ct_of_run fit_laws_toValue (by simp [mf_laws_toValue]) (by simp [go_sem]) fun hd => ?_
  simp -implicitDefEqProofs [-List.map_take, -List.map_drop, go_sem, mf_laws_toValue]
  have c1 := hk
  have hy := hy0
  have hdf := hy0
  exact wk1
termination_by SizeOf.sizeOf e
decreasing_by exact LExpr.kid_lt ha
end Go.Mach
