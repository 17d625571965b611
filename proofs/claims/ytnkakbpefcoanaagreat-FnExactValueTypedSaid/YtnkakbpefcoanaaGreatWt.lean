import Derived.Test.YtnkakbpefcoanaaGreatMh
import Derived.Test.YtnkakbpefcoanaaGreatWs
import Derived.Test.YtnkakbpefcoanaaGreatWr
/- Whether a value has a type, of the program, walked. -/
set_option maxHeartbeats 4000000
namespace Go.Mach
open Go Go.Proofs
set_option linter.unusedVariables false
set_option linter.unusedSimpArgs false
attribute [local go_sem] Z.k Z.g Z.n Z.m Z.t Z.i Z.b Z.s Z.c Z.r Z.q run_seq run_skip run_reg run_blk run_exit run_ret run_cond cnd_true cnd_false kx_seq_normal kx_seq_exit kx_seq_ret kx_blk_normal kx_blk_same kx_blk_other kx_blk_ret kx_loop_exit kx_loop_ret kx_done ops_nil ops_plain ops_grd gv_tt gv_ff gv_tf gv_ft gv_tup stp_ok stp_ob stp_hp stp_bad stp_if get_t get_c putO_some putO_none put_same put_ne put_σ put_base withσ_τ withσ_σ withσ_base withσ_put withσ_withσ mk_τ mk_σ mk_base mk_withσ entry_τ entry_σ entry_base calm_nil calm_plain calm_grd cgv_tt cgv_ff cgv_tf cgv_ft cgv_tup cstp_ok cstp_ob cstp_if
attribute [local irreducible] Ct Co Cs
attribute [local go_sem] evalOp notV negV pickV binV intB seqV beqV catV lensV lenlV boxV_eq newV cellsOf cellV fadrV fldV fldC loadV loadC_ag loadC_one plainV isOwn iadrV storeV lk bdV bdL renO renL renV pureV pureL noOwnV noOwnL idxV slsV optI extV resL resV ret1 mmV cnviV cnvsV nilcV eqnV bslV bslGo appV elems okE appE getD_map okO_none okO_some strC intC Sl.I
attribute [local simp] Bind.eqa Use.eqa loadC_str loadC_int Bind.C_len Bind.C_pure Bind.C_noOwn Bind.C_cell Bind.C_bd Bind.C_bdL Bind.C_ren Bind.C_any Bind.C_any0 Bind.C_any1 Bind.C_anyt Bind.C_take Bind.C_load Bind.C_load0 Bind.C_load1 Bind.C_fld Bind.C_box Bind.C_fold Use.C_len Use.C_pure Use.C_noOwn Use.C_cell Use.C_bd Use.C_bdL Use.C_ren Use.C_any Use.C_any0 Use.C_any1 Use.C_anyt Use.C_take Use.C_load Use.C_load0 Use.C_load1 Use.C_fld Use.C_box Use.C_fold LExpr.C_len LExpr.C_pure LExpr.C_noOwn LExpr.C_cell LExpr.C_bd LExpr.C_bdL LExpr.C_ren LExpr.C_any LExpr.C_any0 LExpr.C_any1 LExpr.C_anyt LExpr.C_take LExpr.C_load LExpr.C_load0 LExpr.C_load1 LExpr.C_fld LExpr.C_box LExpr.C_fold LDecl.C_len LDecl.C_pure LDecl.C_noOwn LDecl.C_cell LDecl.C_bd LDecl.C_bdL LDecl.C_ren LDecl.C_any LDecl.C_any0 LDecl.C_any1 LDecl.C_anyt LDecl.C_take LDecl.C_load LDecl.C_load0 LDecl.C_load1 LDecl.C_fld LDecl.C_box LDecl.C_fold LModule.C_len LModule.C_pure LModule.C_noOwn LModule.C_cell LModule.C_bd LModule.C_bdL LModule.C_ren LModule.C_any LModule.C_any0 LModule.C_any1 LModule.C_anyt LModule.C_take LModule.C_load LModule.C_load0 LModule.C_load1 LModule.C_fld LModule.C_box LModule.C_fold
attribute [local go_sem] mix_nil mix_fplain mix_fgrd mix_oplain fg_tt fg_ff fg_tf fg_ft fg_tup fstp_ok fstp_ob fstp_if og_tt og_ff dstIn
attribute [local go_sem] mix_nilH mix_fplainH mix_fgrdH mix_oplainH fg_ttH fg_ffH fg_tfH fg_ftH fg_tupH fstp_okH fstp_obH fstp_ifH og_ttH og_ffH dstInS buildV fillC

open Z in
def mf_impl_valueTyped_1 : MF := ⟨10, [(.t 4)], q (r [k 3 (.box 35 (t 0)), k 4 (.mov (b false))]) (q (r [k 5 (.load false 1 (t 1)), k 6 (.load true 4 (t 3)), k 7 (.load false 1 (t 2)), k 8 (c 44 [t 5, t 6, t 7]), k 9 (.not (t 8)), m 4 9]) .ret)⟩
theorem fit_impl_valueTyped_1 : Fit Tryz.prog 93 Tryz.f93 mf_impl_valueTyped_1 := ⟨by kernel_rfl, Tryz.func93, by kernel_rfl, by kernel_rfl, by kernel_rfl, by kernel_rfl⟩
theorem vt1_ct (p : Sl LModule) (k : LExpr) (it : Str) (r : Bool) (h : Ct Tryz.prog 44 [p.I LModule.C, .agg k.C, .str it] (.bool r)) : Ct Tryz.prog 93 ([.agg k.C] ++ [.iptr [p.I LModule.C], .iptr [.str it]]) (.bool (!r)) := by
  refine ct_of_run fit_impl_valueTyped_1 (by simp [mf_impl_valueTyped_1]) (by simp [go_sem]) fun hd => ?_
  simp -implicitDefEqProofs [-List.map_take, -List.map_drop, go_sem, mf_impl_valueTyped_1]
  repeat' first
    | ((first | refine gv_split (fun h => ?_) (fun h => ?_) | refine cnd_split (fun h => ?_) (fun h => ?_) | refine cgv_split (fun h => ?_) (fun h => ?_)) <;> (try (have hp := h; simp at hp)) <;> simp -implicitDefEqProofs [-List.map_take, -List.map_drop, go_sem, h])
    | (refine And.intro (by first | omega | (simp only [maxLen]; omega) | (simp_all; done) | (simp_all; omega)) ?_; try simp -implicitDefEqProofs [-List.map_take, -List.map_drop, go_sem])
    | ((first | refine stp_ct (h) (by simp [go_sem]) ?_ ?_ | refine cstp_ct (h) (by simp [go_sem]) ?_ ?_); (simp [go_sem]); simp -implicitDefEqProofs [-List.map_take, -List.map_drop, go_sem])
    | (refine run_dreg' (by decide) ?_; simp -implicitDefEqProofs [-List.map_take, -List.map_drop, go_sem])
    | ((first | refine end_tup _ (by simp) (by simp [go_sem]; rfl) (by simp [go_sem]) ?_); first | (simp [go_sem, *]; done) | grind | (simp [go_sem]; grind) | (simp_all [go_sem]; done) | (simp_all [go_sem]; omega))
theorem allT_any (p : List Module) (t : Str) (l : List LExpr) : (!l.any fun k => !hasT p k.core t) = allT p (l.map LExpr.core) t := by
  rw [allT_all, Bool.eq_iff_iff]
  simp
def ivt_L (p : Sl LModule) (e : LExpr) (d : LDecl) (i : Nat) (_ : Unit) : St := ⟨lk [(3, .ptr 0 1 0 0), (9, .ptr 2 1 0 0), (67, .imm (e.kids.map LExpr.C) e.sp e.lim), (68, .int .i64 e.kids.length), (69, .int .i64 i)],
  [some ⟨[[p.I LModule.C]], 1, 25, false, false⟩, some ⟨[[.int .i64 e.kind, .int .i64 e.num, .str e.text, .imm (e.kids.map LExpr.C) e.sp e.lim]], 4, 35, false, false⟩, some ⟨[d.C], 8, 72, false, false⟩], []⟩
open Z in
def mf_impl_valueTyped : MF := ⟨85, [(.t 6)], q (r [k 3 (.box 25 (t 0)), k 4 (.box 35 (t 1)), k 6 (.mov (b false))]) (q (q (r [k 13 (.fadr 0 (t 4)), k 14 (.load false 1 (t 13))]) (.blk 0 (q (r [k 16 (.bin .eql (t 14) (i 0)), m 15 16]) (.cond (t 15) (q (r [m 17 2, k 18 (.seq false (t 17) (s [105, 110, 116])), m 6 18]) .ret) (q (r [k 20 (.bin .eql (t 14) (i 1)), m 19 20]) (.cond (t 19) (q (r [m 21 2, k 22 (.seq false (t 21) (s [98, 111, 111, 108])), m 6 22]) .ret) (q (r [k 24 (.bin .eql (t 14) (i 2)), m 23 24]) (.cond (t 23) (q (r [m 25 2, k 26 (.seq false (t 25) (s [116, 101, 120, 116])), m 6 26]) .ret) (q (r [k 28 (.bin .eql (t 14) (i 3)), m 27 28]) (.cond (t 27) (q (r [m 30 2, k 31 (c 91 [t 30]), m 29 31, k 32 (.ext (t 29) 0), k 33 (.ext (t 29) 1), k 7 (.alloc 9 [.str []]), n (.store 1 (t 7) (t 32)), m 8 33]) (q (r [m 34 8, m 35 34, g 36 (.fadr 3 (t 4)) 35 true, g 37 (.load false 1 (t 36)) 35 true, g 38 (.mkf 93 [t 3, t 7]) 35 true, g 39 (c 92 [t 37, t 38]) 35 true, g 40 (.not (t 39)) 35 true, k 41 (.pick (t 35) (t 40) (b false)), m 6 41]) .ret)) .skip)))))))))) (q (r [k 43 (.load false 1 (t 3)), k 44 (.fadr 2 (t 4)), k 45 (.load false 1 (t 44)), k 46 (c 94 [t 43, t 45]), m 42 46, k 47 (.ext (t 42) 0), k 48 (.ext (t 42) 1), k 9 (.alloc 72 [.int .i64 0, .str [], .imm [] [] true, .str [], .int .i64 0, .int .i64 0, .str [], .imm [] [] true]), n (.store 8 (t 9) (t 47)), m 10 48]) (q (q (r [m 49 10, k 50 (.not (t 49)), m 51 50, g 52 (.fadr 2 (t 4)) 51 false, g 53 (.load false 1 (t 52)) 51 false, g 54 (.mov (t 2)) 51 false, g 55 (.seq true (t 53) (t 54)) 51 false, k 56 (.pick (t 51) (b true) (t 55)), m 57 56, g 58 (.fadr 2 (t 9)) 57 false, g 59 (.load false 1 (t 58)) 57 false, g 60 (.lenl (t 59)) 57 false, g 61 (.fadr 3 (t 4)) 57 false, g 62 (.load false 1 (t 61)) 57 false, g 63 (.lenl (t 62)) 57 false, g 64 (.bin .neq (t 60) (t 63)) 57 false, k 65 (.pick (t 57) (b true) (t 64))]) (.cond (t 65) (q (r [k 6 (.mov (b false))]) .ret) .skip)) (q (q (r [k 66 (.fadr 3 (t 4)), k 67 (.load false 1 (t 66)), k 68 (.lenl (t 67)), k 69 (.mov (i 0))]) (.blk 1 (.loop (q (r [k 70 (.bin .lss (t 69) (t 68))]) (q (.cond (t 70) .skip (.exit 1)) (q (.blk 2 (q (r [m 71 69, k 72 (.iadr 4 (t 67) (t 69)), k 73 (.load true 4 (t 72)), k 12 (.alloc 35 [.int .i64 0, .int .i64 0, .str [], .imm [] [] true]), m 11 71, n (.store 4 (t 12) (t 73))]) (q (.dreg [(k 74 (.load false 1 (t 3)), []), (k 75 (.load true 4 (t 12)), []), (k 76 (.fadr 2 (t 9)), []), (k 77 (.load false 1 (t 76)), [2]), (m 78 11, []), (k 79 (.iadr 2 (t 77) (t 78)), [3, 4]), (k 80 (.fadr 1 (t 79)), [5]), (k 81 (.load false 1 (t 80)), [6]), (k 82 (c 44 [t 74, t 75, t 81]), [0, 1, 7]), (k 83 (.not (t 82)), [8])]) (.cond (t 83) (q (r [k 6 (.mov (b false))]) .ret) .skip)))) (r [k 84 (.bin .add (t 69) (i 1)), m 69 84]))))))) (q (r [k 6 (.mov (b true))]) .ret)))))⟩
theorem fit_impl_valueTyped : Fit Tryz.prog 44 Tryz.f44 mf_impl_valueTyped := ⟨by kernel_rfl, Tryz.func44, by kernel_rfl, by kernel_rfl, by kernel_rfl, by kernel_rfl⟩
theorem ivalueTyped0_ct (p : Sl LModule) (hpo : programOk (p.es.map LModule.core) = true) (e : LExpr) (t : Str) : Ct Tryz.prog 44 [p.I LModule.C, .agg e.C, .str t] (.bool (hasT (p.es.map LModule.core) e.core t)) := by
  have ihk : ∀ x, x ∈ e.kids → ∀ u, Ct Tryz.prog 44 [p.I LModule.C, .agg x.C, .str u] (.bool (hasT (p.es.map LModule.core) x.core u)) := fun x hx u => ivalueTyped0_ct p hpo x u
  obtain ⟨Y, hY⟩ : ∃ Y, Y = hasT (p.es.map LModule.core) e.core t := ⟨_, rfl⟩
  rw [← hY]
  refine ct_of_run fit_impl_valueTyped (by simp [mf_impl_valueTyped]) (by simp [go_sem]) fun hd => ?_
  simp -implicitDefEqProofs [-List.map_take, -List.map_drop, go_sem, mf_impl_valueTyped]
  have hm : e.kids.length ≤ maxLen := by have := LExpr.deep hd.2.1; omega
  by_cases k0 : e.kind = 0
  · have hk : (e.kind == 0) = true := by simpa using k0
    rw [hasT_eq, LExpr.core_kind, hk] at hY
    simp only [if_true] at hY
    subst hY
    simp -implicitDefEqProofs [-List.map_take, -List.map_drop, go_sem, hk]
    have hy := hk
    have hdf := hy0
    exact wk0
  have n0 : (e.kind == 0) = false := by simpa using k0
  by_cases k1 : e.kind = 1
  · have hk : (e.kind == 1) = true := by simpa using k1
    rw [hasT_eq, LExpr.core_kind, n0, hk] at hY
    simp only [Bool.false_eq_true, if_false, if_true] at hY
    subst hY
    simp -implicitDefEqProofs [-List.map_take, -List.map_drop, go_sem, n0, hk]
    have hy := And.intro (n0) (hk)
    have hdf := hy0
    exact wk0
  have n1 : (e.kind == 1) = false := by simpa using k1
  by_cases k2 : e.kind = 2
  · have hk : (e.kind == 2) = true := by simpa using k2
    rw [hasT_eq, LExpr.core_kind, n0, n1, hk] at hY
    simp only [Bool.false_eq_true, if_false, if_true] at hY
    subst hY
    simp -implicitDefEqProofs [-List.map_take, -List.map_drop, go_sem, n0, n1, hk]
    have hy := And.intro (n0) (And.intro (n1) (hk))
    have hdf := hy0
    exact wk0
  have n2 : (e.kind == 2) = false := by simpa using k2
  by_cases k3 : e.kind = 3
  · have hk : (e.kind == 3) = true := by simpa using k3
    have hY0 : Y = (itemOk t && allT (p.es.map LModule.core) (e.kids.map LExpr.core) (mid t)) := by
      rw [hasT_eq, LExpr.core_kind, n0, n1, n2, hk, LExpr.core_kids] at hY
      simpa using hY
    clear hY
    have hti := itypeItem_ct t
    simp -implicitDefEqProofs [-List.map_take, -List.map_drop, go_sem, n0, n1, n2, hk]
    cases hI : itemOk t with
    | false =>
      rw [hI] at hti hY0
      simp only [Bool.false_and] at hY0
      subst hY0
      have c1 := hti
      have hy := And.intro (n0) (And.intro (n1) (And.intro (n2) (hk)))
      have hdf := hy0
      exact wk1
    | true =>
      have hS : itemS t = mid t := by rw [itemS, hI]; rfl
      rw [hI, hS] at hti
      rw [hI, ← allT_any] at hY0
      simp only [Bool.true_and] at hY0
      subst hY0
      have hcf := containsF_Value_ct ⟨e.kids, e.sp, e.lim⟩ 93 [.iptr [p.I LModule.C], .iptr [.str (mid t)]] (by simp [go_sem]) (fun k => !hasT (p.es.map LModule.core) k.core (mid t)) (fun k hk => vt1_ct p k (mid t) _ (ihk k hk (mid t)))
      repeat' first
        | ((first | refine gv_split (fun h => ?_) (fun h => ?_) | refine cnd_split (fun h => ?_) (fun h => ?_) | refine cgv_split (fun h => ?_) (fun h => ?_)) <;> (try (have hp := h; simp at hp)) <;> simp -implicitDefEqProofs [-List.map_take, -List.map_drop, go_sem, h, n0, n1, n2, hk])
        | (refine And.intro (by first | omega | (simp only [maxLen]; omega) | (simp_all; done) | (simp_all; omega)) ?_; try simp -implicitDefEqProofs [-List.map_take, -List.map_drop, go_sem, n0, n1, n2, hk])
        | ((first | refine stp_ct (hti) (by simp [go_sem, n0, n1, n2, hk]) ?_ ?_ | refine cstp_ct (hti) (by simp [go_sem, n0, n1, n2, hk]) ?_ ?_); (simp [go_sem]); simp -implicitDefEqProofs [-List.map_take, -List.map_drop, go_sem, n0, n1, n2, hk])
        | ((first | refine cstp_snap 3 (hcf) (by simp [go_sem, snapL, snapV, snapE, snapSp, mapO, frzV]) ?_ ?_ ?_ | refine stp_snap 3 (hcf) (by simp [go_sem, snapL, snapV, snapE, snapSp, mapO, frzV]) ?_ ?_ ?_); (simp [closedV]); (simp [go_sem]); simp -implicitDefEqProofs [-List.map_take, -List.map_drop, go_sem, n0, n1, n2, hk])
        | (refine run_dreg' (by decide) ?_; simp -implicitDefEqProofs [-List.map_take, -List.map_drop, go_sem, n0, n1, n2, hk])
        | ((first | refine end_tup _ (by simp) (by simp [go_sem]; rfl) (by simp [go_sem]) ?_); first | (simp [go_sem, *]; done) | grind | (simp [go_sem]; grind) | (simp_all [go_sem]; done) | (simp_all [go_sem]; omega))
  have n3 : (e.kind == 3) = false := by simpa using k3
  have hrc := irecordOf_ct p e.text hpo
  simp -implicitDefEqProofs [-List.map_take, -List.map_drop, go_sem, n0, n1, n2, n3]
  have hcn := fun h => hasT_none (p := p.es.map LModule.core) (e := e.core) (t := t) (by rw [LExpr.core_kind]; exact n0) (by rw [LExpr.core_kind]; exact n1) (by rw [LExpr.core_kind]; exact n2) (by rw [LExpr.core_kind]; exact n3) h
  have hcs := fun r h => hasT_some (p := p.es.map LModule.core) (e := e.core) (t := t) (r := r) (by rw [LExpr.core_kind]; exact n0) (by rw [LExpr.core_kind]; exact n1) (by rw [LExpr.core_kind]; exact n2) (by rw [LExpr.core_kind]; exact n3) h
  rw [LExpr.core_text, ← rec_eq _ _ (names_nodup hpo), ← recIL_core] at hcn
  cases hx : recIL p.es e.text with
  | none =>
    rw [hx] at hrc hcn
    simp only [Option.getD_none, Option.isSome_none, zeroLD_C] at hrc
    rw [hcn rfl] at hY
    subst hY
    have c1 := hrc
    have hy := And.intro (n0) (And.intro (n1) (And.intro (n2) (n3)))
    have hdf := hy0
    exact wk1
  | some d =>
    rw [hx] at hrc
    simp only [Option.getD_some, Option.isSome_some] at hrc
    have hY1 := hcs d.core (by rw [LExpr.core_text, ← rec_eq _ _ (names_nodup hpo), ← recIL_core, hx]; rfl)
    have hdb : d.core.binds = d.binds.es := rfl
    rw [LExpr.core_text, LExpr.core_kids, List.length_map, hdb] at hY1
    rw [hY1] at hY
    clear hY1 hcs hcn
    cases hq : e.text == t with
    | false =>
      rw [hq] at hY
      simp only [Bool.false_and] at hY
      subst hY
      have c1 := hrc
      have hy := And.intro (n0) (And.intro (n1) (And.intro (n2) (And.intro (n3) (hq))))
      have hdf := hy0
      exact wk1
    | true =>
      rw [hq] at hY
      simp only [Bool.true_and] at hY
      by_cases hlen : e.kids.length = d.binds.es.length
      · have hli : ((d.binds.es.length : Int) != (e.kids.length : Int)) = false := by simp; omega
        have hle : ((e.kids.length : Int) == (d.binds.es.length : Int)) = true := by simp; omega
        rw [hle] at hY
        simp only [Bool.true_and] at hY
        subst hY
        repeat' first
          | ((first | refine gv_split (fun h => ?_) (fun h => ?_) | refine cnd_split (fun h => ?_) (fun h => ?_) | refine cgv_split (fun h => ?_) (fun h => ?_)) <;> (try (have hp := h; simp at hp)) <;> simp -implicitDefEqProofs [-List.map_take, -List.map_drop, go_sem, h, n0, n1, n2, n3, hq, hli])
          | (refine And.intro (by first | omega | (simp only [maxLen]; omega) | (simp_all; done) | (simp_all; omega)) ?_; try simp -implicitDefEqProofs [-List.map_take, -List.map_drop, go_sem, n0, n1, n2, n3, hq, hli])
          | ((first | refine stp_ct (hrc) (by simp [go_sem, n0, n1, n2, n3, hq, hli]) ?_ ?_ | refine cstp_ct (hrc) (by simp [go_sem, n0, n1, n2, n3, hq, hli]) ?_ ?_); (simp [go_sem]); simp -implicitDefEqProofs [-List.map_take, -List.map_drop, go_sem, n0, n1, n2, n3, hq, hli])
          | (refine run_dreg' (by decide) ?_; simp -implicitDefEqProofs [-List.map_take, -List.map_drop, go_sem, n0, n1, n2, n3, hq, hli])
          | ((first | refine end_tup _ (by simp) (by simp [go_sem]; rfl) (by simp [go_sem]) ?_); first | (simp [go_sem, *]; done) | grind | (simp [go_sem]; grind) | (simp_all [go_sem]; done) | (simp_all [go_sem]; omega))
        refine run_iter (e.kids.length) (ivt_L p e d) (fun i a => hasTs (p.es.map LModule.core) ((e.kids.drop i).map LExpr.core) ((d.binds.es.drop i).map Bind.type) = hasTs (p.es.map LModule.core) (e.kids.map LExpr.core) (d.binds.es.map Bind.type)) () (gh_auto (by simp [go_sem, ivt_L])) (by first | (simp; done) | (simp []; done) | (simp []; omega) | grind) ?_
        intro i a hi hj
        simp -implicitDefEqProofs [-List.map_take, -List.map_drop, go_sem, ivt_L]
        refine cnd_split (fun hc => ?_) (fun hc => ?_)
        · have hlt : i < e.kids.length := by first | (simpa using hc) | (simp at hc; omega)
          rw [List.drop_eq_getElem_cons (l := e.kids) (by omega)] at hj
          have hlt_1 : i < d.binds.es.length := by omega
          rw [List.drop_eq_getElem_cons (l := d.binds.es) (by omega)] at hj
          simp only [List.map_cons, List.map_cons, List.map_nil, hasTs_cons, hasTs_nil] at hj
          simp -implicitDefEqProofs [-List.map_take, -List.map_drop, go_sem, hlt, hlt_1]
          have c1 := ihk e.kids[i] (List.getElem_mem hlt) d.binds.es[i].type
          have hy := And.intro (hlt) (hlt_1)
          have hdf := hy0
          have eL := @ivt_L.eq_1
          have hm0 := hm
          have hlt0 := hlt
          exact wk1n
        · have hge : e.kids.length ≤ i := by first | (simpa using hc) | (simp at hc; omega)
          rw [List.drop_of_length_le (l := e.kids) (by omega)] at hj
          rw [List.drop_of_length_le (l := d.binds.es) (by omega)] at hj
          simp only [List.map_nil, List.map_cons, List.map_nil, hasTs_cons, hasTs_nil] at hj
          try simp -implicitDefEqProofs [-List.map_take, -List.map_drop, go_sem]
          have hy := hy0
          have hdf := hy0
          exact wk0
      · have hli : ((d.binds.es.length : Int) != (e.kids.length : Int)) = true := by simp; omega
        have hle : ((e.kids.length : Int) == (d.binds.es.length : Int)) = false := by simp; omega
        rw [hle] at hY
        simp only [Bool.false_and] at hY
        subst hY
        have c1 := hrc
        have hy := And.intro (n0) (And.intro (n1) (And.intro (n2) (And.intro (n3) (And.intro (hq) (hli)))))
        have hdf := hy0
        exact wk1
termination_by SizeOf.sizeOf e
decreasing_by exact LExpr.kid_lt hx
open Z in
def mf_impl_ValueTyped : MF := ⟨23, [(.t 6)], q (r [k 4 (.box 35 (t 1)), k 6 (.mov (b false))]) (q (r [m 7 0, k 8 (c 33 [t 7]), m 9 8, g 10 (.load true 4 (t 4)) 9 true, g 11 (c 42 [t 10]) 9 true, k 12 (.pick (t 9) (t 11) (b false)), m 13 12, g 14 (.mov (t 2)) 13 true, g 15 (c 43 [t 14]) 13 true, k 16 (.pick (t 13) (t 15) (b false)), m 17 16, g 18 (.mov (t 0)) 17 true, g 19 (.load true 4 (t 4)) 17 true, g 20 (.mov (t 2)) 17 true, g 21 (c 44 [t 18, t 19, t 20]) 17 true, k 22 (.pick (t 17) (t 21) (b false)), m 6 22]) .ret)⟩
theorem fit_impl_ValueTyped : Fit Tryz.prog 16 Tryz.f16 mf_impl_ValueTyped := ⟨by kernel_rfl, Tryz.func16, by kernel_rfl, by kernel_rfl, by kernel_rfl, by kernel_rfl⟩
theorem ivalueTyped_ct (p : Sl LModule) (e : LExpr) (t : Str) (hs : SmP (p.es.map LModule.core)) : Ct Tryz.prog 16 [p.I LModule.C, .agg e.C, .str t] (.bool (valueTyped (p.es.map LModule.core) e.core t)) := by
  have h1 := iprogramOk2_ct p hs
  refine ct_of_run fit_impl_ValueTyped (by simp [mf_impl_ValueTyped]) (by simp [go_sem]) fun hd => ?_
  simp -implicitDefEqProofs [-List.map_take, -List.map_drop, go_sem, mf_impl_ValueTyped]
  cases hpo : programOk (p.es.map LModule.core) with
  | false =>
    rw [hpo] at h1
    have hY : valueTyped (p.es.map LModule.core) e.core t = false := by rw [valueTyped, hpo]; rfl
    rw [hY]
    have c1 := h1
    have hy := hy0
    have hdf := hy0
    exact wk1
  | true =>
    rw [hpo] at h1
    have hY : valueTyped (p.es.map LModule.core) e.core t = (validV e.core 6 && (typeOk t && hasT (p.es.map LModule.core) e.core t)) := by rw [valueTyped, hpo]; rfl
    rw [hY]
    have c1 := h1
    have c2 := ivalueOk_ct e
    have c3 := itypeOk_ct t
    have c4 := ivalueTyped0_ct p hpo e t
    have hy := hy0
    have hdf := hy0
    exact wk1

theorem szM_neg (x : Sl LModule) (n : Int) (h1 : n < 0) (h2 : -140737488355328 ≤ n) (hxl : x.es.length ≤ 140737488355328) : Ct Tryz.prog 8 [x.I LModule.C, .int .i64 n] (.int .i64 (-1)) := by
  refine ct_of_run fit_laws_szModuleS (by simp [mf_laws_szModuleS]) (by simp [go_sem]) fun hd => ?_
  have hw : IntKind.i64.wrap (n - (x.es.length : Int)) = n - (x.es.length : Int) := wrap_small (by omega) (by omega)
  have hn : decide (n - (x.es.length : Int) < 0) = true := by simp; omega
  simp -implicitDefEqProofs [-List.map_take, -List.map_drop, go_sem, mf_laws_szModuleS, hw, hn]
  have hy := And.intro (hw) (hn)
  have hdf := hy0
  exact wk0
open Z in
def mf_laws_FnExactValueTyped : MF := ⟨62, [(.t 6)], q (r [k 4 (.box 30 (t 1)), k 6 (.mov (b false))]) (q (r [m 13 2, k 14 (.lens (t 13)), k 15 (.bin .sub (i 1000000) (t 14)), m 7 15]) (q (r [m 16 0, m 17 7, k 18 (c 8 [t 16, t 17]), m 7 18]) (q (q (r [m 19 7, k 20 (.bin .lss (t 19) (i 0))]) (.cond (t 20) (q (r [k 6 (.mov (b true))]) .ret) .skip)) (q (r [k 21 (.load true 4 (t 4)), m 22 7, k 23 (c 13 [t 21, t 22]), m 7 23]) (q (q (r [m 24 7, k 25 (.bin .lss (t 24) (i 0))]) (.cond (t 25) (q (r [k 6 (.mov (b true))]) .ret) .skip)) (q (.dreg [(m 26 0, []), (k 27 (c 10 [t 26, b false]), [0]), (k 28 (.load true 4 (t 4)), []), (k 29 (c 15 [t 28, b false]), [2, 1]), (m 30 2, []), (k 31 (c 14 [t 27, t 29, t 30]), [1, 3, 4, 3]), (m 8 31, [5, 5, 0, 1, 2, 3, 4, 5])]) (q (r [m 32 0, k 33 (c 10 [t 32, b false]), m 9 33]) (q (r [k 34 (.load true 4 (t 4)), k 35 (c 15 [t 34, b false]), k 10 (.alloc 35 [.int .i64 0, .int .i64 0, .str [], .imm [] [] true]), n (.store 4 (t 10) (t 35))]) (q (r [m 36 9, k 37 (.load true 4 (t 10)), m 38 2, k 39 (c 16 [t 36, t 37, t 38]), m 11 39]) (q (q (r [m 40 11, m 41 8, k 42 (.beq true (t 40) (t 41))]) (.cond (t 42) (q (r [k 6 (.mov (b false))]) .ret) .skip)) (q (q (r [m 43 9, m 44 0, k 45 (c 10 [t 44, b false]), k 46 (c 12 [t 43, t 45]), k 47 (.not (t 46))]) (.cond (t 47) (q (r [k 6 (.mov (b false))]) .ret) .skip)) (q (q (.dreg [(k 48 (.load true 4 (t 10)), []), (k 49 (.load true 4 (t 4)), []), (k 50 (c 15 [t 49, b false]), [1]), (k 51 (c 17 [t 48, t 50]), [0, 2, 2]), (k 52 (.not (t 51)), [3])]) (.cond (t 52) (q (r [k 6 (.mov (b false))]) .ret) .skip)) (q (.dreg [(m 53 0, []), (k 54 (c 10 [t 53, b true]), [0]), (k 55 (.load true 4 (t 4)), []), (k 56 (c 15 [t 55, b true]), [2, 1]), (m 57 2, []), (k 58 (c 16 [t 54, t 56, t 57]), [1, 3, 4, 3]), (m 12 58, [5, 5, 0, 1, 2, 3, 4, 5])]) (q (q (r [m 59 12, m 60 8, k 61 (.beq true (t 59) (t 60))]) (.cond (t 61) (q (r [k 6 (.mov (b false))]) .ret) .skip)) (q (r [k 6 (.mov (b true))]) .ret)))))))))))))))⟩
theorem fit_laws_FnExactValueTyped : Fit Tryz.prog 4 Tryz.f4 mf_laws_FnExactValueTyped := ⟨by kernel_rfl, Tryz.func4, by kernel_rfl, by kernel_rfl, by kernel_rfl, by kernel_rfl⟩
theorem lawValueTyped_ct (x : Sl LModule) (v : LExpr) (t : Str) (hmt2 : t.length ≤ 140737488355328) (hxl : x.es.length ≤ 140737488355328) : Ct Tryz.prog 4 [x.I LModule.C, .agg v.C, .str t] (.bool true) := by
  refine ct_of_run fit_laws_FnExactValueTyped (by simp [mf_laws_FnExactValueTyped]) (by simp [go_sem]) fun hd => ?_
  simp -implicitDefEqProofs [-List.map_take, -List.map_drop, go_sem, mf_laws_FnExactValueTyped]
  have hw : IntKind.i64.wrap (1000000 - (t.length : Int)) = 1000000 - (t.length : Int) := wrap_small (by omega) (by omega)
  by_cases hb0 : 1000000 < t.length
  · have hz := szM_neg x (1000000 - (t.length : Int)) (by omega) (by omega) hxl
    simp -implicitDefEqProofs [-List.map_take, -List.map_drop, go_sem, hw]
    have c1 := hz
    have hy := hw
    have hdf := hy0
    exact wk1
  obtain ⟨n0, hn0⟩ : ∃ n, n = 1000000 - t.length := ⟨_, rfl⟩
  have hw0 : (1000000 : Int) - (t.length : Int) = (n0 : Int) := by omega
  have hwn : IntKind.i64.wrap ((n0 : Nat) : Int) = (n0 : Int) := wrap_small (by omega) (by omega)
  clear hw
  have hsz1 := szModuleS_ct x n0 (by omega)
  by_cases hb1 : n0 < x.es.length + wModules (x.es.map LModule.core)
  · rw [szR_neg hb1] at hsz1
    simp -implicitDefEqProofs [-List.map_take, -List.map_drop, go_sem, hw0, hwn]
    have c1 := hsz1
    have hy := And.intro (hw0) (hwn)
    have hdf := hy0
    exact wk1
  rw [szR_pos hb1] at hsz1
  obtain ⟨n1, hn1⟩ : ∃ n, n = n0 - (x.es.length + wModules (x.es.map LModule.core)) := ⟨_, rfl⟩
  rw [← hn1] at hsz1
  have hc1 : decide (((n1 : Nat) : Int) < 0) = false := by first | (simp; done) | (simp; omega)
  have hsz2 := szValue_ct v n1 (by omega)
  have hx : SmP (x.es.map LModule.core) := SmP_of_w _ (by rw [List.length_map]; omega)
  by_cases hb2 : n1 < wExpr v.core
  · rw [szR_neg hb2] at hsz2
    simp -implicitDefEqProofs [-List.map_take, -List.map_drop, go_sem, hw0, hwn]
    have c1 := hsz1
    have c2 := hsz2
    have hy := And.intro (hw0) (And.intro (hwn) (hc1))
    have hdf := hy0
    exact wk1
  rw [szR_pos hb2] at hsz2
  obtain ⟨n2, hn2⟩ : ∃ n, n = n1 - wExpr v.core := ⟨_, rfl⟩
  rw [← hn2] at hsz2
  have hc2 : decide (((n2 : Nat) : Int) < 0) = false := by first | (simp; done) | (simp; omega)
  have hv : v.core.Sm := Sm_of_w _ (by omega)
  have hxt := toP_ct x true hx
  have hxf := toP_ct x false hx
  have hvt := toValue_ct v true hv
  have hvf := toValue_ct v false hv
  have hs := valueTyped_ct (toP false x.es) (toE false v) t (by rw [toP_core]; exact hx)
  have hi := ivalueTyped_ct (toP false x.es) (toE false v) t (by rw [toP_core]; exact hx)
  have ht := ivalueTyped_ct (toP true x.es) (toE true v) t (by rw [toP_core]; exact hx)
  rw [toP_core, toE_core] at hs hi ht
  have hnx := intactP_ct x hx
  have hnv := intactValue_ct v hv
  obtain ⟨r, hr⟩ : ∃ r, r = valueTyped (x.es.map LModule.core) v.core t := ⟨_, rfl⟩
  rw [← hr] at hs hi ht
  simp -implicitDefEqProofs [-List.map_take, -List.map_drop, go_sem, hw0, hwn]
  have c1 := hsz1
  have c2 := hsz2
  have c3 := hxf
  have c4 := hvf
  have c5 := hxt
  have c6 := hvt
  have c7 := hs
  have c8 := hi
  have c9 := ht
  have c10 := hnx
  have c11 := hnv
  have hy := And.intro (hw0) (And.intro (hwn) (And.intro (hc1) (hc2)))
  have hdf := hy0
  exact wk1
end Go.Mach
