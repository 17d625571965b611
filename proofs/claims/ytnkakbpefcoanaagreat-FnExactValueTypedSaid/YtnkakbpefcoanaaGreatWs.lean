import Derived.Test.YtnkakbpefcoanaaGreatMh
import Derived.Test.YtnkakbpefcoanaaGreatWq
import Derived.Test.YtnkakbpefcoanaaGreatDc
/- Values and their types, of the reference, walked. -/
set_option maxHeartbeats 4000000
namespace Go.Mach
open Go Go.Proofs
set_option linter.unusedVariables false
set_option linter.unusedSimpArgs false
attribute [local go_sem] Z.k Z.g Z.n Z.m Z.t Z.i Z.b Z.s Z.c Z.r Z.q run_seq run_skip run_reg run_blk run_exit run_ret run_cond cnd_true cnd_false kx_seq_normal kx_seq_exit kx_seq_ret kx_blk_normal kx_blk_same kx_blk_other kx_blk_ret kx_loop_exit kx_loop_ret kx_done ops_nil ops_plain ops_grd gv_tt gv_ff gv_tf gv_ft gv_tup stp_ok stp_ob stp_hp stp_bad stp_if get_t get_c putO_some putO_none put_same put_ne put_σ put_base withσ_τ withσ_σ withσ_base withσ_put withσ_withσ mk_τ mk_σ mk_base mk_withσ entry_τ entry_σ entry_base calm_nil calm_plain calm_grd cgv_tt cgv_ff cgv_tf cgv_ft cgv_tup cstp_ok cstp_ob cstp_if
attribute [local irreducible] Ct Co Cs
attribute [local go_sem] evalOp notV negV pickV binV intB seqV beqV catV lensV lenlV boxV_eq newV cellsOf cellV fadrV fldV fldC loadV loadC_ag loadC_one plainV isOwn iadrV storeV lk bdV bdL renO renL renV pureV pureL noOwnV noOwnL idxV slsV optI extV resL resV ret1 mmV cnviV cnvsV nilcV eqnV bslV bslGo appV elems okE appE getD_map okO_none okO_some strC intC Sl.I
attribute [local simp] Bind.eqa Use.eqa loadC_str loadC_int Bind.C_len Bind.C_pure Bind.C_noOwn Bind.C_cell Bind.C_bd Bind.C_bdL Bind.C_ren Bind.C_any Bind.C_any0 Bind.C_any1 Bind.C_anyt Bind.C_take Bind.C_load Bind.C_load0 Bind.C_load1 Bind.C_fld Bind.C_box Bind.C_fold Use.C_len Use.C_pure Use.C_noOwn Use.C_cell Use.C_bd Use.C_bdL Use.C_ren Use.C_any Use.C_any0 Use.C_any1 Use.C_anyt Use.C_take Use.C_load Use.C_load0 Use.C_load1 Use.C_fld Use.C_box Use.C_fold LExpr.C_len LExpr.C_pure LExpr.C_noOwn LExpr.C_cell LExpr.C_bd LExpr.C_bdL LExpr.C_ren LExpr.C_any LExpr.C_any0 LExpr.C_any1 LExpr.C_anyt LExpr.C_take LExpr.C_load LExpr.C_load0 LExpr.C_load1 LExpr.C_fld LExpr.C_box LExpr.C_fold LDecl.C_len LDecl.C_pure LDecl.C_noOwn LDecl.C_cell LDecl.C_bd LDecl.C_bdL LDecl.C_ren LDecl.C_any LDecl.C_any0 LDecl.C_any1 LDecl.C_anyt LDecl.C_take LDecl.C_load LDecl.C_load0 LDecl.C_load1 LDecl.C_fld LDecl.C_box LDecl.C_fold LModule.C_len LModule.C_pure LModule.C_noOwn LModule.C_cell LModule.C_bd LModule.C_bdL LModule.C_ren LModule.C_any LModule.C_any0 LModule.C_any1 LModule.C_anyt LModule.C_take LModule.C_load LModule.C_load0 LModule.C_load1 LModule.C_fld LModule.C_box LModule.C_fold
attribute [local go_sem] mix_nil mix_fplain mix_fgrd mix_oplain fg_tt fg_ff fg_tf fg_ft fg_tup fstp_ok fstp_ob fstp_if og_tt og_ff dstIn
attribute [local go_sem] mix_nilH mix_fplainH mix_fgrdH mix_oplainH fg_ttH fg_ffH fg_tfH fg_ftH fg_tupH fstp_okH fstp_obH fstp_ifH og_ttH og_ffH dstInS buildV fillC

def validValues_L (l : Sl LExpr) (deep : Nat) (i : Nat) (_ : Unit) : St := ⟨lk [(0, l.I LExpr.C), (1, .int .i64 deep), (5, .int .i64 i)], [], []⟩
open Z in
def mf_spec_validValues : MF := ⟨19, [(.t 4)], q (r [k 4 (.mov (b false))]) (q (q (r [k 5 (.mov (i 0))]) (.blk 0 (.loop (q (q (r [m 6 5, m 7 0, k 8 (.lenl (t 7)), k 9 (.bin .lss (t 6) (t 8))]) (.cond (t 9) .skip (.exit 0))) (q (.blk 1 (q (r [m 12 0, m 13 5, k 14 (.iadr 4 (t 12) (t 13)), k 15 (.load true 4 (t 14)), m 16 1, k 17 (c 82 [t 15, t 16]), k 18 (.not (t 17))]) (.cond (t 18) (q (r [k 4 (.mov (b false))]) .ret) .skip))) (r [m 10 5, k 11 (.bin .add (t 10) (i 1)), m 5 11])))))) (q (r [k 4 (.mov (b true))]) .ret))⟩
theorem fit_spec_validValues : Fit Tryz.prog 145 Tryz.f145 mf_spec_validValues := ⟨by kernel_rfl, Tryz.func145, by kernel_rfl, by kernel_rfl, by kernel_rfl, by kernel_rfl⟩
theorem validValues_ct (l : Sl LExpr) (deep : Nat) (hg : ∀ a, a ∈ l.es → Ct Tryz.prog 82 [.agg a.C, .int .i64 deep] (.bool (validV a.core deep))) : Ct Tryz.prog 145 [l.I LExpr.C, .int .i64 deep] (.bool (validVs (l.es.map LExpr.core) deep)) := by
  refine ct_of_run fit_spec_validValues (by simp [mf_spec_validValues]) (by simp [go_sem]) fun hd => ?_
  simp -implicitDefEqProofs [-List.map_take, -List.map_drop, go_sem, mf_spec_validValues]
  have hm : l.es.length ≤ maxLen := sl_deep hd.1
  refine run_iter (l.es.length) (validValues_L l deep) (fun i a => validVs ((l.es.drop i).map LExpr.core) deep = validVs (l.es.map LExpr.core) deep) () (gh_auto (by simp [go_sem, validValues_L])) (by first | (simp; done) | (simp []; done) | (simp []; omega) | grind) ?_
  intro i a hi hj
  simp -implicitDefEqProofs [-List.map_take, -List.map_drop, go_sem, validValues_L]
  refine cnd_split (fun hc => ?_) (fun hc => ?_)
  · have hlt : i < l.es.length := by first | (simpa using hc) | (simp at hc; omega)
    rw [List.drop_eq_getElem_cons (l := l.es) (by omega)] at hj
    simp only [List.map_cons, List.map_cons, List.map_nil, validVs] at hj
    simp -implicitDefEqProofs [-List.map_take, -List.map_drop, go_sem, hlt]
    have c1 := hg l.es[i] (List.getElem_mem hlt)
    have hy := hlt
    have hdf := hy0
    have eL := @validValues_L.eq_1
    have hm0 := hm
    have hlt0 := hlt
    exact wk1n
  · have hge : l.es.length ≤ i := by first | (simpa using hc) | (simp at hc; omega)
    rw [List.drop_of_length_le (l := l.es) (by omega)] at hj
    simp only [List.map_nil, List.map_cons, List.map_nil, validVs] at hj
    try simp -implicitDefEqProofs [-List.map_take, -List.map_drop, go_sem]
    have hy := hy0
    have hdf := hy0
    exact wk0
open Z in
def mf_spec_validValue : MF := ⟨109, [(.t 4)], q (r [k 2 (.box 35 (t 0)), k 4 (.mov (b false))]) (q (q (r [k 5 (.fadr 0 (t 2)), k 6 (.load false 1 (t 5))]) (.blk 0 (q (r [k 8 (.bin .eql (t 6) (i 0)), m 7 8]) (.cond (t 7) (q (r [k 9 (.fadr 1 (t 2)), k 10 (.load false 1 (t 9)), k 11 (c 63 [t 10, i 0, i 9999]), m 12 11, g 13 (.fadr 2 (t 2)) 12 true, g 14 (.load false 1 (t 13)) 12 true, g 15 (.seq false (t 14) (s [])) 12 true, k 16 (.pick (t 12) (t 15) (b false)), m 17 16, g 18 (.fadr 3 (t 2)) 17 true, g 19 (.load false 1 (t 18)) 17 true, g 20 (.lenl (t 19)) 17 true, g 21 (.bin .eql (t 20) (i 0)) 17 true, k 22 (.pick (t 17) (t 21) (b false)), m 4 22]) .ret) (q (r [k 24 (.bin .eql (t 6) (i 1)), m 23 24]) (.cond (t 23) (q (r [k 25 (.fadr 1 (t 2)), k 26 (.load false 1 (t 25)), k 27 (c 63 [t 26, i 0, i 1]), m 28 27, g 29 (.fadr 2 (t 2)) 28 true, g 30 (.load false 1 (t 29)) 28 true, g 31 (.seq false (t 30) (s [])) 28 true, k 32 (.pick (t 28) (t 31) (b false)), m 33 32, g 34 (.fadr 3 (t 2)) 33 true, g 35 (.load false 1 (t 34)) 33 true, g 36 (.lenl (t 35)) 33 true, g 37 (.bin .eql (t 36) (i 0)) 33 true, k 38 (.pick (t 33) (t 37) (b false)), m 4 38]) .ret) (q (r [k 40 (.bin .eql (t 6) (i 2)), m 39 40]) (.cond (t 39) (q (r [k 41 (.fadr 2 (t 2)), k 42 (.load false 1 (t 41)), k 43 (c 144 [t 42]), m 44 43, g 45 (.fadr 1 (t 2)) 44 true, g 46 (.load false 1 (t 45)) 44 true, g 47 (.bin .eql (t 46) (i 0)) 44 true, k 48 (.pick (t 44) (t 47) (b false)), m 49 48, g 50 (.fadr 3 (t 2)) 49 true, g 51 (.load false 1 (t 50)) 49 true, g 52 (.lenl (t 51)) 49 true, g 53 (.bin .eql (t 52) (i 0)) 49 true, k 54 (.pick (t 49) (t 53) (b false)), m 4 54]) .ret) (q (r [k 56 (.bin .eql (t 6) (i 3)), m 55 56]) (.cond (t 55) (q (r [k 57 (.fadr 1 (t 2)), k 58 (.load false 1 (t 57)), k 59 (.bin .eql (t 58) (i 0)), m 60 59, g 61 (.fadr 2 (t 2)) 60 true, g 62 (.load false 1 (t 61)) 60 true, g 63 (.seq false (t 62) (s [])) 60 true, k 64 (.pick (t 60) (t 63) (b false)), m 65 64, g 66 (.fadr 3 (t 2)) 65 true, g 67 (.load false 1 (t 66)) 65 true, g 68 (.lenl (t 67)) 65 true, g 69 (.bin .leq (t 68) (i 4)) 65 true, k 70 (.pick (t 65) (t 69) (b false)), m 71 70, g 72 (.mov (t 1)) 71 true, g 73 (.bin .gtr (t 72) (i 1)) 71 true, k 74 (.pick (t 71) (t 73) (b false)), m 75 74, g 76 (.fadr 3 (t 2)) 75 true, g 77 (.load false 1 (t 76)) 75 true, g 78 (.mov (t 1)) 75 true, g 79 (.bin .sub (t 78) (i 1)) 75 true, g 80 (c 145 [t 77, t 79]) 75 true, k 81 (.pick (t 75) (t 80) (b false)), m 4 81]) .ret) (q (r [k 83 (.bin .eql (t 6) (i 4)), m 82 83]) (.cond (t 82) (q (r [k 84 (.fadr 1 (t 2)), k 85 (.load false 1 (t 84)), k 86 (.bin .eql (t 85) (i 0)), m 87 86, g 88 (.fadr 2 (t 2)) 87 true, g 89 (.load false 1 (t 88)) 87 true, g 90 (c 85 [t 89]) 87 true, k 91 (.pick (t 87) (t 90) (b false)), m 92 91, g 93 (.fadr 3 (t 2)) 92 true, g 94 (.load false 1 (t 93)) 92 true, g 95 (.lenl (t 94)) 92 true, g 96 (c 63 [t 95, i 1, i 4]) 92 true, k 97 (.pick (t 92) (t 96) (b false)), m 98 97, g 99 (.mov (t 1)) 98 true, g 100 (.bin .gtr (t 99) (i 1)) 98 true, k 101 (.pick (t 98) (t 100) (b false)), m 102 101, g 103 (.fadr 3 (t 2)) 102 true, g 104 (.load false 1 (t 103)) 102 true, g 105 (.mov (t 1)) 102 true, g 106 (.bin .sub (t 105) (i 1)) 102 true, g 107 (c 145 [t 104, t 106]) 102 true, k 108 (.pick (t 102) (t 107) (b false)), m 4 108]) .ret) .skip)))))))))))) (q (r [k 4 (.mov (b false))]) .ret))⟩
theorem fit_spec_validValue : Fit Tryz.prog 82 Tryz.f82 mf_spec_validValue := ⟨by kernel_rfl, Tryz.func82, by kernel_rfl, by kernel_rfl, by kernel_rfl, by kernel_rfl⟩
theorem validValue_ct (e : LExpr) (deep : Nat) (hde : deep ≤ 1000) : Ct Tryz.prog 82 [.agg e.C, .int .i64 deep] (.bool (validV e.core deep)) := by
  have hvs := validValues_ct ⟨e.kids, e.sp, e.lim⟩ (deep - 1) (fun a ha => validValue_ct a (deep - 1) (by omega))
  obtain ⟨Y, hY⟩ : ∃ Y, Y = validV e.core deep := ⟨_, rfl⟩
  rw [← hY]
  rw [validV_eq, LExpr.core_kind, LExpr.core_num, LExpr.core_text, LExpr.core_kids, List.length_map] at hY
  simp only [Sl.I] at hvs
  refine ct_of_run fit_spec_validValue (by simp [mf_spec_validValue]) (by simp [go_sem]) fun hd => ?_
  simp -implicitDefEqProofs [-List.map_take, -List.map_drop, go_sem, mf_spec_validValue]
  by_cases k0 : e.kind = 0
  · have hk : (e.kind == 0) = true := by simpa using k0
    rw [hk] at hY
    simp only [if_true] at hY
    subst hY
    simp -implicitDefEqProofs [-List.map_take, -List.map_drop, go_sem, hk]
    have c1 := inRange_ct e.num 0 9999
    have hy := hk
    have hdf := hy0
    exact wk1
  have n0 : (e.kind == 0) = false := by simpa using k0
  by_cases k1 : e.kind = 1
  · have hk : (e.kind == 1) = true := by simpa using k1
    rw [n0, hk] at hY
    simp only [Bool.false_eq_true, if_false, if_true] at hY
    subst hY
    simp -implicitDefEqProofs [-List.map_take, -List.map_drop, go_sem, n0, hk]
    have c1 := inRange_ct e.num 0 1
    have hy := And.intro (n0) (hk)
    have hdf := hy0
    exact wk1
  have n1 : (e.kind == 1) = false := by simpa using k1
  by_cases k2 : e.kind = 2
  · have hk : (e.kind == 2) = true := by simpa using k2
    rw [n0, n1, hk] at hY
    simp only [Bool.false_eq_true, if_false, if_true] at hY
    subst hY
    simp -implicitDefEqProofs [-List.map_take, -List.map_drop, go_sem, n0, n1, hk]
    have c1 := isWord_ct e.text
    have hy := And.intro (n0) (And.intro (n1) (hk))
    have hdf := hy0
    exact wk1
  have n2 : (e.kind == 2) = false := by simpa using k2
  have hw : (1 : Int) < (deep : Int) → IntKind.i64.wrap ((deep : Int) - 1) = ((deep - 1 : Nat) : Int) := fun h => by rw [wrap_small (by omega) (by omega)]; omega
  by_cases k3 : e.kind = 3
  · have hk : (e.kind == 3) = true := by simpa using k3
    rw [n0, n1, n2, hk] at hY
    simp only [Bool.false_eq_true, if_false, if_true] at hY
    subst hY
    simp -implicitDefEqProofs [-List.map_take, -List.map_drop, go_sem, n0, n1, n2, hk]
    by_cases hdp : (1 : Int) < (deep : Int)
    · have hw1 := hw hdp
      have hdd : decide ((deep : Int) > 1) = true := decide_eq_true hdp
      have c1 := hvs
      have hy := And.intro (n0) (And.intro (n1) (And.intro (n2) (And.intro (hk) (And.intro (hw1) (hdp)))))
      have hdf := hy0
      exact wk1
    · have hdd : decide ((deep : Int) > 1) = false := decide_eq_false hdp
      have c1 := hvs
      have hy := And.intro (n0) (And.intro (n1) (And.intro (n2) (And.intro (hk) (hdp))))
      have hdf := hy0
      exact wk1
  have n3 : (e.kind == 3) = false := by simpa using k3
  by_cases k4 : e.kind = 4
  · have hk : (e.kind == 4) = true := by simpa using k4
    rw [n0, n1, n2, n3, hk] at hY
    simp only [Bool.false_eq_true, if_false, if_true] at hY
    subst hY
    simp -implicitDefEqProofs [-List.map_take, -List.map_drop, go_sem, n0, n1, n2, n3, hk]
    by_cases hdp : (1 : Int) < (deep : Int)
    · have hw1 := hw hdp
      have hdd : decide ((deep : Int) > 1) = true := decide_eq_true hdp
      have c1 := hvs
      have c2 := isName_ct e.text
      have c3 := inRange_ct e.kids.length 1 4
      have hy := And.intro (n0) (And.intro (n1) (And.intro (n2) (And.intro (n3) (And.intro (hk) (And.intro (hw1) (hdp))))))
      have hdf := hy0
      exact wk1
    · have hdd : decide ((deep : Int) > 1) = false := decide_eq_false hdp
      have c1 := hvs
      have c2 := isName_ct e.text
      have c3 := inRange_ct e.kids.length 1 4
      have hy := And.intro (n0) (And.intro (n1) (And.intro (n2) (And.intro (n3) (And.intro (hk) (hdp)))))
      have hdf := hy0
      exact wk1
  have n4 : (e.kind == 4) = false := by simpa using k4
  rw [n0, n1, n2, n3, n4] at hY
  simp only [Bool.false_eq_true, if_false] at hY
  subst hY
  simp -implicitDefEqProofs [-List.map_take, -List.map_drop, go_sem, n0, n1, n2, n3, n4]
  have hy := And.intro (n0) (And.intro (n1) (And.intro (n2) (And.intro (n3) (n4))))
  have hdf := hy0
  exact wk0
termination_by SizeOf.sizeOf e
decreasing_by exact LExpr.kid_lt ha
open Z in
def mf_spec_ValueOk : MF := ⟨5, [(.t 2)], q (r [k 1 (.box 35 (t 0)), k 2 (.mov (b false))]) (q (r [k 3 (.load true 4 (t 1)), k 4 (c 82 [t 3, i 6]), m 2 4]) .ret)⟩
theorem fit_spec_ValueOk : Fit Tryz.prog 38 Tryz.f38 mf_spec_ValueOk := ⟨by kernel_rfl, Tryz.func38, by kernel_rfl, by kernel_rfl, by kernel_rfl, by kernel_rfl⟩
theorem valueOk_ct (e : LExpr) : Ct Tryz.prog 38 [.agg e.C] (.bool (validV e.core 6)) := by
  have h1 := validValue_ct e 6 (by decide)
  refine ct_of_run fit_spec_ValueOk (by simp [mf_spec_ValueOk]) (by simp [go_sem]) fun hd => ?_
  simp -implicitDefEqProofs [-List.map_take, -List.map_drop, go_sem, mf_spec_ValueOk]
  have c1 := h1
  have hy := hy0
  have hdf := hy0
  exact wk1
def hasT_L (p : Sl LModule) (e : LExpr) (it : Str) (i : Nat) (a : Bool) : St := ⟨lk [(0, p.I LModule.C), (4, .ptr 0 1 0 0), (7, .str it), (8, .bool a), (9, .int .i64 i)], [some ⟨[[.int .i64 e.kind, .int .i64 e.num, .str e.text, .imm (e.kids.map LExpr.C) e.sp e.lim]], 4, 35, false, false⟩], []⟩
def hasT_L2 (p : Sl LModule) (e : LExpr) (d : LDecl) (i : Nat) (_ : Unit) : St := ⟨lk [(0, p.I LModule.C), (4, .ptr 0 1 0 0), (10, .ptr 1 1 0 0), (12, .int .i64 i)], [some ⟨[[.int .i64 e.kind, .int .i64 e.num, .str e.text, .imm (e.kids.map LExpr.C) e.sp e.lim]], 4, 35, false, false⟩, some ⟨[d.C], 8, 72, false, false⟩], []⟩
theorem hasT_none {p : List Module} {e : Expr} {t : Str} (h0 : (e.kind == 0) = false) (h1 : (e.kind == 1) = false) (h2 : (e.kind == 2) = false) (h3 : (e.kind == 3) = false) (hr : recS p e.text = none) : hasT p e t = false := by
  rw [hasT_eq, h0, h1, h2, h3, hr]; rfl
theorem hasT_some {p : List Module} {e : Expr} {t : Str} {r : Decl} (h0 : (e.kind == 0) = false) (h1 : (e.kind == 1) = false) (h2 : (e.kind == 2) = false) (h3 : (e.kind == 3) = false) (hr : recS p e.text = some r) :
    hasT p e t = (e.text == t && ((e.kids.length : Int) == (r.binds.length : Int) && hasTs p e.kids (r.binds.map Bind.type))) := by
  rw [hasT_eq, h0, h1, h2, h3, hr]; rfl
theorem allT_cons (p : List Module) (t : Str) (x : Expr) (xs : List Expr) : allT p (x :: xs) t = (hasT p x t && allT p xs t) := by rw [allT]
theorem allT_nil (p : List Module) (t : Str) : allT p [] t = true := by rw [allT]
open Z in
def mf_spec_hasType : MF := ⟨98, [(.t 6)], q (r [k 4 (.box 35 (t 1)), k 6 (.mov (b false))]) (q (q (r [k 13 (.fadr 0 (t 4)), k 14 (.load false 1 (t 13))]) (.blk 0 (q (r [k 16 (.bin .eql (t 14) (i 0)), m 15 16]) (.cond (t 15) (q (r [m 17 2, k 18 (.seq false (t 17) (s [105, 110, 116])), m 6 18]) .ret) (q (r [k 20 (.bin .eql (t 14) (i 1)), m 19 20]) (.cond (t 19) (q (r [m 21 2, k 22 (.seq false (t 21) (s [98, 111, 111, 108])), m 6 22]) .ret) (q (r [k 24 (.bin .eql (t 14) (i 2)), m 23 24]) (.cond (t 23) (q (r [m 25 2, k 26 (.seq false (t 25) (s [116, 101, 120, 116])), m 6 26]) .ret) (q (r [k 28 (.bin .eql (t 14) (i 3)), m 27 28]) (.cond (t 27) (q (r [m 30 2, k 31 (c 86 [t 30]), m 29 31, k 32 (.ext (t 29) 0), k 33 (.ext (t 29) 1), m 7 32, m 8 33]) (q (q (r [k 9 (.mov (i 0))]) (.blk 1 (.loop (q (q (r [m 34 9, k 35 (.fadr 3 (t 4)), k 36 (.load false 1 (t 35)), k 37 (.lenl (t 36)), k 38 (.bin .lss (t 34) (t 37)), m 39 38, g 40 (.mov (t 8)) 39 true, k 41 (.pick (t 39) (t 40) (b false))]) (.cond (t 41) .skip (.exit 1))) (q (.blk 2 (r [m 44 0, k 45 (.fadr 3 (t 4)), k 46 (.load false 1 (t 45)), m 47 9, k 48 (.iadr 4 (t 46) (t 47)), k 49 (.load true 4 (t 48)), m 50 7, k 51 (c 40 [t 44, t 49, t 50]), m 8 51])) (r [m 42 9, k 43 (.bin .add (t 42) (i 1)), m 9 43])))))) (q (r [m 52 8, m 6 52]) .ret))) .skip)))))))))) (q (r [m 54 0, k 55 (.fadr 2 (t 4)), k 56 (.load false 1 (t 55)), k 57 (c 87 [t 54, t 56]), m 53 57, k 58 (.ext (t 53) 0), k 59 (.ext (t 53) 1), k 10 (.alloc 72 [.int .i64 0, .str [], .imm [] [] true, .str [], .int .i64 0, .int .i64 0, .str [], .imm [] [] true]), n (.store 8 (t 10) (t 58)), m 11 59]) (q (q (r [m 60 11, k 61 (.not (t 60)), m 62 61, g 63 (.fadr 2 (t 4)) 62 false, g 64 (.load false 1 (t 63)) 62 false, g 65 (.mov (t 2)) 62 false, g 66 (.seq true (t 64) (t 65)) 62 false, k 67 (.pick (t 62) (b true) (t 66)), m 68 67, g 69 (.fadr 3 (t 4)) 68 false, g 70 (.load false 1 (t 69)) 68 false, g 71 (.lenl (t 70)) 68 false, g 72 (.fadr 2 (t 10)) 68 false, g 73 (.load false 1 (t 72)) 68 false, g 74 (.lenl (t 73)) 68 false, g 75 (.bin .neq (t 71) (t 74)) 68 false, k 76 (.pick (t 68) (b true) (t 75))]) (.cond (t 76) (q (r [k 6 (.mov (b false))]) .ret) .skip)) (q (q (r [k 12 (.mov (i 0))]) (.blk 3 (.loop (q (q (r [m 77 12, k 78 (.fadr 3 (t 4)), k 79 (.load false 1 (t 78)), k 80 (.lenl (t 79)), k 81 (.bin .lss (t 77) (t 80))]) (.cond (t 81) .skip (.exit 3))) (q (.blk 4 (q (.dreg [(m 84 0, []), (k 85 (.fadr 3 (t 4)), []), (k 86 (.load false 1 (t 85)), [1]), (m 87 12, []), (k 88 (.iadr 4 (t 86) (t 87)), [2, 3]), (k 89 (.load true 4 (t 88)), [4]), (k 90 (.fadr 2 (t 10)), []), (k 91 (.load false 1 (t 90)), [6]), (m 92 12, []), (k 93 (.iadr 2 (t 91) (t 92)), [7, 8]), (k 94 (.fadr 1 (t 93)), [9]), (k 95 (.load false 1 (t 94)), [10]), (k 96 (c 40 [t 84, t 89, t 95]), [0, 5, 11]), (k 97 (.not (t 96)), [12])]) (.cond (t 97) (q (r [k 6 (.mov (b false))]) .ret) .skip))) (r [m 82 12, k 83 (.bin .add (t 82) (i 1)), m 12 83])))))) (q (r [k 6 (.mov (b true))]) .ret)))))⟩
theorem fit_spec_hasType : Fit Tryz.prog 40 Tryz.f40 mf_spec_hasType := ⟨by kernel_rfl, Tryz.func40, by kernel_rfl, by kernel_rfl, by kernel_rfl, by kernel_rfl⟩
theorem hasType_ct (p : Sl LModule) (e : LExpr) (t : Str) : Ct Tryz.prog 40 [p.I LModule.C, .agg e.C, .str t] (.bool (hasT (p.es.map LModule.core) e.core t)) := by
  have ihk : ∀ x, x ∈ e.kids → ∀ u, Ct Tryz.prog 40 [p.I LModule.C, .agg x.C, .str u] (.bool (hasT (p.es.map LModule.core) x.core u)) := fun x hx u => hasType_ct p x u
  obtain ⟨Y, hY⟩ : ∃ Y, Y = hasT (p.es.map LModule.core) e.core t := ⟨_, rfl⟩
  rw [← hY]
  refine ct_of_run fit_spec_hasType (by simp [mf_spec_hasType]) (by simp [go_sem]) fun hd => ?_
  simp -implicitDefEqProofs [-List.map_take, -List.map_drop, go_sem, mf_spec_hasType]
  have hm : e.kids.length ≤ maxLen := by have := LExpr.deep hd.2.1; omega
  by_cases k0 : e.kind = 0
  · have hk : (e.kind == 0) = true := by simpa using k0
    rw [hasT_eq, LExpr.core_kind, hk] at hY
    simp only [if_true] at hY
    subst hY
    simp -implicitDefEqProofs [-List.map_take, -List.map_drop, go_sem, hk]
    have hy := hk
    have hdf := hy0
    exact wk0
  have n0 : (e.kind == 0) = false := by simpa using k0
  by_cases k1 : e.kind = 1
  · have hk : (e.kind == 1) = true := by simpa using k1
    rw [hasT_eq, LExpr.core_kind, n0, hk] at hY
    simp only [Bool.false_eq_true, if_false, if_true] at hY
    subst hY
    simp -implicitDefEqProofs [-List.map_take, -List.map_drop, go_sem, n0, hk]
    have hy := And.intro (n0) (hk)
    have hdf := hy0
    exact wk0
  have n1 : (e.kind == 1) = false := by simpa using k1
  by_cases k2 : e.kind = 2
  · have hk : (e.kind == 2) = true := by simpa using k2
    rw [hasT_eq, LExpr.core_kind, n0, n1, hk] at hY
    simp only [Bool.false_eq_true, if_false, if_true] at hY
    subst hY
    simp -implicitDefEqProofs [-List.map_take, -List.map_drop, go_sem, n0, n1, hk]
    have hy := And.intro (n0) (And.intro (n1) (hk))
    have hdf := hy0
    exact wk0
  have n2 : (e.kind == 2) = false := by simpa using k2
  by_cases k3 : e.kind = 3
  · have hk : (e.kind == 3) = true := by simpa using k3
    have hY0 : Y = (itemOk t && allT (p.es.map LModule.core) (e.kids.map LExpr.core) (mid t)) := by
      rw [hasT_eq, LExpr.core_kind, n0, n1, n2, hk, LExpr.core_kids] at hY
      simpa using hY
    clear hY
    have hti := typeItem_ct t
    simp -implicitDefEqProofs [-List.map_take, -List.map_drop, go_sem, n0, n1, n2, hk]
    cases hI : itemOk t with
    | false =>
      rw [hI] at hti hY0
      have hS : itemS t = [] := by rw [itemS, hI]; rfl
      rw [hS] at hti
      simp only [Bool.false_and] at hY0
      subst hY0
      repeat' first
        | ((first | refine gv_split (fun h => ?_) (fun h => ?_) | refine cnd_split (fun h => ?_) (fun h => ?_) | refine cgv_split (fun h => ?_) (fun h => ?_)) <;> (try (have hp := h; simp at hp)) <;> simp -implicitDefEqProofs [-List.map_take, -List.map_drop, go_sem, h, n0, n1, n2, hk])
        | (refine And.intro (by first | omega | (simp only [maxLen]; omega) | (simp_all; done) | (simp_all; omega)) ?_; try simp -implicitDefEqProofs [-List.map_take, -List.map_drop, go_sem, n0, n1, n2, hk])
        | ((first | refine stp_ct (hti) (by simp [go_sem, n0, n1, n2, hk]) ?_ ?_ | refine cstp_ct (hti) (by simp [go_sem, n0, n1, n2, hk]) ?_ ?_); (simp [go_sem]); simp -implicitDefEqProofs [-List.map_take, -List.map_drop, go_sem, n0, n1, n2, hk])
        | (refine run_dreg' (by decide) ?_; simp -implicitDefEqProofs [-List.map_take, -List.map_drop, go_sem, n0, n1, n2, hk])
        | ((first | refine end_tup _ (by simp) (by simp [go_sem]; rfl) (by simp [go_sem]) ?_); first | (simp [go_sem, *]; done) | grind | (simp [go_sem]; grind) | (simp_all [go_sem]; done) | (simp_all [go_sem]; omega))
      refine run_iter (e.kids.length) (hasT_L p e []) (fun i a => a = false) false (gh_auto (by simp [go_sem, hasT_L])) rfl ?_
      intro i a hi hj
      subst hj
      simp -implicitDefEqProofs [-List.map_take, -List.map_drop, go_sem, hasT_L]
      have hy := hy0
      have hdf := hy0
      exact wk0
    | true =>
      have hS : itemS t = mid t := by rw [itemS, hI]; rfl
      rw [hI, hS] at hti
      rw [hI] at hY0
      simp only [Bool.true_and] at hY0
      repeat' first
        | ((first | refine gv_split (fun h => ?_) (fun h => ?_) | refine cnd_split (fun h => ?_) (fun h => ?_) | refine cgv_split (fun h => ?_) (fun h => ?_)) <;> (try (have hp := h; simp at hp)) <;> simp -implicitDefEqProofs [-List.map_take, -List.map_drop, go_sem, h, n0, n1, n2, hk])
        | (refine And.intro (by first | omega | (simp only [maxLen]; omega) | (simp_all; done) | (simp_all; omega)) ?_; try simp -implicitDefEqProofs [-List.map_take, -List.map_drop, go_sem, n0, n1, n2, hk])
        | ((first | refine stp_ct (hti) (by simp [go_sem, n0, n1, n2, hk]) ?_ ?_ | refine cstp_ct (hti) (by simp [go_sem, n0, n1, n2, hk]) ?_ ?_); (simp [go_sem]); simp -implicitDefEqProofs [-List.map_take, -List.map_drop, go_sem, n0, n1, n2, hk])
        | (refine run_dreg' (by decide) ?_; simp -implicitDefEqProofs [-List.map_take, -List.map_drop, go_sem, n0, n1, n2, hk])
        | ((first | refine end_tup _ (by simp) (by simp [go_sem]; rfl) (by simp [go_sem]) ?_); first | (simp [go_sem, *]; done) | grind | (simp [go_sem]; grind) | (simp_all [go_sem]; done) | (simp_all [go_sem]; omega))
      refine run_iter (e.kids.length) (hasT_L p e (mid t)) (fun i a => (a && allT (p.es.map LModule.core) ((e.kids.drop i).map LExpr.core) (mid t)) = Y) true (gh_auto (by simp [go_sem, hasT_L])) (by simp [hY0]) ?_
      intro i a hi hj
      simp -implicitDefEqProofs [-List.map_take, -List.map_drop, go_sem, hasT_L]
      by_cases hlt : i < e.kids.length
      · have hltd : decide (i < e.kids.length) = true := decide_eq_true hlt
        simp -implicitDefEqProofs [-List.map_take, -List.map_drop, go_sem, hltd]
        rw [List.drop_eq_getElem_cons hlt, List.map_cons, allT_cons] at hj
        cases a with
        | false =>
          simp only [Bool.false_and] at hj
          subst hj
          have hy := And.intro (hlt) (hltd)
          have hdf := hy0
          exact wk0
        | true =>
          have hcall := ihk e.kids[i] (List.getElem_mem hlt) (mid t)
          simp only [Bool.true_and] at hj
          repeat' first
            | ((first | refine gv_split (fun h => ?_) (fun h => ?_) | refine cnd_split (fun h => ?_) (fun h => ?_) | refine cgv_split (fun h => ?_) (fun h => ?_)) <;> (try (have hp := h; simp at hp)) <;> simp -implicitDefEqProofs [-List.map_take, -List.map_drop, go_sem, h, hlt, hltd])
            | (refine And.intro (by first | omega | (simp only [maxLen]; omega) | (simp_all; done) | (simp_all; omega)) ?_; try simp -implicitDefEqProofs [-List.map_take, -List.map_drop, go_sem, hlt, hltd])
            | ((first | refine stp_ct (hcall) (by simp [go_sem, hlt, hltd]) ?_ ?_ | refine cstp_ct (hcall) (by simp [go_sem, hlt, hltd]) ?_ ?_); (simp [go_sem]); simp -implicitDefEqProofs [-List.map_take, -List.map_drop, go_sem, hlt, hltd])
            | (refine run_dreg' (by decide) ?_; simp -implicitDefEqProofs [-List.map_take, -List.map_drop, go_sem, hlt, hltd])
            | ((first | refine kx_next (hasT (p.es.map LModule.core) e.kids[i].core (mid t)) hlt (gh_auto (by simp [go_sem, hasT_L, wrap_succ hlt hm, hlt, hltd])) ?_ | refine end_tup _ (by simp) (by simp [go_sem]; rfl) (by simp [go_sem]) ?_); first | (simp [go_sem, *]; done) | grind | (simp [go_sem]; grind) | (simp_all [go_sem]; done) | (simp_all [go_sem]; omega))
      · rw [List.drop_of_length_le (by omega), List.map_nil, allT_nil, Bool.and_true] at hj
        subst hj
        have hnlt : decide (i < e.kids.length) = false := decide_eq_false hlt
        simp -implicitDefEqProofs [-List.map_take, -List.map_drop, go_sem, hnlt]
        have hy := And.intro (hlt) (hnlt)
        have hdf := hy0
        exact wk0
  have n3 : (e.kind == 3) = false := by simpa using k3
  have hrc := record_ct p e.text
  simp -implicitDefEqProofs [-List.map_take, -List.map_drop, go_sem, n0, n1, n2, n3]
  have hcn := fun h => hasT_none (p := p.es.map LModule.core) (e := e.core) (t := t) (by rw [LExpr.core_kind]; exact n0) (by rw [LExpr.core_kind]; exact n1) (by rw [LExpr.core_kind]; exact n2) (by rw [LExpr.core_kind]; exact n3) h
  have hcs := fun r h => hasT_some (p := p.es.map LModule.core) (e := e.core) (t := t) (r := r) (by rw [LExpr.core_kind]; exact n0) (by rw [LExpr.core_kind]; exact n1) (by rw [LExpr.core_kind]; exact n2) (by rw [LExpr.core_kind]; exact n3) h
  rw [LExpr.core_text, ← recL_core] at hcn
  cases hx : recL p.es e.text with
  | none =>
    rw [hx] at hrc hcn
    simp only [Option.getD_none, Option.isSome_none, zeroLD_C] at hrc
    rw [hcn rfl] at hY
    subst hY
    have c1 := hrc
    have hy := And.intro (n0) (And.intro (n1) (And.intro (n2) (n3)))
    have hdf := hy0
    exact wk1
  | some d =>
    rw [hx] at hrc
    simp only [Option.getD_some, Option.isSome_some] at hrc
    have hY1 := hcs d.core (by rw [LExpr.core_text, ← recL_core, hx]; rfl)
    have hdb : d.core.binds = d.binds.es := rfl
    rw [LExpr.core_text, LExpr.core_kids, List.length_map, hdb] at hY1
    rw [hY1] at hY
    clear hY1 hcs hcn
    cases hq : e.text == t with
    | false =>
      have hqn : (!(e.text == t)) = true := by rw [hq]; rfl
      rw [hq] at hY
      simp only [Bool.false_and] at hY
      subst hY
      have c1 := hrc
      have hy := And.intro (n0) (And.intro (n1) (And.intro (n2) (And.intro (n3) (hq))))
      have hdf := hy0
      exact wk1
    | true =>
      rw [hq] at hY
      simp only [Bool.true_and] at hY
      by_cases hlen : e.kids.length = d.binds.es.length
      · have hli : ((e.kids.length : Int) != (d.binds.es.length : Int)) = false := by simp; omega
        have hle : ((e.kids.length : Int) == (d.binds.es.length : Int)) = true := by simp; omega
        rw [hle] at hY
        simp only [Bool.true_and] at hY
        subst hY
        repeat' first
          | ((first | refine gv_split (fun h => ?_) (fun h => ?_) | refine cnd_split (fun h => ?_) (fun h => ?_) | refine cgv_split (fun h => ?_) (fun h => ?_)) <;> (try (have hp := h; simp at hp)) <;> simp -implicitDefEqProofs [-List.map_take, -List.map_drop, go_sem, h, n0, n1, n2, n3, hq, hli])
          | (refine And.intro (by first | omega | (simp only [maxLen]; omega) | (simp_all; done) | (simp_all; omega)) ?_; try simp -implicitDefEqProofs [-List.map_take, -List.map_drop, go_sem, n0, n1, n2, n3, hq, hli])
          | ((first | refine stp_ct (hrc) (by simp [go_sem, n0, n1, n2, n3, hq, hli]) ?_ ?_ | refine cstp_ct (hrc) (by simp [go_sem, n0, n1, n2, n3, hq, hli]) ?_ ?_); (simp [go_sem]); simp -implicitDefEqProofs [-List.map_take, -List.map_drop, go_sem, n0, n1, n2, n3, hq, hli])
          | (refine run_dreg' (by decide) ?_; simp -implicitDefEqProofs [-List.map_take, -List.map_drop, go_sem, n0, n1, n2, n3, hq, hli])
          | ((first | refine end_tup _ (by simp) (by simp [go_sem]; rfl) (by simp [go_sem]) ?_); first | (simp [go_sem, *]; done) | grind | (simp [go_sem]; grind) | (simp_all [go_sem]; done) | (simp_all [go_sem]; omega))
        refine run_iter (e.kids.length) (hasT_L2 p e d) (fun i a => hasTs (p.es.map LModule.core) ((e.kids.drop i).map LExpr.core) ((d.binds.es.drop i).map Bind.type) = hasTs (p.es.map LModule.core) (e.kids.map LExpr.core) (d.binds.es.map Bind.type)) () (gh_auto (by simp [go_sem, hasT_L2])) (by first | (simp; done) | (simp []; done) | (simp []; omega) | grind) ?_
        intro i a hi hj
        simp -implicitDefEqProofs [-List.map_take, -List.map_drop, go_sem, hasT_L2]
        refine cnd_split (fun hc => ?_) (fun hc => ?_)
        · have hlt : i < e.kids.length := by first | (simpa using hc) | (simp at hc; omega)
          rw [List.drop_eq_getElem_cons (l := e.kids) (by omega)] at hj
          have hlt_1 : i < d.binds.es.length := by omega
          rw [List.drop_eq_getElem_cons (l := d.binds.es) (by omega)] at hj
          simp only [List.map_cons, List.map_cons, List.map_nil, hasTs_cons, hasTs_nil] at hj
          simp -implicitDefEqProofs [-List.map_take, -List.map_drop, go_sem, hlt, hlt_1]
          have c1 := ihk e.kids[i] (List.getElem_mem hlt) d.binds.es[i].type
          have hy := And.intro (hlt) (hlt_1)
          have hdf := hy0
          have eL := @hasT_L2.eq_1
          have hm0 := hm
          have hlt0 := hlt
          exact wk1n
        · have hge : e.kids.length ≤ i := by first | (simpa using hc) | (simp at hc; omega)
          rw [List.drop_of_length_le (l := e.kids) (by omega)] at hj
          rw [List.drop_of_length_le (l := d.binds.es) (by omega)] at hj
          simp only [List.map_nil, List.map_cons, List.map_nil, hasTs_cons, hasTs_nil] at hj
          try simp -implicitDefEqProofs [-List.map_take, -List.map_drop, go_sem]
          have hy := hy0
          have hdf := hy0
          exact wk0
      · have hli : ((e.kids.length : Int) != (d.binds.es.length : Int)) = true := by simp; omega
        have hle : ((e.kids.length : Int) == (d.binds.es.length : Int)) = false := by simp; omega
        rw [hle] at hY
        simp only [Bool.false_and] at hY
        subst hY
        have c1 := hrc
        have hy := And.intro (n0) (And.intro (n1) (And.intro (n2) (And.intro (n3) (And.intro (hq) (hli)))))
        have hdf := hy0
        exact wk1
termination_by SizeOf.sizeOf e
decreasing_by exact LExpr.kid_lt hx
open Z in
def mf_spec_ValueTyped : MF := ⟨23, [(.t 6)], q (r [k 4 (.box 35 (t 1)), k 6 (.mov (b false))]) (q (r [m 7 0, k 8 (c 28 [t 7]), m 9 8, g 10 (.load true 4 (t 4)) 9 true, g 11 (c 38 [t 10]) 9 true, k 12 (.pick (t 9) (t 11) (b false)), m 13 12, g 14 (.mov (t 2)) 13 true, g 15 (c 39 [t 14]) 13 true, k 16 (.pick (t 13) (t 15) (b false)), m 17 16, g 18 (.mov (t 0)) 17 true, g 19 (.load true 4 (t 4)) 17 true, g 20 (.mov (t 2)) 17 true, g 21 (c 40 [t 18, t 19, t 20]) 17 true, k 22 (.pick (t 17) (t 21) (b false)), m 6 22]) .ret)⟩
theorem fit_spec_ValueTyped : Fit Tryz.prog 14 Tryz.f14 mf_spec_ValueTyped := ⟨by kernel_rfl, Tryz.func14, by kernel_rfl, by kernel_rfl, by kernel_rfl, by kernel_rfl⟩
theorem valueTyped_ct (p : Sl LModule) (e : LExpr) (t : Str) (hs : SmP (p.es.map LModule.core)) : Ct Tryz.prog 14 [p.I LModule.C, .agg e.C, .str t] (.bool (valueTyped (p.es.map LModule.core) e.core t)) := by
  have h1 := programOk_ct p hs
  refine ct_of_run fit_spec_ValueTyped (by simp [mf_spec_ValueTyped]) (by simp [go_sem]) fun hd => ?_
  simp -implicitDefEqProofs [-List.map_take, -List.map_drop, go_sem, mf_spec_ValueTyped]
  have c1 := h1
  have c2 := valueOk_ct e
  have c3 := typeOk_ct t
  have c4 := hasType_ct p e t
  have hy := hy0
  have e1 := @valueTyped.eq_1
  have hdf := @e1
  exact wk1

def depth_L (at_ : Nat) (es : List LExpr) (sp : List (List PV)) (lim : Bool) (i : Nat) (a : Int) : St := ⟨lk [(1, .int .i64 at_), (6, .int .i64 a), (100, .imm (es.map LExpr.C) sp lim), (101, .int .i64 es.length), (102, .int .i64 i)], [], []⟩
theorem depthV_none {e : Expr} {n : Nat} (h6 : decide ((n : Int) > 6) = false) (h0 : (e.kind == 0) = false) (h1 : (e.kind == 1) = false) (h2 : (e.kind == 2) = false) (hh : headV e = true) (hn : (e.num != 0 || decide ((e.kids.length : Int) > 4)) = false) (h : depthVs e.kids (n + 1) 1 = none) : depthV e n = (0, false) := by
  rw [depthV_eq, h6, h0, h1, h2, hh, hn, h]; rfl
theorem depthV_some {e : Expr} {n : Nat} {m : Int} (h6 : decide ((n : Int) > 6) = false) (h0 : (e.kind == 0) = false) (h1 : (e.kind == 1) = false) (h2 : (e.kind == 2) = false) (hh : headV e = true) (hn : (e.num != 0 || decide ((e.kids.length : Int) > 4)) = false) (h : depthVs e.kids (n + 1) 1 = some m) : depthV e n = (m + 1, true) := by
  rw [depthV_eq, h6, h0, h1, h2, hh, hn, h]; rfl
theorem depthV_bad {e : Expr} {n : Nat} (h6 : decide ((n : Int) > 6) = false) (h0 : (e.kind == 0) = false) (h1 : (e.kind == 1) = false) (h2 : (e.kind == 2) = false) (hh : headV e = true) (hn : (e.num != 0 || decide ((e.kids.length : Int) > 4)) = true) : depthV e n = (0, false) := by
  rw [depthV_eq, h6, h0, h1, h2, hh, hn]; rfl
theorem depthV_head {e : Expr} {n : Nat} (h6 : decide ((n : Int) > 6) = false) (h0 : (e.kind == 0) = false) (h1 : (e.kind == 1) = false) (h2 : (e.kind == 2) = false) (hh : headV e = false) : depthV e n = (0, false) := by
  rw [depthV_eq, h6, h0, h1, h2, hh]; rfl
theorem depthVs_cons (x : Expr) (xs : List Expr) (n : Nat) (m : Int) : depthVs (x :: xs) n m = if (depthV x n).2 then depthVs xs n (max m (depthV x n).1) else none := by rw [depthVs]
theorem depthVs_nil (n : Nat) (m : Int) : depthVs [] n m = some m := by rw [depthVs]
open Z in
def mf_impl_Value_depth : MF := ⟨121, [(.t 4), (.t 5)], q (r [k 2 (.box 35 (t 0)), k 4 (.mov (i 0)), k 5 (.mov (b false))]) (q (q (r [m 11 1, k 12 (.bin .gtr (t 11) (i 6))]) (.cond (t 12) (q (r [k 4 (.mov (i 0)), k 5 (.mov (b false))]) .ret) .skip)) (q (q (r [k 13 (.fadr 0 (t 2)), k 14 (.load false 1 (t 13))]) (.blk 0 (q (r [k 16 (.bin .eql (t 14) (i 0)), m 15 16]) (.cond (t 15) (q (.dreg [(k 17 (.fadr 1 (t 2)), []), (k 18 (.load false 1 (t 17)), [0]), (k 19 (.bin .geq (t 18) (i 0)), [1]), (m 20 19, [2]), (g 21 (.fadr 1 (t 2)) 20 true, [3]), (g 22 (.load false 1 (t 21)) 20 true, [4, 3]), (g 23 (.bin .leq (t 22) (i 9999)) 20 true, [5, 3]), (k 24 (.pick (t 20) (t 23) (b false)), [3, 6]), (m 25 24, [7, 3]), (g 26 (.fadr 2 (t 2)) 25 true, [8]), (g 27 (.load false 1 (t 26)) 25 true, [9, 8]), (g 28 (.seq false (t 27) (s [])) 25 true, [10, 8]), (k 29 (.pick (t 25) (t 28) (b false)), [8, 11]), (m 30 29, [12, 8]), (g 31 (.fadr 3 (t 2)) 30 true, [13]), (g 32 (.load false 1 (t 31)) 30 true, [14, 13]), (g 33 (.lenl (t 32)) 30 true, [15, 13]), (g 34 (.bin .eql (t 33) (i 0)) 30 true, [16, 13]), (k 35 (.pick (t 30) (t 34) (b false)), [13, 17]), (k 4 (.mov (i 1)), [13]), (m 5 35, [18, 19, 0, 1, 2, 3, 4, 5, 6, 7, 8, 9, 10, 11, 12, 13, 14, 15, 16, 17, 18, 19])]) .ret) (q (r [k 37 (.bin .eql (t 14) (i 1)), m 36 37]) (.cond (t 36) (q (.dreg [(k 38 (.fadr 1 (t 2)), []), (k 39 (.load false 1 (t 38)), [0]), (k 40 (.bin .eql (t 39) (i 0)), [1]), (m 41 40, [2]), (g 42 (.fadr 1 (t 2)) 41 false, [3]), (g 43 (.load false 1 (t 42)) 41 false, [4, 3]), (g 44 (.bin .eql (t 43) (i 1)) 41 false, [5, 3]), (k 45 (.pick (t 41) (b true) (t 44)), [3, 6]), (m 46 45, [7, 3]), (g 47 (.fadr 2 (t 2)) 46 true, [8]), (g 48 (.load false 1 (t 47)) 46 true, [9, 8]), (g 49 (.seq false (t 48) (s [])) 46 true, [10, 8]), (k 50 (.pick (t 46) (t 49) (b false)), [8, 11]), (m 51 50, [12, 8]), (g 52 (.fadr 3 (t 2)) 51 true, [13]), (g 53 (.load false 1 (t 52)) 51 true, [14, 13]), (g 54 (.lenl (t 53)) 51 true, [15, 13]), (g 55 (.bin .eql (t 54) (i 0)) 51 true, [16, 13]), (k 56 (.pick (t 51) (t 55) (b false)), [13, 17]), (k 4 (.mov (i 1)), [13]), (m 5 56, [18, 19, 0, 1, 2, 3, 4, 5, 6, 7, 8, 9, 10, 11, 12, 13, 14, 15, 16, 17, 18, 19])]) .ret) (q (r [k 58 (.bin .eql (t 14) (i 2)), m 57 58]) (.cond (t 57) (q (.dreg [(k 59 (.fadr 1 (t 2)), []), (k 60 (.load false 1 (t 59)), [0]), (k 61 (.bin .eql (t 60) (i 0)), [1]), (m 62 61, [2]), (g 63 (.fadr 2 (t 2)) 62 true, [3]), (g 64 (.load false 1 (t 63)) 62 true, [4, 3]), (g 65 (c 148 [t 64]) 62 true, [5, 3, 3]), (k 66 (.pick (t 62) (t 65) (b false)), [3, 6]), (m 67 66, [7, 6]), (g 68 (.fadr 3 (t 2)) 67 true, [8]), (g 69 (.load false 1 (t 68)) 67 true, [9, 8]), (g 70 (.lenl (t 69)) 67 true, [10, 8]), (g 71 (.bin .eql (t 70) (i 0)) 67 true, [11, 8]), (k 72 (.pick (t 67) (t 71) (b false)), [8, 12]), (k 4 (.mov (i 1)), [8]), (m 5 72, [13, 14, 0, 1, 2, 3, 4, 5, 6, 7, 8, 9, 10, 11, 12, 13, 14])]) .ret) (q (r [k 74 (.bin .eql (t 14) (i 3)), m 73 74]) (.cond (t 73) (q (r [k 75 (.fadr 2 (t 2)), k 76 (.load false 1 (t 75)), k 77 (.seq true (t 76) (s []))]) (.cond (t 77) (q (r [k 4 (.mov (i 0)), k 5 (.mov (b false))]) .ret) .skip)) (q (r [k 79 (.bin .eql (t 14) (i 4)), m 78 79]) (.cond (t 78) (q (r [k 80 (.fadr 2 (t 2)), k 81 (.load false 1 (t 80)), k 82 (c 71 [t 81]), k 83 (.not (t 82)), m 84 83, g 85 (.fadr 3 (t 2)) 84 false, g 86 (.load false 1 (t 85)) 84 false, g 87 (.lenl (t 86)) 84 false, g 88 (.bin .eql (t 87) (i 0)) 84 false, k 89 (.pick (t 84) (b true) (t 88))]) (.cond (t 89) (q (r [k 4 (.mov (i 0)), k 5 (.mov (b false))]) .ret) .skip)) (q (r [k 4 (.mov (i 0)), k 5 (.mov (b false))]) .ret))))))))))))) (q (q (r [k 90 (.fadr 1 (t 2)), k 91 (.load false 1 (t 90)), k 92 (.bin .neq (t 91) (i 0)), m 93 92, g 94 (.fadr 3 (t 2)) 93 false, g 95 (.load false 1 (t 94)) 93 false, g 96 (.lenl (t 95)) 93 false, g 97 (.bin .gtr (t 96) (i 4)) 93 false, k 98 (.pick (t 93) (b true) (t 97))]) (.cond (t 98) (q (r [k 4 (.mov (i 0)), k 5 (.mov (b false))]) .ret) .skip)) (q (r [k 6 (.mov (i 1))]) (q (q (r [k 99 (.fadr 3 (t 2)), k 100 (.load false 1 (t 99)), k 101 (.lenl (t 100)), k 102 (.mov (i 0))]) (.blk 1 (.loop (q (r [k 103 (.bin .lss (t 102) (t 101))]) (q (.cond (t 103) .skip (.exit 1)) (q (.blk 2 (q (r [k 104 (.iadr 4 (t 100) (t 102)), k 105 (.load true 4 (t 104)), k 8 (.alloc 35 [.int .i64 0, .int .i64 0, .str [], .imm [] [] true]), n (.store 4 (t 8) (t 105))]) (q (r [k 107 (.load true 4 (t 8)), m 108 1, k 109 (.bin .add (t 108) (i 1)), k 110 (c 89 [t 107, t 109]), m 106 110, k 111 (.ext (t 106) 0), k 112 (.ext (t 106) 1), m 9 111, m 10 112]) (q (q (r [m 113 10, k 114 (.not (t 113))]) (.cond (t 114) (q (r [k 4 (.mov (i 0)), k 5 (.mov (b false))]) .ret) .skip)) (r [m 115 6, m 116 9, k 117 (.mm true (t 115) (t 116)), m 6 117]))))) (r [k 118 (.bin .add (t 102) (i 1)), m 102 118]))))))) (q (r [m 119 6, k 120 (.bin .add (t 119) (i 1)), m 4 120, k 5 (.mov (b true))]) .ret))))))⟩
theorem fit_impl_Value_depth : Fit Tryz.prog 89 Tryz.f89 mf_impl_Value_depth := ⟨by kernel_rfl, Tryz.func89, by kernel_rfl, by kernel_rfl, by kernel_rfl, by kernel_rfl⟩
theorem depth_ct (e : LExpr) (n : Nat) (hn7 : n ≤ 7) : Ct Tryz.prog 89 [.agg e.C, .int .i64 n] (.tup [.int .i64 (depthV e.core n).1, .bool (depthV e.core n).2]) := by
  have ihk : n ≤ 6 → ∀ x, x ∈ e.kids → Ct Tryz.prog 89 [.agg x.C, .int .i64 ((n + 1 : Nat) : Int)] (.tup [.int .i64 (depthV x.core (n + 1)).1, .bool (depthV x.core (n + 1)).2]) := fun h x hx => depth_ct x (n + 1) (by omega)
  obtain ⟨Y, hY⟩ : ∃ Y, Y = depthV e.core n := ⟨_, rfl⟩
  rw [← hY]
  refine ct_of_run fit_impl_Value_depth (by simp [mf_impl_Value_depth]) (by simp [go_sem]) fun hd => ?_
  simp -implicitDefEqProofs [-List.map_take, -List.map_drop, go_sem, mf_impl_Value_depth]
  have hm : e.kids.length ≤ maxLen := by have := LExpr.deep hd.1; omega
  by_cases h6 : n > 6
  · have h6' : decide ((n : Int) > 6) = true := by simp; omega
    have h6'' : decide ((6 : Int) < (n : Int)) = true := h6'
    rw [depthV_eq, h6'] at hY
    simp only [if_true] at hY
    subst hY
    simp -implicitDefEqProofs [-List.map_take, -List.map_drop, go_sem, h6'']
    have hy := h6''
    have hdf := hy0
    exact wk0
  have h6' : decide ((n : Int) > 6) = false := by simp; omega
  have h6'' : decide ((6 : Int) < (n : Int)) = false := h6'
  have ih := ihk (by omega)
  clear ihk
  simp -implicitDefEqProofs [-List.map_take, -List.map_drop, go_sem, h6'']
  by_cases k0 : e.kind = 0
  · have hk : (e.kind == 0) = true := by simpa using k0
    rw [depthV_eq, h6', LExpr.core_kind, hk, LExpr.core_num, LExpr.core_text, LExpr.core_kids, List.length_map] at hY
    simp only [Bool.false_eq_true, if_false, if_true] at hY
    subst hY
    simp -implicitDefEqProofs [-List.map_take, -List.map_drop, go_sem, hk]
    have hy := hk
    have hdf := hy0
    exact wk0
  have n0 : (e.kind == 0) = false := by simpa using k0
  by_cases k1 : e.kind = 1
  · have hk : (e.kind == 1) = true := by simpa using k1
    rw [depthV_eq, h6', LExpr.core_kind, n0, hk, LExpr.core_num, LExpr.core_text, LExpr.core_kids, List.length_map] at hY
    simp only [Bool.false_eq_true, if_false, if_true] at hY
    subst hY
    simp -implicitDefEqProofs [-List.map_take, -List.map_drop, go_sem, n0, hk]
    have hy := And.intro (n0) (hk)
    have hdf := hy0
    exact wk0
  have n1 : (e.kind == 1) = false := by simpa using k1
  by_cases k2 : e.kind = 2
  · have hk : (e.kind == 2) = true := by simpa using k2
    rw [depthV_eq, h6', LExpr.core_kind, n0, n1, hk, LExpr.core_num, LExpr.core_text, LExpr.core_kids, List.length_map] at hY
    simp only [Bool.false_eq_true, if_false, if_true] at hY
    subst hY
    simp -implicitDefEqProofs [-List.map_take, -List.map_drop, go_sem, n0, n1, hk]
    have c1 := wordOk_ct e.text
    have hy := And.intro (n0) (And.intro (n1) (hk))
    have hdf := hy0
    exact wk1
  have n2 : (e.kind == 2) = false := by simpa using k2
  have c0 : (e.core.kind == 0) = false := by rw [LExpr.core_kind]; exact n0
  have c1 : (e.core.kind == 1) = false := by rw [LExpr.core_kind]; exact n1
  have c2 : (e.core.kind == 2) = false := by rw [LExpr.core_kind]; exact n2
  simp -implicitDefEqProofs [-List.map_take, -List.map_drop, go_sem, n0, n1, n2]
  have hhe : headV e.core = if e.kind == 3 then e.text == [] else if e.kind == 4 then isName e.text && !((e.kids.length : Int) == 0) else false := by
    rw [headV, LExpr.core_kind, LExpr.core_text, LExpr.core_kids, List.length_map]
  cases hh : headV e.core with
  | false =>
    rw [depthV_head h6' c0 c1 c2 hh] at hY
    subst hY
    rw [hh] at hhe
    by_cases k3 : e.kind = 3
    · have hk : (e.kind == 3) = true := by simpa using k3
      rw [hk] at hhe
      simp only [if_true] at hhe
      have hte : List.isEmpty e.text = false := by
        cases hx : e.text with
        | nil => rw [hx] at hhe; simp at hhe
        | cons a b => rfl
      clear hhe
      simp -implicitDefEqProofs [-List.map_take, -List.map_drop, go_sem, hk, hte]
      have hy := And.intro (hk) (hte)
      have hdf := hy0
      exact wk0
    have n3 : (e.kind == 3) = false := by simpa using k3
    rw [n3] at hhe
    simp -implicitDefEqProofs [-List.map_take, -List.map_drop, go_sem, n3]
    by_cases k4 : e.kind = 4
    · have hk : (e.kind == 4) = true := by simpa using k4
      rw [hk] at hhe
      simp only [if_true, Bool.false_eq_true, if_false] at hhe
      have hhs := hhe.symm
      clear hhe
      have hnm := nameOk_ct e.text
      simp -implicitDefEqProofs [-List.map_take, -List.map_drop, go_sem, hk]
      cases hn : isName e.text with
      | false =>
        rw [hn] at hnm
        have c1 := hnm
        have hy := hk
        have hdf := hy0
        exact wk1
      | true =>
        rw [hn] at hnm hhs
        have hz : ((e.kids.length : Int) == 0) = true := by simpa using hhs
        have c1 := hnm
        have hy := And.intro (hk) (hz)
        have hdf := hy0
        exact wk1
    have n4 : (e.kind == 4) = false := by simpa using k4
    clear hhe
    simp -implicitDefEqProofs [-List.map_take, -List.map_drop, go_sem, n4]
    have hy := n4
    have hdf := hy0
    exact wk0
  | true =>
  rw [hh] at hhe
  have hrest : (e.core.num != 0 || decide ((e.core.kids.length : Int) > 4)) = (e.num != 0 || decide (4 < (e.kids.length : Int))) := by
    rw [LExpr.core_num, LExpr.core_kids, List.length_map]
  have hbd : ∀ x, x ∈ e.kids → 0 ≤ (depthV x.core (n + 1)).1 ∧ (depthV x.core (n + 1)).1 ≤ 8 := fun x hx => by have := depth_bd x.core (n + 1) (by omega); omega
  have hwn : IntKind.i64.wrap ((n : Int) + 1) = (n : Int) + 1 := wrap_small (by omega) (by omega)
  have hpre : (e.num != 0 || decide (4 < (e.kids.length : Int))) = true → Y = (0, false) := fun h => by rw [hY]; exact depthV_bad h6' c0 c1 c2 hh (by rw [hrest]; exact h)
  have hsm : (e.num != 0 || decide (4 < (e.kids.length : Int))) = false → ∀ m, depthVs (e.kids.map LExpr.core) (n + 1) 1 = some m → Y = (m + 1, true) := fun h m hm => by rw [hY]; exact depthV_some h6' c0 c1 c2 hh (by rw [hrest]; exact h) (by rw [LExpr.core_kids]; exact hm)
  have hno : (e.num != 0 || decide (4 < (e.kids.length : Int))) = false → depthVs (e.kids.map LExpr.core) (n + 1) 1 = none → Y = (0, false) := fun h hm => by rw [hY]; exact depthV_none h6' c0 c1 c2 hh (by rw [hrest]; exact h) (by rw [LExpr.core_kids]; exact hm)
  clear hY hrest c0 c1 c2
  have hk34 : (e.kind = 3 ∧ e.text = []) ∨ (e.kind = 4 ∧ isName e.text = true ∧ ((e.kids.length : Int) == 0) = false) := by
    by_cases k3 : e.kind = 3
    · rw [k3] at hhe
      exact .inl ⟨k3, by simpa using hhe.symm⟩
    · have n3 : (e.kind == 3) = false := by simpa using k3
      by_cases k4 : e.kind = 4
      · rw [k4] at hhe
        simp only [show ((4 : Int) == 3) = false from rfl, Bool.false_eq_true, if_false, beq_self_eq_true, if_true] at hhe
        have := hhe.symm
        rw [Bool.and_eq_true, Bool.not_eq_true'] at this
        exact .inr ⟨k4, this.1, this.2⟩
      · have n4 : (e.kind == 4) = false := by simpa using k4
        rw [n3, n4] at hhe
        simp at hhe
  clear hhe hh
  rcases hk34 with ⟨k3, ht⟩ | ⟨k4, ht, hz⟩
  · have n3 : (e.kind == 3) = true := by simpa using k3
    have htt : (e.text == []) = true := by rw [ht]; rfl
    simp -implicitDefEqProofs [-List.map_take, -List.map_drop, go_sem, n3]
    cases hnb : (e.num != 0 || decide (4 < (e.kids.length : Int))) with
    | true =>
      have hYb := hpre hnb
      subst hYb
      rw [Bool.or_eq_true] at hnb
      by_cases hnz : (e.num != 0) = true
      · have hy := And.intro (n3) (And.intro (ht) (hnz))
        have hdf := hy0
        exact wk0
      · have hnz' : (e.num != 0) = false := by simpa using hnz
        have hl4 : decide (4 < (e.kids.length : Int)) = true := by rcases hnb with h | h; exact absurd h hnz; exact h
        have hy := And.intro (n3) (And.intro (ht) (And.intro (hnz') (hl4)))
        have hdf := hy0
        exact wk0
    | false =>
      have hsm1 := hsm hnb
      have hno1 := hno hnb
      clear hpre hsm hno
      rw [Bool.or_eq_false_iff] at hnb
      obtain ⟨hnz, hl4⟩ := hnb
      repeat' first
        | ((first | refine gv_split (fun h => ?_) (fun h => ?_) | refine cnd_split (fun h => ?_) (fun h => ?_) | refine cgv_split (fun h => ?_) (fun h => ?_)) <;> (try (have hp := h; simp at hp)) <;> simp -implicitDefEqProofs [-List.map_take, -List.map_drop, go_sem, h, n3, ht, hnz, hl4])
        | (refine And.intro (by first | omega | (simp only [maxLen]; omega) | (simp_all; done) | (simp_all; omega)) ?_; try simp -implicitDefEqProofs [-List.map_take, -List.map_drop, go_sem, n3, ht, hnz, hl4])
        | (refine run_dreg' (by decide) ?_; simp -implicitDefEqProofs [-List.map_take, -List.map_drop, go_sem, n3, ht, hnz, hl4])
        | ((first | refine end_tup _ (by simp) (by simp [go_sem]; rfl) (by simp [go_sem]) ?_); first | (simp [go_sem, *]; done) | grind | (simp [go_sem]; grind) | (simp_all [go_sem]; done) | (simp_all [go_sem]; omega))
      refine run_iter (e.kids.length) (depth_L n e.kids e.sp e.lim) (fun i a => depthVs ((e.kids.drop i).map LExpr.core) (n + 1) a = depthVs (e.kids.map LExpr.core) (n + 1) 1 ∧ 1 ≤ a ∧ a ≤ 8) 1 (gh_auto (by simp [go_sem, depth_L, hwn])) (by first | (simp; done) | (simp []; done) | (simp []; omega) | grind) ?_
      intro i a hi hj
      simp -implicitDefEqProofs [-List.map_take, -List.map_drop, go_sem, depth_L, hwn]
      refine cnd_split (fun hc => ?_) (fun hc => ?_)
      · have hlt : i < e.kids.length := by first | (simpa using hc) | (simp at hc; omega)
        rw [List.drop_eq_getElem_cons (l := e.kids) (by omega)] at hj
        simp only [List.map_cons, List.map_cons, List.map_nil] at hj
        simp -implicitDefEqProofs [-List.map_take, -List.map_drop, go_sem, hlt, hwn]
        obtain ⟨hj, ha1, ha8⟩ := hj
        rw [depthVs_cons] at hj
        have hcall := ih e.kids[i] (List.getElem_mem hlt)
        have hb8 := hbd e.kids[i] (List.getElem_mem hlt)
        obtain ⟨r, hr⟩ : ∃ r, r = depthV e.kids[i].core (n + 1) := ⟨_, rfl⟩
        rw [← hr] at hj hcall hb8
        obtain ⟨r1, r2⟩ := r
        simp only [Int.natCast_add, Int.cast_ofNat_Int] at hj hcall hb8
        cases r2 with
        | false =>
          have hYn := hno1 (by rw [← hj]; rfl)
          subst hYn
          repeat' first
            | ((first | refine gv_split (fun h => ?_) (fun h => ?_) | refine cnd_split (fun h => ?_) (fun h => ?_) | refine cgv_split (fun h => ?_) (fun h => ?_)) <;> (try (have hp := h; simp at hp)) <;> simp -implicitDefEqProofs [-List.map_take, -List.map_drop, go_sem, h, hlt, hwn])
            | (refine And.intro (by first | omega | (simp only [maxLen]; omega) | (simp_all; done) | (simp_all; omega)) ?_; try simp -implicitDefEqProofs [-List.map_take, -List.map_drop, go_sem, hlt, hwn])
            | ((first | refine stp_ct (hcall) (by simp [go_sem, hlt, hwn]) ?_ ?_ | refine cstp_ct (hcall) (by simp [go_sem, hlt, hwn]) ?_ ?_); (simp [go_sem]); simp -implicitDefEqProofs [-List.map_take, -List.map_drop, go_sem, hlt, hwn])
            | (refine run_dreg' (by decide) ?_; simp -implicitDefEqProofs [-List.map_take, -List.map_drop, go_sem, hlt, hwn])
            | ((first | refine kx_next (max a r1) hlt (gh_auto (by simp [go_sem, depth_L, wrap_succ hlt hm, hlt, hwn])) ?_ | refine end_tup _ (by simp) (by simp [go_sem]; rfl) (by simp [go_sem]) ?_); first | (simp [go_sem, *]; done) | grind | (simp [go_sem]; grind) | (simp_all [go_sem]; done) | (simp_all [go_sem]; omega))
        | true =>
          simp only [if_true] at hj
          have hmx : max a r1 = if a < r1 then r1 else a := by split <;> omega
          have hmx1 : 1 ≤ max a r1 := by omega
          have hmx8 : max a r1 ≤ 8 := by omega
          rw [hmx] at hj hmx1 hmx8
          clear hmx
          clear hsm1 hno1
          repeat' first
            | ((first | refine gv_split (fun h => ?_) (fun h => ?_) | refine cnd_split (fun h => ?_) (fun h => ?_) | refine cgv_split (fun h => ?_) (fun h => ?_)) <;> (try (have hp := h; simp at hp)) <;> simp -implicitDefEqProofs [-List.map_take, -List.map_drop, go_sem, h, hlt, hwn])
            | (refine And.intro (by first | omega | (simp only [maxLen]; omega) | (simp_all; done) | (simp_all; omega)) ?_; try simp -implicitDefEqProofs [-List.map_take, -List.map_drop, go_sem, hlt, hwn])
            | ((first | refine stp_ct (hcall) (by simp [go_sem, hlt, hwn]) ?_ ?_ | refine cstp_ct (hcall) (by simp [go_sem, hlt, hwn]) ?_ ?_); (simp [go_sem]); simp -implicitDefEqProofs [-List.map_take, -List.map_drop, go_sem, hlt, hwn])
            | (refine run_dreg' (by decide) ?_; simp -implicitDefEqProofs [-List.map_take, -List.map_drop, go_sem, hlt, hwn])
            | ((first | refine kx_next (if a < r1 then r1 else a) hlt (gh_auto (by simp [go_sem, depth_L, wrap_succ hlt hm, hlt, hwn])) ?_ | refine end_tup _ (by simp) (by simp [go_sem]; rfl) (by simp [go_sem]) ?_); first | (simp [go_sem, *]; done) | grind | (simp [go_sem]; grind) | (simp_all [go_sem]; done) | (simp_all [go_sem]; omega))
      · have hge : e.kids.length ≤ i := by first | (simpa using hc) | (simp at hc; omega)
        rw [List.drop_of_length_le (l := e.kids) (by omega)] at hj
        simp only [List.map_nil, List.map_cons, List.map_nil] at hj
        try simp -implicitDefEqProofs [-List.map_take, -List.map_drop, go_sem, hwn]
        obtain ⟨hj, ha1, ha8⟩ := hj
        rw [depthVs_nil] at hj
        have hYs := hsm1 a hj.symm
        subst hYs
        have hwa : IntKind.i64.wrap (a + 1) = a + 1 := wrap_small (by omega) (by omega)
        have hy := hwa
        have hdf := hy0
        exact wk0
  · have n3 : (e.kind == 3) = false := by simp [k4]
    have n4 : (e.kind == 4) = true := by simpa using k4
    have hnm := nameOk_ct e.text
    rw [ht] at hnm
    simp -implicitDefEqProofs [-List.map_take, -List.map_drop, go_sem, n3, n4]
    cases hnb : (e.num != 0 || decide (4 < (e.kids.length : Int))) with
    | true =>
      have hYb := hpre hnb
      subst hYb
      rw [Bool.or_eq_true] at hnb
      by_cases hnz : (e.num != 0) = true
      · have c1 := hnm
        have hy := And.intro (n3) (And.intro (n4) (And.intro (hz) (hnz)))
        have hdf := hy0
        exact wk1
      · have hnz' : (e.num != 0) = false := by simpa using hnz
        have hl4 : decide (4 < (e.kids.length : Int)) = true := by rcases hnb with h | h; exact absurd h hnz; exact h
        have c1 := hnm
        have hy := And.intro (n3) (And.intro (n4) (And.intro (hz) (And.intro (hnz') (hl4))))
        have hdf := hy0
        exact wk1
    | false =>
      have hsm1 := hsm hnb
      have hno1 := hno hnb
      clear hpre hsm hno
      rw [Bool.or_eq_false_iff] at hnb
      obtain ⟨hnz, hl4⟩ := hnb
      repeat' first
        | ((first | refine gv_split (fun h => ?_) (fun h => ?_) | refine cnd_split (fun h => ?_) (fun h => ?_) | refine cgv_split (fun h => ?_) (fun h => ?_)) <;> (try (have hp := h; simp at hp)) <;> simp -implicitDefEqProofs [-List.map_take, -List.map_drop, go_sem, h, n3, n4, hz, hnz, hl4])
        | (refine And.intro (by first | omega | (simp only [maxLen]; omega) | (simp_all; done) | (simp_all; omega)) ?_; try simp -implicitDefEqProofs [-List.map_take, -List.map_drop, go_sem, n3, n4, hz, hnz, hl4])
        | ((first | refine stp_ct (hnm) (by simp [go_sem, n3, n4, hz, hnz, hl4]) ?_ ?_ | refine cstp_ct (hnm) (by simp [go_sem, n3, n4, hz, hnz, hl4]) ?_ ?_); (simp [go_sem]); simp -implicitDefEqProofs [-List.map_take, -List.map_drop, go_sem, n3, n4, hz, hnz, hl4])
        | (refine run_dreg' (by decide) ?_; simp -implicitDefEqProofs [-List.map_take, -List.map_drop, go_sem, n3, n4, hz, hnz, hl4])
        | ((first | refine end_tup _ (by simp) (by simp [go_sem]; rfl) (by simp [go_sem]) ?_); first | (simp [go_sem, *]; done) | grind | (simp [go_sem]; grind) | (simp_all [go_sem]; done) | (simp_all [go_sem]; omega))
      refine run_iter (e.kids.length) (depth_L n e.kids e.sp e.lim) (fun i a => depthVs ((e.kids.drop i).map LExpr.core) (n + 1) a = depthVs (e.kids.map LExpr.core) (n + 1) 1 ∧ 1 ≤ a ∧ a ≤ 8) 1 (gh_auto (by simp [go_sem, depth_L, hwn])) (by first | (simp; done) | (simp []; done) | (simp []; omega) | grind) ?_
      intro i a hi hj
      simp -implicitDefEqProofs [-List.map_take, -List.map_drop, go_sem, depth_L, hwn]
      refine cnd_split (fun hc => ?_) (fun hc => ?_)
      · have hlt : i < e.kids.length := by first | (simpa using hc) | (simp at hc; omega)
        rw [List.drop_eq_getElem_cons (l := e.kids) (by omega)] at hj
        simp only [List.map_cons, List.map_cons, List.map_nil] at hj
        simp -implicitDefEqProofs [-List.map_take, -List.map_drop, go_sem, hlt, hwn]
        obtain ⟨hj, ha1, ha8⟩ := hj
        rw [depthVs_cons] at hj
        have hcall := ih e.kids[i] (List.getElem_mem hlt)
        have hb8 := hbd e.kids[i] (List.getElem_mem hlt)
        obtain ⟨r, hr⟩ : ∃ r, r = depthV e.kids[i].core (n + 1) := ⟨_, rfl⟩
        rw [← hr] at hj hcall hb8
        obtain ⟨r1, r2⟩ := r
        simp only [Int.natCast_add, Int.cast_ofNat_Int] at hj hcall hb8
        cases r2 with
        | false =>
          have hYn := hno1 (by rw [← hj]; rfl)
          subst hYn
          repeat' first
            | ((first | refine gv_split (fun h => ?_) (fun h => ?_) | refine cnd_split (fun h => ?_) (fun h => ?_) | refine cgv_split (fun h => ?_) (fun h => ?_)) <;> (try (have hp := h; simp at hp)) <;> simp -implicitDefEqProofs [-List.map_take, -List.map_drop, go_sem, h, hlt, hwn])
            | (refine And.intro (by first | omega | (simp only [maxLen]; omega) | (simp_all; done) | (simp_all; omega)) ?_; try simp -implicitDefEqProofs [-List.map_take, -List.map_drop, go_sem, hlt, hwn])
            | ((first | refine stp_ct (hcall) (by simp [go_sem, hlt, hwn]) ?_ ?_ | refine cstp_ct (hcall) (by simp [go_sem, hlt, hwn]) ?_ ?_); (simp [go_sem]); simp -implicitDefEqProofs [-List.map_take, -List.map_drop, go_sem, hlt, hwn])
            | (refine run_dreg' (by decide) ?_; simp -implicitDefEqProofs [-List.map_take, -List.map_drop, go_sem, hlt, hwn])
            | ((first | refine kx_next (max a r1) hlt (gh_auto (by simp [go_sem, depth_L, wrap_succ hlt hm, hlt, hwn])) ?_ | refine end_tup _ (by simp) (by simp [go_sem]; rfl) (by simp [go_sem]) ?_); first | (simp [go_sem, *]; done) | grind | (simp [go_sem]; grind) | (simp_all [go_sem]; done) | (simp_all [go_sem]; omega))
        | true =>
          simp only [if_true] at hj
          have hmx : max a r1 = if a < r1 then r1 else a := by split <;> omega
          have hmx1 : 1 ≤ max a r1 := by omega
          have hmx8 : max a r1 ≤ 8 := by omega
          rw [hmx] at hj hmx1 hmx8
          clear hmx
          clear hsm1 hno1
          repeat' first
            | ((first | refine gv_split (fun h => ?_) (fun h => ?_) | refine cnd_split (fun h => ?_) (fun h => ?_) | refine cgv_split (fun h => ?_) (fun h => ?_)) <;> (try (have hp := h; simp at hp)) <;> simp -implicitDefEqProofs [-List.map_take, -List.map_drop, go_sem, h, hlt, hwn])
            | (refine And.intro (by first | omega | (simp only [maxLen]; omega) | (simp_all; done) | (simp_all; omega)) ?_; try simp -implicitDefEqProofs [-List.map_take, -List.map_drop, go_sem, hlt, hwn])
            | ((first | refine stp_ct (hcall) (by simp [go_sem, hlt, hwn]) ?_ ?_ | refine cstp_ct (hcall) (by simp [go_sem, hlt, hwn]) ?_ ?_); (simp [go_sem]); simp -implicitDefEqProofs [-List.map_take, -List.map_drop, go_sem, hlt, hwn])
            | (refine run_dreg' (by decide) ?_; simp -implicitDefEqProofs [-List.map_take, -List.map_drop, go_sem, hlt, hwn])
            | ((first | refine kx_next (if a < r1 then r1 else a) hlt (gh_auto (by simp [go_sem, depth_L, wrap_succ hlt hm, hlt, hwn])) ?_ | refine end_tup _ (by simp) (by simp [go_sem]; rfl) (by simp [go_sem]) ?_); first | (simp [go_sem, *]; done) | grind | (simp [go_sem]; grind) | (simp_all [go_sem]; done) | (simp_all [go_sem]; omega))
      · have hge : e.kids.length ≤ i := by first | (simpa using hc) | (simp at hc; omega)
        rw [List.drop_of_length_le (l := e.kids) (by omega)] at hj
        simp only [List.map_nil, List.map_cons, List.map_nil] at hj
        try simp -implicitDefEqProofs [-List.map_take, -List.map_drop, go_sem, hwn]
        obtain ⟨hj, ha1, ha8⟩ := hj
        rw [depthVs_nil] at hj
        have hYs := hsm1 a hj.symm
        subst hYs
        have hwa : IntKind.i64.wrap (a + 1) = a + 1 := wrap_small (by omega) (by omega)
        have hy := hwa
        have hdf := hy0
        exact wk0
termination_by SizeOf.sizeOf e
decreasing_by exact LExpr.kid_lt hx
open Z in
def mf_impl_ValueOk : MF := ⟨15, [(.t 2)], q (r [k 1 (.box 35 (t 0)), k 2 (.mov (b false))]) (q (r [k 6 (.load true 4 (t 1)), k 7 (c 89 [t 6, i 1]), m 5 7, k 8 (.ext (t 5) 0), k 9 (.ext (t 5) 1), m 3 8, m 4 9]) (q (r [m 10 4, m 11 10, g 12 (.mov (t 3)) 11 true, g 13 (.bin .leq (t 12) (i 6)) 11 true, k 14 (.pick (t 11) (t 13) (b false)), m 2 14]) .ret))⟩
theorem fit_impl_ValueOk : Fit Tryz.prog 42 Tryz.f42 mf_impl_ValueOk := ⟨by kernel_rfl, Tryz.func42, by kernel_rfl, by kernel_rfl, by kernel_rfl, by kernel_rfl⟩
theorem ivalueOk_ct (e : LExpr) : Ct Tryz.prog 42 [.agg e.C] (.bool (validV e.core 6)) := by
  rw [← depthV_ok]
  have h1 := depth_ct e 1 (by decide)
  obtain ⟨r, hr⟩ : ∃ r, r = depthV e.core 1 := ⟨_, rfl⟩
  rw [← hr] at h1 ⊢
  obtain ⟨r1, r2⟩ := r
  simp only at h1 ⊢
  refine ct_of_run fit_impl_ValueOk (by simp [mf_impl_ValueOk]) (by simp [go_sem]) fun hd => ?_
  simp -implicitDefEqProofs [-List.map_take, -List.map_drop, go_sem, mf_impl_ValueOk]
  have c1 := h1
  have hy := hy0
  have hdf := hy0
  exact wk1
def idxF_Value_L (x : Sl LExpr) (g : Nat) (cs : List PV) (i : Nat) (_ : Unit) : St := ⟨lk [(0, x.I LExpr.C), (1, .fn g cs), (7, .int .i64 x.es.length), (8, .int .i64 i)], [], []⟩
open Z in
def mf_slices_IndexFunc_impl_Value_impl_Value : MF := ⟨19, [(.t 4)], q (r [k 4 (.mov (i 0))]) (q (q (r [m 6 0, k 7 (.lenl (t 6)), k 8 (.mov (i 0))]) (.blk 0 (.loop (q (r [k 9 (.bin .lss (t 8) (t 7))]) (q (.cond (t 9) .skip (.exit 0)) (q (.blk 1 (q (r [m 10 8, m 5 10]) (q (r [m 11 1, m 12 0, m 13 5, k 14 (.iadr 4 (t 12) (t 13)), k 15 (.load true 4 (t 14)), k 16 (.call (t 11) [t 15])]) (.cond (t 16) (q (r [m 17 5, m 4 17]) .ret) .skip)))) (r [k 18 (.bin .add (t 8) (i 1)), m 8 18]))))))) (q (r [k 4 (.mov (i (-1)))]) .ret))⟩
theorem fit_slices_IndexFunc_impl_Value_impl_Value : Fit Tryz.prog 150 Tryz.f150 mf_slices_IndexFunc_impl_Value_impl_Value := ⟨by kernel_rfl, Tryz.func150, by kernel_rfl, by kernel_rfl, by kernel_rfl, by kernel_rfl⟩
theorem idxF_Value_ct (x : Sl LExpr) (g : Nat) (cs : List PV) (hcs : pureL cs = true) (p : LExpr → Bool) (hg : ∀ a, a ∈ x.es → Ct Tryz.prog g ([.agg a.C] ++ cs) (.bool (p a))) : Ct Tryz.prog 150 [x.I LExpr.C, .fn g cs] (.int .i64 (idxFrom p x.es 0)) := by
  have hw1 : noOwnL cs = true := pureL_noOwn cs hcs
  have hw2 : ∀ m, bdL m cs = true := fun m => bdL_pure cs hcs
  refine ct_of_run fit_slices_IndexFunc_impl_Value_impl_Value (by simp [mf_slices_IndexFunc_impl_Value_impl_Value]) (by simp [go_sem, hw1]) fun hd => ?_
  simp -implicitDefEqProofs [-List.map_take, -List.map_drop, go_sem, mf_slices_IndexFunc_impl_Value_impl_Value]
  have hm : x.es.length ≤ maxLen := sl_deep hd.1
  refine run_iter (x.es.length) (idxF_Value_L x g cs) (fun i a => idxFrom p (x.es.drop i) i = idxFrom p x.es 0) () (gh_auto (by simp [go_sem, idxF_Value_L, hw2, hcs])) (by first | (simp; done) | (simp []; done) | (simp []; omega) | grind) ?_
  intro i a hi hj
  simp -implicitDefEqProofs [-List.map_take, -List.map_drop, go_sem, idxF_Value_L, hw2, hcs]
  refine cnd_split (fun hc => ?_) (fun hc => ?_)
  · have hlt : i < x.es.length := by first | (simpa using hc) | (simp at hc; omega)
    rw [List.drop_eq_getElem_cons (l := x.es) (by omega)] at hj
    simp only [List.map_cons, idxFrom] at hj
    simp -implicitDefEqProofs [-List.map_take, -List.map_drop, go_sem, hlt, hw2, hcs]
    have c1 := hg x.es[i] (List.getElem_mem hlt)
    have hy := And.intro (hlt) (And.intro (hw2) (hcs))
    have hdf := hy0
    have eL := @idxF_Value_L.eq_1
    have hm0 := hm
    have hlt0 := hlt
    exact wk1n
  · have hge : x.es.length ≤ i := by first | (simpa using hc) | (simp at hc; omega)
    rw [List.drop_of_length_le (l := x.es) (by omega)] at hj
    simp only [List.map_nil, idxFrom] at hj
    try simp -implicitDefEqProofs [-List.map_take, -List.map_drop, go_sem, hw2, hcs]
    have hy := And.intro (hw2) (hcs)
    have hdf := hy0
    exact wk0
open Z in
def mf_slices_ContainsFunc_impl_Value_impl_Value : MF := ⟨9, [(.t 4)], q (r [k 4 (.mov (b false))]) (q (r [m 5 0, m 6 1, k 7 (c 150 [t 5, t 6]), k 8 (.bin .geq (t 7) (i 0)), m 4 8]) .ret)⟩
theorem fit_slices_ContainsFunc_impl_Value_impl_Value : Fit Tryz.prog 92 Tryz.f92 mf_slices_ContainsFunc_impl_Value_impl_Value := ⟨by kernel_rfl, Tryz.func92, by kernel_rfl, by kernel_rfl, by kernel_rfl, by kernel_rfl⟩
theorem containsF_Value_ct (x : Sl LExpr) (g : Nat) (cs : List PV) (hcs : pureL cs = true) (p : LExpr → Bool) (hg : ∀ a, a ∈ x.es → Ct Tryz.prog g ([.agg a.C] ++ cs) (.bool (p a))) : Ct Tryz.prog 92 [x.I LExpr.C, .fn g cs] (.bool (x.es.any p)) := by
  have hw1 : noOwnL cs = true := pureL_noOwn cs hcs
  refine ct_of_run fit_slices_ContainsFunc_impl_Value_impl_Value (by simp [mf_slices_ContainsFunc_impl_Value_impl_Value]) (by simp [go_sem, hw1]) fun hd => ?_
  simp -implicitDefEqProofs [-List.map_take, -List.map_drop, go_sem, mf_slices_ContainsFunc_impl_Value_impl_Value]
  have c1 := idxF_Value_ct x g cs hcs p hg
  have hy := hcs
  have e1 := @idxFrom_nn
  have hdf := @e1
  exact wk1
end Go.Mach
