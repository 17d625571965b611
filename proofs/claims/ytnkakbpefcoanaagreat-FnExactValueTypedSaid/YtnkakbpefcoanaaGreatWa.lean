import Derived.Test.YtnkakbpefcoanaaGreatMh
import Derived.Test.YtnkakbpefcoanaaGreatDa
import Derived.Test.YtnkakbpefcoanaaGreatProg
import Derived.KernelRfl
/- Small functions, walked. -/
set_option maxHeartbeats 4000000
namespace Go.Mach
open Go Go.Proofs
set_option linter.unusedVariables false
set_option linter.unusedSimpArgs false
attribute [local go_sem] Z.k Z.g Z.n Z.m Z.t Z.i Z.b Z.s Z.c Z.r Z.q run_seq run_skip run_reg run_blk run_exit run_ret run_cond cnd_true cnd_false kx_seq_normal kx_seq_exit kx_seq_ret kx_blk_normal kx_blk_same kx_blk_other kx_blk_ret kx_loop_exit kx_loop_ret kx_done ops_nil ops_plain ops_grd gv_tt gv_ff gv_tf gv_ft gv_tup stp_ok stp_ob stp_hp stp_bad stp_if get_t get_c putO_some putO_none put_same put_ne put_σ put_base withσ_τ withσ_σ withσ_base withσ_put withσ_withσ mk_τ mk_σ mk_base mk_withσ entry_τ entry_σ entry_base calm_nil calm_plain calm_grd cgv_tt cgv_ff cgv_tf cgv_ft cgv_tup cstp_ok cstp_ob cstp_if
attribute [local irreducible] Ct Co Cs
attribute [local go_sem] evalOp notV negV pickV binV intB seqV beqV catV lensV lenlV boxV_eq newV cellsOf cellV fadrV fldV fldC loadV loadC_ag loadC_one plainV isOwn iadrV storeV lk bdV bdL renO renL renV pureV pureL noOwnV noOwnL idxV slsV optI extV resL resV ret1 mmV cnviV cnvsV nilcV eqnV bslV bslGo appV elems okE appE getD_map okO_none okO_some strC intC Sl.I
attribute [local simp] Bind.eqa Use.eqa loadC_str loadC_int Bind.C_len Bind.C_pure Bind.C_noOwn Bind.C_cell Bind.C_bd Bind.C_bdL Bind.C_ren Bind.C_any Bind.C_any0 Bind.C_any1 Bind.C_anyt Bind.C_take Bind.C_load Bind.C_load0 Bind.C_load1 Bind.C_fld Bind.C_box Bind.C_fold Use.C_len Use.C_pure Use.C_noOwn Use.C_cell Use.C_bd Use.C_bdL Use.C_ren Use.C_any Use.C_any0 Use.C_any1 Use.C_anyt Use.C_take Use.C_load Use.C_load0 Use.C_load1 Use.C_fld Use.C_box Use.C_fold LExpr.C_len LExpr.C_pure LExpr.C_noOwn LExpr.C_cell LExpr.C_bd LExpr.C_bdL LExpr.C_ren LExpr.C_any LExpr.C_any0 LExpr.C_any1 LExpr.C_anyt LExpr.C_take LExpr.C_load LExpr.C_load0 LExpr.C_load1 LExpr.C_fld LExpr.C_box LExpr.C_fold LDecl.C_len LDecl.C_pure LDecl.C_noOwn LDecl.C_cell LDecl.C_bd LDecl.C_bdL LDecl.C_ren LDecl.C_any LDecl.C_any0 LDecl.C_any1 LDecl.C_anyt LDecl.C_take LDecl.C_load LDecl.C_load0 LDecl.C_load1 LDecl.C_fld LDecl.C_box LDecl.C_fold LModule.C_len LModule.C_pure LModule.C_noOwn LModule.C_cell LModule.C_bd LModule.C_bdL LModule.C_ren LModule.C_any LModule.C_any0 LModule.C_any1 LModule.C_anyt LModule.C_take LModule.C_load LModule.C_load0 LModule.C_load1 LModule.C_fld LModule.C_box LModule.C_fold

open Z in
def mf_spec_inRange : MF := ⟨15, [(.t 6)], q (r [k 6 (.mov (b false))]) (q (r [m 7 0, m 8 1, k 9 (.bin .geq (t 7) (t 8)), m 10 9, g 11 (.mov (t 0)) 10 true, g 12 (.mov (t 2)) 10 true, g 13 (.bin .leq (t 11) (t 12)) 10 true, k 14 (.pick (t 10) (t 13) (b false)), m 6 14]) .ret)⟩
theorem fit_spec_inRange : Fit Tryz.prog 63 Tryz.f63 mf_spec_inRange := ⟨by kernel_rfl, Tryz.func63, by kernel_rfl, by kernel_rfl, by kernel_rfl, by kernel_rfl⟩
theorem inRange_ct (n low high : Int) : Ct Tryz.prog 63 [.int .i64 n, .int .i64 low, .int .i64 high] (.bool (inR n low high)) := by
  refine ct_of_run fit_spec_inRange (by simp [mf_spec_inRange]) (by simp [go_sem]) fun hd => ?_
  simp -implicitDefEqProofs [-List.map_take, -List.map_drop, go_sem, mf_spec_inRange]
  have hy := hy0
  have e1 := @inR.eq_1
  have hdf := @e1
  exact wk0
open Z in
def mf_spec_isPlain : MF := ⟨13, [(.t 2)], q (r [k 2 (.mov (b false))]) (q (r [m 3 0, k 4 (.seq false (t 3) (s [105, 110, 116])), m 5 4, g 6 (.mov (t 0)) 5 false, g 7 (.seq false (t 6) (s [98, 111, 111, 108])) 5 false, k 8 (.pick (t 5) (b true) (t 7)), m 9 8, g 10 (.mov (t 0)) 9 false, g 11 (.seq false (t 10) (s [116, 101, 120, 116])) 9 false, k 12 (.pick (t 9) (b true) (t 11)), m 2 12]) .ret)⟩
theorem fit_spec_isPlain : Fit Tryz.prog 84 Tryz.f84 mf_spec_isPlain := ⟨by kernel_rfl, Tryz.func84, by kernel_rfl, by kernel_rfl, by kernel_rfl, by kernel_rfl⟩
theorem isPlain_ct (t : Str) : Ct Tryz.prog 84 [.str t] (.bool (isPlain t)) := by
  refine ct_of_run fit_spec_isPlain (by simp [mf_spec_isPlain]) (by simp [go_sem]) fun hd => ?_
  simp -implicitDefEqProofs [-List.map_take, -List.map_drop, go_sem, mf_spec_isPlain]
  have hy := hy0
  have e1 := @isPlain.eq_1
  have hdf := @e1
  exact wk0
open Z in
def mf_impl_plainType : MF := ⟨13, [(.t 2)], q (r [k 2 (.mov (b false))]) (q (r [m 3 0, k 4 (.seq false (t 3) (s [105, 110, 116])), m 5 4, g 6 (.mov (t 0)) 5 false, g 7 (.seq false (t 6) (s [98, 111, 111, 108])) 5 false, k 8 (.pick (t 5) (b true) (t 7)), m 9 8, g 10 (.mov (t 0)) 9 false, g 11 (.seq false (t 10) (s [116, 101, 120, 116])) 9 false, k 12 (.pick (t 9) (b true) (t 11)), m 2 12]) .ret)⟩
theorem fit_impl_plainType : Fit Tryz.prog 149 Tryz.f149 mf_impl_plainType := ⟨by kernel_rfl, Tryz.func149, by kernel_rfl, by kernel_rfl, by kernel_rfl, by kernel_rfl⟩
theorem plainType_ct (t : Str) : Ct Tryz.prog 149 [.str t] (.bool (isPlain t)) := by
  refine ct_of_run fit_impl_plainType (by simp [mf_impl_plainType]) (by simp [go_sem]) fun hd => ?_
  simp -implicitDefEqProofs [-List.map_take, -List.map_drop, go_sem, mf_impl_plainType]
  have hy := hy0
  have e1 := @isPlain.eq_1
  have hdf := @e1
  exact wk0

def placeOf_L (l : Sl Str) (s : Str) (i : Nat) (_ : Unit) : St := ⟨lk [(0, l.I strC), (1, .str s), (5, .int .i64 i)], [], []⟩
open Z in
def mf_spec_placeOf : MF := ⟨19, [(.t 4)], q (r [k 4 (.mov (i 0))]) (q (q (r [k 5 (.mov (i 0))]) (.blk 0 (.loop (q (q (r [m 6 5, m 7 0, k 8 (.lenl (t 7)), k 9 (.bin .lss (t 6) (t 8))]) (.cond (t 9) .skip (.exit 0))) (q (.blk 1 (q (r [m 12 0, m 13 5, k 14 (.iadr 1 (t 12) (t 13)), k 15 (.load false 1 (t 14)), m 16 1, k 17 (.seq false (t 15) (t 16))]) (.cond (t 17) (q (r [m 18 5, m 4 18]) .ret) .skip))) (r [m 10 5, k 11 (.bin .add (t 10) (i 1)), m 5 11])))))) (q (r [k 4 (.mov (i (-1)))]) .ret))⟩
theorem fit_spec_placeOf : Fit Tryz.prog 184 Tryz.f184 mf_spec_placeOf := ⟨by kernel_rfl, Tryz.func184, by kernel_rfl, by kernel_rfl, by kernel_rfl, by kernel_rfl⟩
theorem placeOf_ct (l : Sl Str) (s : Str) : Ct Tryz.prog 184 [l.I strC, .str s] (.int .i64 (placeFrom s l.es 0)) := by
  refine ct_of_run fit_spec_placeOf (by simp [mf_spec_placeOf]) (by simp [go_sem]) fun hd => ?_
  simp -implicitDefEqProofs [-List.map_take, -List.map_drop, go_sem, mf_spec_placeOf]
  have hm : l.es.length ≤ maxLen := by simp [deepL, deepV, Sl.I] at hd; omega
  refine run_iter (l.es.length) (placeOf_L l s) (fun i a => placeFrom s (l.es.drop i) i = placeFrom s l.es 0) () (gh_auto (by simp [go_sem, placeOf_L])) (by first | (simp; done) | (simp []; done) | (simp []; omega) | grind) ?_
  intro i a hi hj
  simp -implicitDefEqProofs [-List.map_take, -List.map_drop, go_sem, placeOf_L]
  refine cnd_split (fun hc => ?_) (fun hc => ?_)
  · have hlt : i < l.es.length := by first | (simpa using hc) | (simp at hc; omega)
    rw [List.drop_eq_getElem_cons (l := l.es) (by omega)] at hj
    simp only [List.map_cons, placeFrom] at hj
    simp -implicitDefEqProofs [-List.map_take, -List.map_drop, go_sem, hlt]
    have hy := hlt
    have hdf := hy0
    have eL := @placeOf_L.eq_1
    have hm0 := hm
    have hlt0 := hlt
    exact wk0n
  · have hge : l.es.length ≤ i := by first | (simpa using hc) | (simp at hc; omega)
    rw [List.drop_of_length_le (l := l.es) (by omega)] at hj
    simp only [List.map_nil, placeFrom] at hj
    try simp -implicitDefEqProofs [-List.map_take, -List.map_drop, go_sem]
    have hy := hy0
    have hdf := hy0
    exact wk0
open Z in
def mf_spec_inTexts : MF := ⟨9, [(.t 4)], q (r [k 4 (.mov (b false))]) (q (r [m 5 0, m 6 1, k 7 (c 184 [t 5, t 6]), k 8 (.bin .geq (t 7) (i 0)), m 4 8]) .ret)⟩
theorem fit_spec_inTexts : Fit Tryz.prog 146 Tryz.f146 mf_spec_inTexts := ⟨by kernel_rfl, Tryz.func146, by kernel_rfl, by kernel_rfl, by kernel_rfl, by kernel_rfl⟩
theorem inTexts_ct (l : Sl Str) (s : Str) : Ct Tryz.prog 146 [l.I strC, .str s] (.bool (l.es.contains s)) := by
  refine ct_of_run fit_spec_inTexts (by simp [mf_spec_inTexts]) (by simp [go_sem]) fun hd => ?_
  simp -implicitDefEqProofs [-List.map_take, -List.map_drop, go_sem, mf_spec_inTexts]
  have c1 := placeOf_ct l s
  have hy := hy0
  have e1 := @placeFrom_nonneg
  have hdf := @e1
  exact wk1
open Z in
def mf_spec_words : MF := ⟨2, [(.t 0)], q (r [k 0 (.mov (.c (.imm [] [] true)))]) (q (r [k 1 (.bsl 9 1 18 [.str []] [(0, s [105, 110, 116]), (1, s [98, 111, 111, 108]), (2, s [116, 101, 120, 116]), (3, s [116, 114, 117, 101]), (4, s [102, 97, 108, 115, 101]), (5, s [105, 102]), (6, s [116, 104, 101, 110]), (7, s [101, 108, 115, 101]), (8, s [108, 101, 116]), (9, s [105, 110]), (10, s [102, 111, 114]), (11, s [102, 117, 110]), (12, s [116, 121, 112, 101]), (13, s [117, 115, 101]), (14, s [110, 111, 116]), (15, s [115, 105, 122, 101]), (16, s [97, 116]), (17, s [115, 97, 121])]), m 0 1]) .ret)⟩
theorem fit_spec_words : Fit Tryz.prog 147 Tryz.f147 mf_spec_words := ⟨by kernel_rfl, Tryz.func147, by kernel_rfl, by kernel_rfl, by kernel_rfl, by kernel_rfl⟩
theorem words_ct : Ct Tryz.prog 147 [] ((⟨wordsL, [], false⟩ : Sl Str).I strC) := by
  refine ct_of_run fit_spec_words (by simp [mf_spec_words]) (by simp [go_sem]) fun hd => ?_
  simp -implicitDefEqProofs [-List.map_take, -List.map_drop, go_sem, mf_spec_words]
  refine end_snap 1 _ (by simp) (by simp [go_sem, snapV, snapE, snapSp, mapO]; rfl) ?_
  simp [go_sem, wordsL]
open Z in
def mf_spec_operators : MF := ⟨2, [(.t 0)], q (r [k 0 (.mov (.c (.imm [] [] true)))]) (q (r [k 1 (.bsl 9 1 7 [.str []] [(0, s [43]), (1, s [45]), (2, s [42]), (3, s [60]), (4, s [61, 61]), (5, s [38]), (6, s [124])]), m 0 1]) .ret)⟩
theorem fit_spec_operators : Fit Tryz.prog 213 Tryz.f213 mf_spec_operators := ⟨by kernel_rfl, Tryz.func213, by kernel_rfl, by kernel_rfl, by kernel_rfl, by kernel_rfl⟩
theorem operators_ct : Ct Tryz.prog 213 [] ((⟨opsL, [], false⟩ : Sl Str).I strC) := by
  refine ct_of_run fit_spec_operators (by simp [mf_spec_operators]) (by simp [go_sem]) fun hd => ?_
  simp -implicitDefEqProofs [-List.map_take, -List.map_drop, go_sem, mf_spec_operators]
  refine end_snap 1 _ (by simp) (by simp [go_sem, snapV, snapE, snapSp, mapO]; rfl) ?_
  simp [go_sem, opsL]
def isWord_L (s : Str) (i : Nat) (_ : Unit) : St := ⟨lk [(0, .str s), (3, .int .i64 i)], [], []⟩
open Z in
def mf_spec_isWord : MF := ⟨29, [(.t 2)], q (r [k 2 (.mov (b false))]) (q (q (r [k 3 (.mov (i 0))]) (.blk 0 (.loop (q (q (r [m 4 3, m 5 0, k 6 (.lens (t 5)), k 7 (.bin .lss (t 4) (t 6))]) (.cond (t 7) .skip (.exit 0))) (q (.blk 1 (q (r [m 10 0, m 11 3, k 12 (.idx (t 10) (t 11)), k 13 (.bin .lss (t 12) (.c (.int .u8 32))), m 14 13, g 15 (.mov (t 0)) 14 false, g 16 (.mov (t 3)) 14 false, g 17 (.idx (t 15) (t 16)) 14 false, g 18 (.bin .gtr (t 17) (.c (.int .u8 126))) 14 false, k 19 (.pick (t 14) (b true) (t 18)), m 20 19, g 21 (.mov (t 0)) 20 false, g 22 (.mov (t 3)) 20 false, g 23 (.idx (t 21) (t 22)) 20 false, g 24 (.bin .eql (t 23) (.c (.int .u8 39))) 20 false, k 25 (.pick (t 20) (b true) (t 24))]) (.cond (t 25) (q (r [k 2 (.mov (b false))]) .ret) .skip))) (r [m 8 3, k 9 (.bin .add (t 8) (i 1)), m 3 9])))))) (q (r [m 26 0, k 27 (.lens (t 26)), k 28 (.bin .leq (t 27) (i 20)), m 2 28]) .ret))⟩
theorem fit_spec_isWord : Fit Tryz.prog 144 Tryz.f144 mf_spec_isWord := ⟨by kernel_rfl, Tryz.func144, by kernel_rfl, by kernel_rfl, by kernel_rfl, by kernel_rfl⟩
theorem isWord_ct (s : Str) : Ct Tryz.prog 144 [.str s] (.bool (isWord s)) := by
  refine ct_of_run fit_spec_isWord (by simp [mf_spec_isWord]) (by simp [go_sem]) fun hd => ?_
  simp -implicitDefEqProofs [-List.map_take, -List.map_drop, go_sem, mf_spec_isWord]
  have hm : s.length ≤ maxLen := by simp [deepL, deepV] at hd; omega
  refine run_iter (s.length) (isWord_L s) (fun i a => wordChars (s.drop i) = wordChars s) () (gh_auto (by simp [go_sem, isWord_L, getD_str])) (by first | (simp; done) | (simp [isWord]; done) | (simp [isWord]; omega) | grind) ?_
  intro i a hi hj
  simp -implicitDefEqProofs [-List.map_take, -List.map_drop, go_sem, isWord_L, getD_str]
  refine cnd_split (fun hc => ?_) (fun hc => ?_)
  · have hlt : i < s.length := by first | (simpa using hc) | (simp at hc; omega)
    rw [List.drop_eq_getElem_cons (l := s) (by omega)] at hj
    simp only [List.map_cons, wordChars, wordCh] at hj
    simp -implicitDefEqProofs [-List.map_take, -List.map_drop, go_sem, hlt, getD_str]
    repeat' first
      | ((first | refine gv_split (fun h => ?_) (fun h => ?_) | refine cnd_split (fun h => ?_) (fun h => ?_) | refine cgv_split (fun h => ?_) (fun h => ?_)) <;> (try (have hp := h; simp at hp)) <;> simp -implicitDefEqProofs [-List.map_take, -List.map_drop, go_sem, h, hlt, getD_str])
      | (refine And.intro (by first | omega | (simp only [maxLen]; omega) | (simp_all; done) | (simp_all; omega)) ?_; try simp -implicitDefEqProofs [-List.map_take, -List.map_drop, go_sem, hlt, getD_str])
      | (refine run_dreg' (by decide) ?_; simp -implicitDefEqProofs [-List.map_take, -List.map_drop, go_sem, hlt, getD_str])
      | ((first | refine kx_next () hlt (gh_auto (by simp [go_sem, isWord_L, wrap_succ hlt hm, hlt, getD_str])) ?_ | refine end_tup _ (by simp) (by simp [go_sem]; rfl) (by simp [go_sem]) ?_); first | (simp [go_sem, *, isWord]; done) | grind [isWord] | (simp [go_sem, isWord]; grind [isWord]) | (simp_all [go_sem, isWord]; done) | (simp_all [go_sem, isWord]; omega))
  · have hge : s.length ≤ i := by first | (simpa using hc) | (simp at hc; omega)
    rw [List.drop_of_length_le (l := s) (by omega)] at hj
    simp only [List.map_nil, wordChars, wordCh] at hj
    try simp -implicitDefEqProofs [-List.map_take, -List.map_drop, go_sem, getD_str]
    repeat' first
      | ((first | refine gv_split (fun h => ?_) (fun h => ?_) | refine cnd_split (fun h => ?_) (fun h => ?_) | refine cgv_split (fun h => ?_) (fun h => ?_)) <;> (try (have hp := h; simp at hp)) <;> simp -implicitDefEqProofs [-List.map_take, -List.map_drop, go_sem, h, getD_str])
      | (refine And.intro (by first | omega | (simp only [maxLen]; omega) | (simp_all; done) | (simp_all; omega)) ?_; try simp -implicitDefEqProofs [-List.map_take, -List.map_drop, go_sem, getD_str])
      | (refine run_dreg' (by decide) ?_; simp -implicitDefEqProofs [-List.map_take, -List.map_drop, go_sem, getD_str])
      | ((first | refine end_tup _ (by simp) (by simp [go_sem]; rfl) (by simp [go_sem]) ?_); first | (simp [go_sem, *, isWord]; done) | grind [isWord] | (simp [go_sem, isWord]; grind [isWord]) | (simp_all [go_sem, isWord]; done) | (simp_all [go_sem, isWord]; omega))

def isName_L (s : Str) (i : Nat) (_ : Unit) : St := ⟨lk [(0, .str s), (3, .int .i64 i)], [], []⟩
open Z in
def mf_spec_isName : MF := ⟨48, [(.t 2)], q (r [k 2 (.mov (b false))]) (q (q (r [k 3 (.mov (i 0))]) (.blk 0 (.loop (q (q (r [m 5 3, m 6 0, k 7 (.lens (t 6)), k 8 (.bin .lss (t 5) (t 7))]) (.cond (t 8) .skip (.exit 0))) (q (.blk 1 (q (r [m 11 0, m 12 3, k 13 (.idx (t 11) (t 12)), k 14 (.bin .geq (t 13) (.c (.int .u8 97))), m 15 14, g 16 (.mov (t 0)) 15 true, g 17 (.mov (t 3)) 15 true, g 18 (.idx (t 16) (t 17)) 15 true, g 19 (.bin .leq (t 18) (.c (.int .u8 122))) 15 true, k 20 (.pick (t 15) (t 19) (b false)), m 4 20]) (q (r [m 21 4, k 22 (.not (t 21)), m 23 22, g 24 (.mov (t 3)) 23 true, g 25 (.bin .eql (t 24) (i 0)) 23 true, g 26 (.mov (t 25)) 23 true, g 27 (.mov (t 0)) 26 false, g 28 (.mov (t 3)) 26 false, g 29 (.idx (t 27) (t 28)) 26 false, g 30 (.bin .lss (t 29) (.c (.int .u8 48))) 26 false, g 31 (.pick (t 26) (b true) (t 30)) 23 true, g 32 (.mov (t 31)) 23 true, g 33 (.mov (t 0)) 32 false, g 34 (.mov (t 3)) 32 false, g 35 (.idx (t 33) (t 34)) 32 false, g 36 (.bin .gtr (t 35) (.c (.int .u8 57))) 32 false, g 37 (.pick (t 32) (b true) (t 36)) 23 true, k 38 (.pick (t 23) (t 37) (b false))]) (.cond (t 38) (q (r [k 2 (.mov (b false))]) .ret) .skip)))) (r [m 9 3, k 10 (.bin .add (t 9) (i 1)), m 3 10])))))) (q (r [m 39 0, k 40 (.lens (t 39)), k 41 (c 63 [t 40, i 1, i 8]), m 42 41, g 43 (c 147 []) 42 true, g 44 (.mov (t 0)) 42 true, g 45 (c 146 [t 43, t 44]) 42 true, g 46 (.not (t 45)) 42 true, k 47 (.pick (t 42) (t 46) (b false)), m 2 47]) .ret))⟩
theorem fit_spec_isName : Fit Tryz.prog 85 Tryz.f85 mf_spec_isName := ⟨by kernel_rfl, Tryz.func85, by kernel_rfl, by kernel_rfl, by kernel_rfl, by kernel_rfl⟩
theorem isName_ct (s : Str) : Ct Tryz.prog 85 [.str s] (.bool (isName s)) := by
  refine ct_of_run fit_spec_isName (by simp [mf_spec_isName]) (by simp [go_sem]) fun hd => ?_
  simp -implicitDefEqProofs [-List.map_take, -List.map_drop, go_sem, mf_spec_isName]
  have hm : s.length ≤ maxLen := by simp [deepL, deepV] at hd; omega
  refine run_iter (s.length) (isName_L s) (fun i a => nameChars i (s.drop i) = nameChars 0 s) () (gh_auto (by simp [go_sem, isName_L, getD_str])) (by first | (simp; done) | (simp [isName, inR]; done) | (simp [isName, inR]; omega) | grind) ?_
  intro i a hi hj
  simp -implicitDefEqProofs [-List.map_take, -List.map_drop, go_sem, isName_L, getD_str]
  refine cnd_split (fun hc => ?_) (fun hc => ?_)
  · have hlt : i < s.length := by first | (simpa using hc) | (simp at hc; omega)
    rw [List.drop_eq_getElem_cons (l := s) (by omega)] at hj
    simp only [List.map_cons, nameChars, small, digit] at hj
    simp -implicitDefEqProofs [-List.map_take, -List.map_drop, go_sem, hlt, getD_str]
    repeat' first
      | ((first | refine gv_split (fun h => ?_) (fun h => ?_) | refine cnd_split (fun h => ?_) (fun h => ?_) | refine cgv_split (fun h => ?_) (fun h => ?_)) <;> (try (have hp := h; simp at hp)) <;> simp -implicitDefEqProofs [-List.map_take, -List.map_drop, go_sem, h, hlt, getD_str])
      | (refine And.intro (by first | omega | (simp only [maxLen]; omega) | (simp_all; done) | (simp_all; omega)) ?_; try simp -implicitDefEqProofs [-List.map_take, -List.map_drop, go_sem, hlt, getD_str])
      | ((first | refine stp_ct (inRange_ct _ _ _) (by simp [go_sem, hlt, getD_str]) ?_ ?_ | refine cstp_ct (inRange_ct _ _ _) (by simp [go_sem, hlt, getD_str]) ?_ ?_ | refine stp_ct (words_ct) (by simp [go_sem, hlt, getD_str]) ?_ ?_ | refine cstp_ct (words_ct) (by simp [go_sem, hlt, getD_str]) ?_ ?_ | refine stp_ct (inTexts_ct ⟨wordsL, [], false⟩ _) (by simp [go_sem, hlt, getD_str]) ?_ ?_ | refine cstp_ct (inTexts_ct ⟨wordsL, [], false⟩ _) (by simp [go_sem, hlt, getD_str]) ?_ ?_); (simp [go_sem]); simp -implicitDefEqProofs [-List.map_take, -List.map_drop, go_sem, hlt, getD_str])
      | (refine run_dreg' (by decide) ?_; simp -implicitDefEqProofs [-List.map_take, -List.map_drop, go_sem, hlt, getD_str])
      | ((first | refine kx_next () hlt (gh_auto (by simp [go_sem, isName_L, wrap_succ hlt hm, hlt, getD_str])) ?_ | refine end_tup _ (by simp) (by simp [go_sem]; rfl) (by simp [go_sem]) ?_); first | (simp [go_sem, *, isName, inR]; done) | grind [isName, inR] | (simp [go_sem, isName, inR]; grind [isName, inR]) | (simp_all [go_sem, isName, inR]; done) | (simp_all [go_sem, isName, inR]; omega))
  · have hge : s.length ≤ i := by first | (simpa using hc) | (simp at hc; omega)
    rw [List.drop_of_length_le (l := s) (by omega)] at hj
    simp only [List.map_nil, nameChars, small, digit] at hj
    try simp -implicitDefEqProofs [-List.map_take, -List.map_drop, go_sem, getD_str]
    repeat' first
      | ((first | refine gv_split (fun h => ?_) (fun h => ?_) | refine cnd_split (fun h => ?_) (fun h => ?_) | refine cgv_split (fun h => ?_) (fun h => ?_)) <;> (try (have hp := h; simp at hp)) <;> simp -implicitDefEqProofs [-List.map_take, -List.map_drop, go_sem, h, getD_str])
      | (refine And.intro (by first | omega | (simp only [maxLen]; omega) | (simp_all; done) | (simp_all; omega)) ?_; try simp -implicitDefEqProofs [-List.map_take, -List.map_drop, go_sem, getD_str])
      | ((first | refine stp_ct (inRange_ct _ _ _) (by simp [go_sem, getD_str]) ?_ ?_ | refine cstp_ct (inRange_ct _ _ _) (by simp [go_sem, getD_str]) ?_ ?_ | refine stp_ct (words_ct) (by simp [go_sem, getD_str]) ?_ ?_ | refine cstp_ct (words_ct) (by simp [go_sem, getD_str]) ?_ ?_ | refine stp_ct (inTexts_ct ⟨wordsL, [], false⟩ _) (by simp [go_sem, getD_str]) ?_ ?_ | refine cstp_ct (inTexts_ct ⟨wordsL, [], false⟩ _) (by simp [go_sem, getD_str]) ?_ ?_); (simp [go_sem]); simp -implicitDefEqProofs [-List.map_take, -List.map_drop, go_sem, getD_str])
      | (refine run_dreg' (by decide) ?_; simp -implicitDefEqProofs [-List.map_take, -List.map_drop, go_sem, getD_str])
      | ((first | refine end_tup _ (by simp) (by simp [go_sem]; rfl) (by simp [go_sem]) ?_); first | (simp [go_sem, *, isName, inR]; done) | grind [isName, inR] | (simp [go_sem, isName, inR]; grind [isName, inR]) | (simp_all [go_sem, isName, inR]; done) | (simp_all [go_sem, isName, inR]; omega))
def coreOf_L (a : Str × Nat) : St := ⟨lk [(0, .str a.1), (4, .int .i64 a.2)], [], []⟩
theorem coreW_more {t : Str} (h : brk t = true) : coreOf t = ((coreOf (mid t)).1, (coreOf (mid t)).2 + 1) := by rw [coreOf]; simp [h]
theorem coreW_done {t : Str} (h : brk t = false) : coreOf t = (t, 0) := by rw [coreOf]; simp [h]
open Z in
def mf_spec_coreOf : MF := ⟨30, [(.t 2), (.t 3)], q (r [k 2 (.mov (s [])), k 3 (.mov (i 0))]) (q (r [k 4 (.mov (i 0))]) (q (.blk 0 (.loop (q (q (r [m 5 0, k 6 (.lens (t 5)), k 7 (.bin .geq (t 6) (i 2)), m 8 7, g 9 (.mov (t 0)) 8 true, g 10 (.idx (t 9) (i 0)) 8 true, g 11 (.bin .eql (t 10) (.c (.int .u8 91))) 8 true, k 12 (.pick (t 8) (t 11) (b false)), m 13 12, g 14 (.mov (t 0)) 13 true, g 15 (.mov (t 0)) 13 true, g 16 (.lens (t 15)) 13 true, g 17 (.bin .sub (t 16) (i 1)) 13 true, g 18 (.idx (t 14) (t 17)) 13 true, g 19 (.bin .eql (t 18) (.c (.int .u8 93))) 13 true, k 20 (.pick (t 13) (t 19) (b false))]) (.cond (t 20) .skip (.exit 0))) (.blk 1 (q (r [m 21 0, m 22 0, k 23 (.lens (t 22)), k 24 (.bin .sub (t 23) (i 1)), k 25 (.sls (t 21) (some (i 1)) (some (t 24))), m 0 25]) (r [m 26 4, k 27 (.bin .add (t 26) (i 1)), m 4 27])))))) (q (r [m 28 0, m 29 4, m 2 28, m 3 29]) .ret)))⟩
theorem fit_spec_coreOf : Fit Tryz.prog 83 Tryz.f83 mf_spec_coreOf := ⟨by kernel_rfl, Tryz.func83, by kernel_rfl, by kernel_rfl, by kernel_rfl, by kernel_rfl⟩
theorem coreOf_ct (t : Str) : Ct Tryz.prog 83 [.str t] (.tup [.str (coreOf t).1, .int .i64 (coreOf t).2]) := by
  refine ct_of_run fit_spec_coreOf (by simp [mf_spec_coreOf]) (by simp [go_sem]) fun hd => ?_
  simp -implicitDefEqProofs [-List.map_take, -List.map_drop, go_sem, mf_spec_coreOf]
  have hm : t.length ≤ maxLen := by simp [deepL, deepV] at hd; omega
  refine run_while coreOf_L (fun a => a.1.length) (fun a => (coreOf a.1).1 = (coreOf t).1 ∧ (coreOf a.1).2 + a.2 = (coreOf t).2 ∧ a.1.length + a.2 ≤ t.length) (t, 0) (gh_auto (by simp [go_sem, coreOf_L])) (by simp) ?_
  rintro ⟨x, n⟩ ⟨hj1, hj2, hj3⟩
  simp only at hj1 hj2 hj3
  have hw : IntKind.i64.wrap ((x.length : Int) - 1) = (x.length : Int) - 1 := wrap_small (by simp [maxLen] at hm; omega) (by simp [maxLen] at hm; omega)
  have hw2 : x.length ≠ 0 → IntKind.i64.wrap ((n : Int) + 1) = ((n + 1 : Nat) : Int) := fun _ => by simp only [maxLen] at hm; rw [wrap_small (by omega) (by omega)]; simp
  simp -implicitDefEqProofs [-List.map_take, -List.map_drop, go_sem, coreOf_L]
  repeat' first
    | ((first | refine gv_split (fun h => ?_) (fun h => ?_) | refine cnd_split (fun h => ?_) (fun h => ?_) | refine cgv_split (fun h => ?_) (fun h => ?_)) <;> (try (have hp := h; simp at hp)) <;> simp -implicitDefEqProofs [-List.map_take, -List.map_drop, go_sem, h, hw])
    | (refine And.intro (by first | omega | (simp only [maxLen]; omega) | (simp_all; done) | (simp_all; omega)) ?_; try simp -implicitDefEqProofs [-List.map_take, -List.map_drop, go_sem, hw])
    | (refine run_dreg' (by decide) ?_; simp -implicitDefEqProofs [-List.map_take, -List.map_drop, go_sem, hw])
    | ((first | refine end_tup _ (by simp) (by simp [go_sem]; rfl) (by simp [go_sem]) ?_); first | (simp [go_sem, *, coreW_done, brk]; done) | grind [coreW_done, brk] | (simp [go_sem, coreW_done, brk]; grind [coreW_done, brk]) | (simp_all [go_sem, coreW_done, brk]; done) | (simp_all [go_sem, coreW_done, brk]; omega))
  have hb : brk x = true := by simp [brk, *]
  have hml := mid_len hb
  rw [coreW_more hb] at hj1 hj2
  refine kx_more (mid x, n + 1) (by simp; omega) (gh_auto (by simp [go_sem, coreOf_L, hw2 (by omega), mid])) ?_
  exact ⟨hj1, by simp only; omega, by simp only; omega⟩
open Z in
def mf_spec_TypeOk : MF := ⟨20, [(.t 2)], q (r [k 2 (.mov (b false))]) (q (r [m 6 0, k 7 (c 83 [t 6]), m 5 7, k 8 (.ext (t 5) 0), k 9 (.ext (t 5) 1), m 3 8, m 4 9]) (q (r [m 10 4, k 11 (.bin .leq (t 10) (i 2)), m 12 11, g 13 (.mov (t 3)) 12 true, g 14 (c 84 [t 13]) 12 true, g 15 (.mov (t 14)) 12 true, g 16 (.mov (t 3)) 15 false, g 17 (c 85 [t 16]) 15 false, g 18 (.pick (t 15) (b true) (t 17)) 12 true, k 19 (.pick (t 12) (t 18) (b false)), m 2 19]) .ret))⟩
theorem fit_spec_TypeOk : Fit Tryz.prog 39 Tryz.f39 mf_spec_TypeOk := ⟨by kernel_rfl, Tryz.func39, by kernel_rfl, by kernel_rfl, by kernel_rfl, by kernel_rfl⟩
theorem typeOk_ct (t : Str) : Ct Tryz.prog 39 [.str t] (.bool (typeOk t)) := by
  refine ct_of_run fit_spec_TypeOk (by simp [mf_spec_TypeOk]) (by simp [go_sem]) fun hd => ?_
  simp -implicitDefEqProofs [-List.map_take, -List.map_drop, go_sem, mf_spec_TypeOk]
  have d1 := fun a1 => coreOf_ct a1
  have d2 := fun a1 => isPlain_ct a1
  have d3 := fun a1 => isName_ct a1
  have hy := hy0
  have e1 := @typeOk.eq_1
  have hdf := @e1
  exact wk1
open Z in
def mf_spec_kidsOf : MF := ⟨22, [(.t 2), (.t 3)], q (r [k 2 (.mov (i 0)), k 3 (.mov (i 0))]) (q (q (r [m 4 0]) (.blk 0 (q (q (r [k 6 (.bin .eql (t 4) (i 4)), m 5 6]) (.cond (t 5) .skip (r [k 7 (.bin .eql (t 4) (i 7)), m 5 7]))) (.cond (t 5) (q (r [k 2 (.mov (i 0)), k 3 (.mov (i 4))]) .ret) (q (r [k 9 (.bin .eql (t 4) (i 5)), m 8 9]) (.cond (t 8) (q (r [k 2 (.mov (i 1)), k 3 (.mov (i 4))]) .ret) (q (q (r [k 11 (.bin .eql (t 4) (i 6)), m 10 11]) (.cond (t 10) .skip (q (r [k 12 (.bin .eql (t 4) (i 8)), m 10 12]) (.cond (t 10) .skip (q (r [k 13 (.bin .eql (t 4) (i 13)), m 10 13]) (.cond (t 10) .skip (r [k 14 (.bin .eql (t 4) (i 15)), m 10 14]))))))) (.cond (t 10) (q (r [k 2 (.mov (i 1)), k 3 (.mov (i 1))]) .ret) (q (q (r [k 16 (.bin .eql (t 4) (i 9)), m 15 16]) (.cond (t 15) .skip (q (r [k 17 (.bin .eql (t 4) (i 11)), m 15 17]) (.cond (t 15) .skip (q (r [k 18 (.bin .eql (t 4) (i 12)), m 15 18]) (.cond (t 15) .skip (r [k 19 (.bin .eql (t 4) (i 14)), m 15 19]))))))) (.cond (t 15) (q (r [k 2 (.mov (i 2)), k 3 (.mov (i 2))]) .ret) (q (r [k 21 (.bin .eql (t 4) (i 10)), m 20 21]) (.cond (t 20) (q (r [k 2 (.mov (i 3)), k 3 (.mov (i 3))]) .ret) .skip)))))))))))) (q (r [k 2 (.mov (i 0)), k 3 (.mov (i 0))]) .ret))⟩
theorem fit_spec_kidsOf : Fit Tryz.prog 196 Tryz.f196 mf_spec_kidsOf := ⟨by kernel_rfl, Tryz.func196, by kernel_rfl, by kernel_rfl, by kernel_rfl, by kernel_rfl⟩
theorem kidsOf_ct (k : Int) : Ct Tryz.prog 196 [.int .i64 k] (.tup [.int .i64 (kidsOf k).1, .int .i64 (kidsOf k).2]) := by
  refine ct_of_run fit_spec_kidsOf (by simp [mf_spec_kidsOf]) (by simp [go_sem]) fun hd => ?_
  simp -implicitDefEqProofs [-List.map_take, -List.map_drop, go_sem, mf_spec_kidsOf]
  have hy := hy0
  have e1 := @kidsOf.eq_1
  have hdf := @e1
  exact wk0
open Z in
def mf_spec_validText : MF := ⟨36, [(.t 2)], q (r [k 1 (.box 48 (t 0)), k 2 (.mov (b false))]) (q (q (r [k 3 (.fadr 0 (t 1)), k 4 (.load false 1 (t 3))]) (.blk 0 (q (r [k 6 (.bin .eql (t 4) (i 2)), m 5 6]) (.cond (t 5) (q (r [k 7 (.fadr 2 (t 1)), k 8 (.load false 1 (t 7)), k 9 (c 144 [t 8]), m 2 9]) .ret) (q (q (r [k 11 (.bin .eql (t 4) (i 3)), m 10 11]) (.cond (t 10) .skip (q (r [k 12 (.bin .eql (t 4) (i 4)), m 10 12]) (.cond (t 10) .skip (q (r [k 13 (.bin .eql (t 4) (i 5)), m 10 13]) (.cond (t 10) .skip (q (r [k 14 (.bin .eql (t 4) (i 6)), m 10 14]) (.cond (t 10) .skip (q (r [k 15 (.bin .eql (t 4) (i 11)), m 10 15]) (.cond (t 10) .skip (r [k 16 (.bin .eql (t 4) (i 12)), m 10 16]))))))))))) (.cond (t 10) (q (r [k 17 (.fadr 2 (t 1)), k 18 (.load false 1 (t 17)), k 19 (c 85 [t 18]), m 2 19]) .ret) (q (r [k 21 (.bin .eql (t 4) (i 7)), m 20 21]) (.cond (t 20) (q (r [k 22 (.fadr 2 (t 1)), k 23 (.load false 1 (t 22)), k 24 (.cat (s [91]) (t 23)), k 25 (.cat (t 24) (s [93])), k 26 (c 39 [t 25]), m 2 26]) .ret) (q (r [k 28 (.bin .eql (t 4) (i 9)), m 27 28]) (.cond (t 27) (q (.dreg [(k 29 (c 213 []), []), (k 30 (.fadr 2 (t 1)), []), (k 31 (.load false 1 (t 30)), [1]), (k 32 (c 146 [t 29, t 31]), [0, 2, 0]), (m 2 32, [3, 3, 0, 1, 2, 3])]) .ret) .skip)))))))))) (q (r [k 33 (.fadr 2 (t 1)), k 34 (.load false 1 (t 33)), k 35 (.seq false (t 34) (s [])), m 2 35]) .ret))⟩
theorem fit_spec_validText : Fit Tryz.prog 195 Tryz.f195 mf_spec_validText := ⟨by kernel_rfl, Tryz.func195, by kernel_rfl, by kernel_rfl, by kernel_rfl, by kernel_rfl⟩
theorem validText_ct (e : LExpr) (hs : e.text.length ≤ 1000000) : Ct Tryz.prog 195 [.agg e.C] (.bool (validText e.kind e.text)) := by
  have hs1 : 1 + e.text.length ≤ maxLen := by simp only [maxLen]; omega
  have hs2 : 1 + e.text.length + 1 ≤ maxLen := by simp only [maxLen]; omega
  refine ct_of_run fit_spec_validText (by simp [mf_spec_validText]) (by simp [go_sem]) fun hd => ?_
  simp -implicitDefEqProofs [-List.map_take, -List.map_drop, go_sem, mf_spec_validText]
  have d1 := fun a1 => isWord_ct a1
  have d2 := fun a1 => isName_ct a1
  have d3 := fun a1 => typeOk_ct a1
  have c1 := operators_ct
  have d4 := fun a1 => inTexts_ct ⟨opsL, [], false⟩ a1
  have hy := hy0
  have e1 := @validText.eq_1
  have hdf := @e1
  exact wk1

theorem Expr.Sm_kid {e : LExpr} (h : e.core.Sm) {i : Nat} (hi : i < e.kids.length) : (e.kids[i]).core.Sm := by
  rw [Expr.Sm_eq] at h
  exact Expr.Sms_mem h.2.2 _ (by rw [LExpr.core_kids]; exact List.mem_map_of_mem (List.getElem_mem hi))
theorem Expr.Sm_text {e : LExpr} (h : e.core.Sm) : e.text.length ≤ 1000000 := by
  rw [Expr.Sm_eq] at h
  exact LExpr.core_text e ▸ h.1
def validShape_L (e : LExpr) (tall : Nat) (i : Nat) (_ : Unit) : St := ⟨lk [(1, .int .i64 tall), (2, .ptr 0 1 0 0), (8, .int .i64 i)], [some ⟨[[.int .i64 e.kind, .int .i64 e.num, .str e.text, .imm (e.kids.map LExpr.C) e.sp e.lim]], 4, 48, false, false⟩], []⟩
open Z in
def mf_spec_validShape : MF := ⟨64, [(.t 4)], q (r [k 2 (.box 48 (t 0)), k 4 (.mov (b false))]) (q (q (r [m 9 1, k 10 (.bin .eql (t 9) (i 0)), m 11 10, g 12 (.fadr 0 (t 2)) 11 false, g 13 (.load false 1 (t 12)) 11 false, g 14 (c 63 [t 13, i 0, i 15]) 11 false, g 15 (.not (t 14)) 11 false, k 16 (.pick (t 11) (b true) (t 15)), m 17 16, g 18 (.load true 4 (t 2)) 17 false, g 19 (c 195 [t 18]) 17 false, g 20 (.not (t 19)) 17 false, k 21 (.pick (t 17) (b true) (t 20))]) (.cond (t 21) (q (r [k 4 (.mov (b false))]) .ret) .skip)) (q (r [k 5 (.mov (i 0))]) (q (q (r [k 22 (.fadr 0 (t 2)), k 23 (.load false 1 (t 22))]) (.blk 0 (q (r [k 25 (.bin .eql (t 23) (i 0)), m 24 25]) (.cond (t 24) (r [k 5 (.mov (i 9999))]) (q (r [k 27 (.bin .eql (t 23) (i 1)), m 26 27]) (.cond (t 26) (r [k 5 (.mov (i 1))]) .skip)))))) (q (r [k 29 (.fadr 0 (t 2)), k 30 (.load false 1 (t 29)), k 31 (c 196 [t 30]), m 28 31, k 32 (.ext (t 28) 0), k 33 (.ext (t 28) 1), m 6 32, m 7 33]) (q (q (r [k 34 (.fadr 1 (t 2)), k 35 (.load false 1 (t 34)), m 36 5, k 37 (c 63 [t 35, i 0, t 36]), k 38 (.not (t 37)), m 39 38, g 40 (.fadr 3 (t 2)) 39 false, g 41 (.load false 1 (t 40)) 39 false, g 42 (.lenl (t 41)) 39 false, g 43 (.mov (t 6)) 39 false, g 44 (.mov (t 7)) 39 false, g 45 (c 63 [t 42, t 43, t 44]) 39 false, g 46 (.not (t 45)) 39 false, k 47 (.pick (t 39) (b true) (t 46))]) (.cond (t 47) (q (r [k 4 (.mov (b false))]) .ret) .skip)) (q (q (r [k 8 (.mov (i 0))]) (.blk 1 (.loop (q (q (r [m 48 8, k 49 (.fadr 3 (t 2)), k 50 (.load false 1 (t 49)), k 51 (.lenl (t 50)), k 52 (.bin .lss (t 48) (t 51))]) (.cond (t 52) .skip (.exit 1))) (q (.blk 2 (q (r [k 55 (.fadr 3 (t 2)), k 56 (.load false 1 (t 55)), m 57 8, k 58 (.iadr 4 (t 56) (t 57)), k 59 (.load true 4 (t 58)), m 60 1, k 61 (.bin .sub (t 60) (i 1)), k 62 (c 156 [t 59, t 61]), k 63 (.not (t 62))]) (.cond (t 63) (q (r [k 4 (.mov (b false))]) .ret) .skip))) (r [m 53 8, k 54 (.bin .add (t 53) (i 1)), m 8 54])))))) (q (r [k 4 (.mov (b true))]) .ret)))))))⟩
theorem fit_spec_validShape : Fit Tryz.prog 156 Tryz.f156 mf_spec_validShape := ⟨by kernel_rfl, Tryz.func156, by kernel_rfl, by kernel_rfl, by kernel_rfl, by kernel_rfl⟩
theorem validShape_ct (e : LExpr) (tall : Nat) (ht : tall ≤ 1000) (hs : e.core.Sm) : Ct Tryz.prog 156 [.agg e.C, .int .i64 tall] (.bool (validShape e.core tall)) := by
  have hst := Expr.Sm_text hs
  refine ct_of_run fit_spec_validShape (by simp [mf_spec_validShape]) (by simp [go_sem]) fun hd => ?_
  simp -implicitDefEqProofs [-List.map_take, -List.map_drop, go_sem, mf_spec_validShape]
  have hm : e.kids.length ≤ maxLen := by have := LExpr.deep hd.1; omega
  rw [validShape_eq, LExpr.core_kind, LExpr.core_num, LExpr.core_text, LExpr.core_kids, List.length_map]
  repeat' first
    | ((first | refine gv_split (fun h => ?_) (fun h => ?_) | refine cnd_split (fun h => ?_) (fun h => ?_) | refine cgv_split (fun h => ?_) (fun h => ?_)) <;> (try (have hp := h; simp at hp)) <;> simp -implicitDefEqProofs [-List.map_take, -List.map_drop, go_sem, h])
    | (refine And.intro (by first | omega | (simp only [maxLen]; omega) | (simp_all; done) | (simp_all; omega)) ?_; try simp -implicitDefEqProofs [-List.map_take, -List.map_drop, go_sem])
    | ((first | refine stp_ct (inRange_ct _ _ _) (by simp [go_sem]) ?_ ?_ | refine cstp_ct (inRange_ct _ _ _) (by simp [go_sem]) ?_ ?_ | refine stp_ct (validText_ct _ hst) (by simp [go_sem]) ?_ ?_ | refine cstp_ct (validText_ct _ hst) (by simp [go_sem]) ?_ ?_ | refine stp_ct (kidsOf_ct _) (by simp [go_sem]) ?_ ?_ | refine cstp_ct (kidsOf_ct _) (by simp [go_sem]) ?_ ?_); (simp [go_sem]); simp -implicitDefEqProofs [-List.map_take, -List.map_drop, go_sem])
    | (refine run_dreg' (by decide) ?_; simp -implicitDefEqProofs [-List.map_take, -List.map_drop, go_sem])
    | ((first | refine end_tup _ (by simp) (by simp [go_sem]; rfl) (by simp [go_sem]) ?_); first | (simp [go_sem, *, inR, mostOf]; done) | grind [inR, mostOf] | (simp [go_sem, inR, mostOf]; grind [inR, mostOf]) | (simp_all [go_sem, inR, mostOf]; done) | (simp_all [go_sem, inR, mostOf]; omega))
  all_goals
    have hw : IntKind.i64.wrap ((tall : Int) - 1) = ((tall - 1 : Nat) : Int) := by rw [wrap_small (by omega) (by omega)]; omega
    refine run_iter (e.kids.length) (validShape_L e tall) (fun i a => validShapes ((e.kids.drop i).map LExpr.core) (tall - 1) = validShapes (e.kids.map LExpr.core) (tall - 1)) () (gh_auto (by simp [go_sem, validShape_L, hw])) (by first | (simp; done) | (simp [inR, mostOf]; done) | (simp [inR, mostOf]; omega) | grind) ?_
    intro i a hi hj
    simp -implicitDefEqProofs [-List.map_take, -List.map_drop, go_sem, validShape_L, hw]
    refine cnd_split (fun hc => ?_) (fun hc => ?_)
    · have hlt : i < e.kids.length := by first | (simpa using hc) | (simp at hc; omega)
      rw [List.drop_eq_getElem_cons (l := e.kids) (by omega)] at hj
      simp only [List.map_cons, validShapes] at hj
      simp -implicitDefEqProofs [-List.map_take, -List.map_drop, go_sem, hlt, hw]
      have c1 := validShape_ct e.kids[i] (tall - 1) (by omega) (Expr.Sm_kid hs hlt)
      have hy := And.intro (hlt) (hw)
      have e1 := @inR.eq_1
      have e2 := @mostOf.eq_1
      have hdf := And.intro (@e1) (@e2)
      have eL := @validShape_L.eq_1
      have hm0 := hm
      have hlt0 := hlt
      exact wk1n
    · have hge : e.kids.length ≤ i := by first | (simpa using hc) | (simp at hc; omega)
      rw [List.drop_of_length_le (l := e.kids) (by omega)] at hj
      simp only [List.map_nil, validShapes] at hj
      try simp -implicitDefEqProofs [-List.map_take, -List.map_drop, go_sem, hw]
      have hy := hw
      have e1 := @inR.eq_1
      have e2 := @mostOf.eq_1
      have hdf := And.intro (@e1) (@e2)
      exact wk0
termination_by SizeOf.sizeOf e
decreasing_by all_goals exact LExpr.kid_lt (List.getElem_mem hlt)
def size_L (e : LExpr) (i : Nat) (a : Nat) : St := ⟨lk [(1, .ptr 0 1 0 0), (3, .int .i64 a), (4, .int .i64 i)], [some ⟨[[.int .i64 e.kind, .int .i64 e.num, .str e.text, .imm (e.kids.map LExpr.C) e.sp e.lim]], 4, 48, false, false⟩], []⟩
theorem Expr.size_kid {e : LExpr} {i : Nat} (hi : i < e.kids.length) : (e.kids[i]).core.size < e.core.size := by
  have h : ∀ (l : List LExpr) (i : Nat) (hi : i < l.length), (l[i]).core.size ≤ Expr.sizes (l.map LExpr.core) := by
    intro l
    induction l with
    | nil => intro i hi; simp at hi
    | cons x xs ih =>
      intro i hi
      cases i with
      | zero => simp only [List.map_cons, Expr.sizes, List.getElem_cons_zero]; omega
      | succ i => have := ih i (by simpa using hi); simp only [List.map_cons, Expr.sizes, List.getElem_cons_succ]; omega
  rw [Expr.size_eq e.core, LExpr.core_kids]
  have := h e.kids i hi
  omega
open Z in
def mf_spec_size : MF := ⟨21, [(.t 2)], q (r [k 1 (.box 48 (t 0)), k 2 (.mov (i 0))]) (q (r [k 3 (.mov (i 1))]) (q (q (r [k 4 (.mov (i 0))]) (.blk 0 (.loop (q (q (r [m 5 4, k 6 (.fadr 3 (t 1)), k 7 (.load false 1 (t 6)), k 8 (.lenl (t 7)), k 9 (.bin .lss (t 5) (t 8))]) (.cond (t 9) .skip (.exit 0))) (q (.blk 1 (r [m 12 3, k 13 (.fadr 3 (t 1)), k 14 (.load false 1 (t 13)), m 15 4, k 16 (.iadr 4 (t 14) (t 15)), k 17 (.load true 4 (t 16)), k 18 (c 157 [t 17]), k 19 (.bin .add (t 12) (t 18)), m 3 19])) (r [m 10 4, k 11 (.bin .add (t 10) (i 1)), m 4 11])))))) (q (r [m 20 3, m 2 20]) .ret)))⟩
theorem fit_spec_size : Fit Tryz.prog 157 Tryz.f157 mf_spec_size := ⟨by kernel_rfl, Tryz.func157, by kernel_rfl, by kernel_rfl, by kernel_rfl, by kernel_rfl⟩
theorem size_ct (e : LExpr) (hs : e.core.size ≤ 4611686018427387904) : Ct Tryz.prog 157 [.agg e.C] (.int .i64 e.core.size) := by
  refine ct_of_run fit_spec_size (by simp [mf_spec_size]) (by simp [go_sem]) fun hd => ?_
  simp -implicitDefEqProofs [-List.map_take, -List.map_drop, go_sem, mf_spec_size]
  have hm : e.kids.length ≤ maxLen := by have := LExpr.deep hd.1; omega
  refine run_iter (e.kids.length) (size_L e) (fun i a => a + Expr.sizes ((e.kids.drop i).map LExpr.core) = e.core.size) 1 (gh_auto (by simp [go_sem, size_L])) (by first | (simp; done) | (simp [Expr.size_eq e.core]; done) | (simp [Expr.size_eq e.core]; omega) | grind) ?_
  intro i a hi hj
  simp -implicitDefEqProofs [-List.map_take, -List.map_drop, go_sem, size_L]
  refine cnd_split (fun hc => ?_) (fun hc => ?_)
  · have hlt : i < e.kids.length := by first | (simpa using hc) | (simp at hc; omega)
    rw [List.drop_eq_getElem_cons (l := e.kids) (by omega)] at hj
    simp only [List.map_cons, Expr.sizes] at hj
    have hsz := Nat.le_trans (Nat.le_of_lt (Expr.size_kid hlt)) hs
    have hw : IntKind.i64.wrap ((a : Int) + ((e.kids[i]).core.size : Int)) = (a : Int) + ((e.kids[i]).core.size : Int) := wrap_small (by omega) (by omega)
    simp -implicitDefEqProofs [-List.map_take, -List.map_drop, go_sem, hlt, hw]
    repeat' first
      | ((first | refine gv_split (fun h => ?_) (fun h => ?_) | refine cnd_split (fun h => ?_) (fun h => ?_) | refine cgv_split (fun h => ?_) (fun h => ?_)) <;> (try (have hp := h; simp at hp)) <;> simp -implicitDefEqProofs [-List.map_take, -List.map_drop, go_sem, h, hlt, hw])
      | (refine And.intro (by first | omega | (simp only [maxLen]; omega) | (simp_all; done) | (simp_all; omega)) ?_; try simp -implicitDefEqProofs [-List.map_take, -List.map_drop, go_sem, hlt, hw])
      | ((first | refine stp_ct (size_ct e.kids[i] hsz) (by simp [go_sem, hlt, hw]) ?_ ?_ | refine cstp_ct (size_ct e.kids[i] hsz) (by simp [go_sem, hlt, hw]) ?_ ?_); (simp [go_sem]); simp -implicitDefEqProofs [-List.map_take, -List.map_drop, go_sem, hlt, hw])
      | (refine run_dreg' (by decide) ?_; simp -implicitDefEqProofs [-List.map_take, -List.map_drop, go_sem, hlt, hw])
      | ((first | refine kx_next (a + (e.kids[i]).core.size) hlt (gh_auto (by simp [go_sem, size_L, wrap_succ hlt hm, hlt, hw])) ?_ | refine end_tup _ (by simp) (by simp [go_sem]; rfl) (by simp [go_sem]) ?_); first | (simp [go_sem, *, Expr.size_eq e.core]; done) | grind [Expr.size_eq e.core] | (simp [go_sem, Expr.size_eq e.core]; grind [Expr.size_eq e.core]) | (simp_all [go_sem, Expr.size_eq e.core]; done) | (simp_all [go_sem, Expr.size_eq e.core]; omega))
  · have hge : e.kids.length ≤ i := by first | (simpa using hc) | (simp at hc; omega)
    rw [List.drop_of_length_le (l := e.kids) (by omega)] at hj
    simp only [List.map_nil, Expr.sizes] at hj
    try simp -implicitDefEqProofs [-List.map_take, -List.map_drop, go_sem]
    repeat' first
      | ((first | refine gv_split (fun h => ?_) (fun h => ?_) | refine cnd_split (fun h => ?_) (fun h => ?_) | refine cgv_split (fun h => ?_) (fun h => ?_)) <;> (try (have hp := h; simp at hp)) <;> simp -implicitDefEqProofs [-List.map_take, -List.map_drop, go_sem, h])
      | (refine And.intro (by first | omega | (simp only [maxLen]; omega) | (simp_all; done) | (simp_all; omega)) ?_; try simp -implicitDefEqProofs [-List.map_take, -List.map_drop, go_sem])
      | ((first | refine stp_ct (size_ct e.kids[i] hsz) (by simp [go_sem]) ?_ ?_ | refine cstp_ct (size_ct e.kids[i] hsz) (by simp [go_sem]) ?_ ?_); (simp [go_sem]); simp -implicitDefEqProofs [-List.map_take, -List.map_drop, go_sem])
      | (refine run_dreg' (by decide) ?_; simp -implicitDefEqProofs [-List.map_take, -List.map_drop, go_sem])
      | ((first | refine end_tup _ (by simp) (by simp [go_sem]; rfl) (by simp [go_sem]) ?_); first | (simp [go_sem, *, Expr.size_eq e.core]; done) | grind [Expr.size_eq e.core] | (simp [go_sem, Expr.size_eq e.core]; grind [Expr.size_eq e.core]) | (simp_all [go_sem, Expr.size_eq e.core]; done) | (simp_all [go_sem, Expr.size_eq e.core]; omega))
termination_by SizeOf.sizeOf e
decreasing_by all_goals exact LExpr.kid_lt (List.getElem_mem hlt)
theorem size_le {e : Expr} (h : validShape e 9 = true) : e.size ≤ 4611686018427387904 := Nat.le_trans (size_of_valid e 9 h) (by decide)
open Z in
def mf_spec_ExprOk : MF := ⟨10, [(.t 2)], q (r [k 1 (.box 48 (t 0)), k 2 (.mov (b false))]) (q (r [k 3 (.load true 4 (t 1)), k 4 (c 156 [t 3, i 9]), m 5 4, g 6 (.load true 4 (t 1)) 5 true, g 7 (c 157 [t 6]) 5 true, g 8 (.bin .leq (t 7) (i 40)) 5 true, k 9 (.pick (t 5) (t 8) (b false)), m 2 9]) .ret)⟩
theorem fit_spec_ExprOk : Fit Tryz.prog 99 Tryz.f99 mf_spec_ExprOk := ⟨by kernel_rfl, Tryz.func99, by kernel_rfl, by kernel_rfl, by kernel_rfl, by kernel_rfl⟩
theorem exprOk_ct (e : LExpr) (hs : e.core.Sm) : Ct Tryz.prog 99 [.agg e.C] (.bool (exprOk e.core)) := by
  refine ct_of_run fit_spec_ExprOk (by simp [mf_spec_ExprOk]) (by simp [go_sem]) fun hd => ?_
  simp -implicitDefEqProofs [-List.map_take, -List.map_drop, go_sem, mf_spec_ExprOk]
  repeat' first
    | ((first | refine gv_split (fun h => ?_) (fun h => ?_) | refine cnd_split (fun h => ?_) (fun h => ?_) | refine cgv_split (fun h => ?_) (fun h => ?_)) <;> (try (have hp := h; simp at hp)) <;> simp -implicitDefEqProofs [-List.map_take, -List.map_drop, go_sem, h])
    | (refine And.intro (by first | omega | (simp only [maxLen]; omega) | (simp_all; done) | (simp_all; omega)) ?_; try simp -implicitDefEqProofs [-List.map_take, -List.map_drop, go_sem])
    | ((first | refine stp_ct (validShape_ct e 9 (by decide) hs) (by simp [go_sem]) ?_ ?_ | refine cstp_ct (validShape_ct e 9 (by decide) hs) (by simp [go_sem]) ?_ ?_ | refine stp_ct (size_ct e (size_le h)) (by simp [go_sem]) ?_ ?_ | refine cstp_ct (size_ct e (size_le h)) (by simp [go_sem]) ?_ ?_); (simp [go_sem]); simp -implicitDefEqProofs [-List.map_take, -List.map_drop, go_sem])
    | (refine run_dreg' (by decide) ?_; simp -implicitDefEqProofs [-List.map_take, -List.map_drop, go_sem])
    | ((first | refine end_tup _ (by simp) (by simp [go_sem]; rfl) (by simp [go_sem]) ?_); first | (simp [go_sem, *, exprOk]; done) | grind [exprOk] | (simp [go_sem, exprOk]; grind [exprOk]) | (simp_all [go_sem, exprOk]; done) | (simp_all [go_sem, exprOk]; omega))

def same_L (a b : LExpr) (i : Nat) (_ : Unit) : St := ⟨lk [(2, .ptr 0 1 0 0), (3, .ptr 1 1 0 0), (5, .int .i64 i)], [some ⟨[[.int .i64 a.kind, .int .i64 a.num, .str a.text, .imm (a.kids.map LExpr.C) a.sp a.lim]], 4, 48, false, false⟩, some ⟨[[.int .i64 b.kind, .int .i64 b.num, .str b.text, .imm (b.kids.map LExpr.C) b.sp b.lim]], 4, 48, false, false⟩], []⟩
open Z in
def mf_spec_same : MF := ⟨53, [(.t 4)], q (r [k 2 (.box 48 (t 0)), k 3 (.box 48 (t 1)), k 4 (.mov (b false))]) (q (q (r [k 6 (.fadr 0 (t 2)), k 7 (.load false 1 (t 6)), k 8 (.fadr 0 (t 3)), k 9 (.load false 1 (t 8)), k 10 (.bin .neq (t 7) (t 9)), m 11 10, g 12 (.fadr 1 (t 2)) 11 false, g 13 (.load false 1 (t 12)) 11 false, g 14 (.fadr 1 (t 3)) 11 false, g 15 (.load false 1 (t 14)) 11 false, g 16 (.bin .neq (t 13) (t 15)) 11 false, k 17 (.pick (t 11) (b true) (t 16)), m 18 17, g 19 (.fadr 2 (t 2)) 18 false, g 20 (.load false 1 (t 19)) 18 false, g 21 (.fadr 2 (t 3)) 18 false, g 22 (.load false 1 (t 21)) 18 false, g 23 (.seq true (t 20) (t 22)) 18 false, k 24 (.pick (t 18) (b true) (t 23)), m 25 24, g 26 (.fadr 3 (t 2)) 25 false, g 27 (.load false 1 (t 26)) 25 false, g 28 (.lenl (t 27)) 25 false, g 29 (.fadr 3 (t 3)) 25 false, g 30 (.load false 1 (t 29)) 25 false, g 31 (.lenl (t 30)) 25 false, g 32 (.bin .neq (t 28) (t 31)) 25 false, k 33 (.pick (t 25) (b true) (t 32))]) (.cond (t 33) (q (r [k 4 (.mov (b false))]) .ret) .skip)) (q (q (r [k 5 (.mov (i 0))]) (.blk 0 (.loop (q (q (r [m 34 5, k 35 (.fadr 3 (t 2)), k 36 (.load false 1 (t 35)), k 37 (.lenl (t 36)), k 38 (.bin .lss (t 34) (t 37))]) (.cond (t 38) .skip (.exit 0))) (q (.blk 1 (q (.dreg [(k 41 (.fadr 3 (t 2)), []), (k 42 (.load false 1 (t 41)), [0]), (m 43 5, []), (k 44 (.iadr 4 (t 42) (t 43)), [1, 2]), (k 45 (.load true 4 (t 44)), [3]), (k 46 (.fadr 3 (t 3)), []), (k 47 (.load false 1 (t 46)), [5]), (m 48 5, []), (k 49 (.iadr 4 (t 47) (t 48)), [6, 7]), (k 50 (.load true 4 (t 49)), [8]), (k 51 (c 205 [t 45, t 50]), [4, 9]), (k 52 (.not (t 51)), [10])]) (.cond (t 52) (q (r [k 4 (.mov (b false))]) .ret) .skip))) (r [m 39 5, k 40 (.bin .add (t 39) (i 1)), m 5 40])))))) (q (r [k 4 (.mov (b true))]) .ret)))⟩
theorem fit_spec_same : Fit Tryz.prog 205 Tryz.f205 mf_spec_same := ⟨by kernel_rfl, Tryz.func205, by kernel_rfl, by kernel_rfl, by kernel_rfl, by kernel_rfl⟩
theorem same_ct (x y : LExpr) : Ct Tryz.prog 205 [.agg x.C, .agg y.C] (.bool (Expr.same x.core y.core)) := by
  refine ct_of_run fit_spec_same (by simp [mf_spec_same]) (by simp [go_sem]) fun hd => ?_
  simp -implicitDefEqProofs [-List.map_take, -List.map_drop, go_sem, mf_spec_same]
  have hm : x.kids.length ≤ maxLen := by have := LExpr.deep hd.1; omega
  rw [Expr.same_eq, LExpr.core_kind, LExpr.core_num, LExpr.core_text, LExpr.core_kids, LExpr.core_kind, LExpr.core_num, LExpr.core_text, LExpr.core_kids]
  have hne := Expr.sames_ne (x.kids.map LExpr.core) (y.kids.map LExpr.core)
  simp only [List.length_map] at hne
  repeat' first
    | ((first | refine gv_split (fun h => ?_) (fun h => ?_) | refine cnd_split (fun h => ?_) (fun h => ?_) | refine cgv_split (fun h => ?_) (fun h => ?_)) <;> (try (have hp := h; simp at hp)) <;> simp -implicitDefEqProofs [-List.map_take, -List.map_drop, go_sem, h])
    | (refine And.intro (by first | omega | (simp only [maxLen]; omega) | (simp_all; done) | (simp_all; omega)) ?_; try simp -implicitDefEqProofs [-List.map_take, -List.map_drop, go_sem])
    | (refine run_dreg' (by decide) ?_; simp -implicitDefEqProofs [-List.map_take, -List.map_drop, go_sem])
    | ((first | refine end_tup _ (by simp) (by simp [go_sem]; rfl) (by simp [go_sem]) ?_); first | (simp [go_sem, *]; done) | grind | (simp [go_sem]; grind) | (simp_all [go_sem]; done) | (simp_all [go_sem]; omega))
  have hlen : x.kids.length = y.kids.length := by omega
  refine run_iter (x.kids.length) (same_L x y) (fun i a => Expr.sames ((x.kids.drop i).map LExpr.core) ((y.kids.drop i).map LExpr.core) = Expr.sames (x.kids.map LExpr.core) (y.kids.map LExpr.core)) () (gh_auto (by simp [go_sem, same_L])) (by first | (simp; done) | (simp []; done) | (simp []; omega) | grind) ?_
  intro i a hi hj
  simp -implicitDefEqProofs [-List.map_take, -List.map_drop, go_sem, same_L]
  refine cnd_split (fun hc => ?_) (fun hc => ?_)
  · have hlt : i < x.kids.length := by first | (simpa using hc) | (simp at hc; omega)
    rw [List.drop_eq_getElem_cons (l := x.kids) (by omega)] at hj
    have hlt_1 : i < y.kids.length := by omega
    rw [List.drop_eq_getElem_cons (l := y.kids) (by omega)] at hj
    simp only [List.map_cons, Expr.sames] at hj
    simp -implicitDefEqProofs [-List.map_take, -List.map_drop, go_sem, hlt, hlt_1]
    have c1 := same_ct x.kids[i] y.kids[i]
    have hy := And.intro (hlt) (hlt_1)
    have hdf := hy0
    have eL := @same_L.eq_1
    have hm0 := hm
    have hlt0 := hlt
    exact wk1n
  · have hge : x.kids.length ≤ i := by first | (simpa using hc) | (simp at hc; omega)
    rw [List.drop_of_length_le (l := x.kids) (by omega)] at hj
    rw [List.drop_of_length_le (l := y.kids) (by omega)] at hj
    simp only [List.map_nil, Expr.sames] at hj
    try simp -implicitDefEqProofs [-List.map_take, -List.map_drop, go_sem]
    have hy := hy0
    have hdf := hy0
    exact wk0
termination_by SizeOf.sizeOf x
decreasing_by all_goals exact LExpr.kid_lt (List.getElem_mem hlt)
def zeroL : LExpr := .mk 0 0 [] [] [] true
theorem zeroL_core : zeroL.core = zeroE := rfl
theorem zeroL_C : [PV.int .i64 0, .int .i64 0, .str [], .imm [] [] true] = zeroL.C := rfl
open Z in
def mf_spec_zeroExpr : MF := ⟨6, [(.t 2)], q (r [k 1 (.box 48 (t 0)), k 2 (.mov (b false))]) (q (r [k 3 (.load true 4 (t 1)), k 4 (.build [.int .i64 0, .int .i64 0, .str [], .imm [] [] true] []), k 5 (c 205 [t 3, t 4]), m 2 5]) .ret)⟩
theorem fit_spec_zeroExpr : Fit Tryz.prog 173 Tryz.f173 mf_spec_zeroExpr := ⟨by kernel_rfl, Tryz.func173, by kernel_rfl, by kernel_rfl, by kernel_rfl, by kernel_rfl⟩
theorem zeroExpr_ct (e : LExpr) : Ct Tryz.prog 173 [.agg e.C] (.bool (Expr.same e.core zeroE)) := by
  refine ct_of_run fit_spec_zeroExpr (by simp [mf_spec_zeroExpr]) (by simp [go_sem]) fun hd => ?_
  simp -implicitDefEqProofs [-List.map_take, -List.map_drop, go_sem, mf_spec_zeroExpr]
  simp -implicitDefEqProofs [-List.map_take, -List.map_drop, go_sem, buildV, fillC]
  rw [zeroL_C]
  have c1 := same_ct e zeroL
  have hy := hy0
  have e1 := @zeroL_core
  have hdf := @e1
  exact wk1
def bindAt_L (l : Sl Bind) (name : Str) (a : Nat) : St := ⟨lk [(0, l.I Bind.C), (1, .str name), (5, .int .i64 ((a : Int) - 1))], [], []⟩
open Z in
def mf_spec_bindAt : MF := ⟨21, [(.t 4)], q (r [k 4 (.mov (i 0))]) (q (q (r [m 6 0, k 7 (.lenl (t 6)), k 8 (.bin .sub (t 7) (i 1)), m 5 8]) (.blk 0 (.loop (q (q (r [m 9 5, k 10 (.bin .geq (t 9) (i 0))]) (.cond (t 10) .skip (.exit 0))) (q (.blk 1 (q (r [m 13 0, m 14 5, k 15 (.iadr 2 (t 13) (t 14)), k 16 (.fadr 0 (t 15)), k 17 (.load false 1 (t 16)), m 18 1, k 19 (.seq false (t 17) (t 18))]) (.cond (t 19) (q (r [m 20 5, m 4 20]) .ret) .skip))) (r [m 11 5, k 12 (.bin .sub (t 11) (i 1)), m 5 12])))))) (q (r [k 4 (.mov (i (-1)))]) .ret))⟩
theorem fit_spec_bindAt : Fit Tryz.prog 204 Tryz.f204 mf_spec_bindAt := ⟨by kernel_rfl, Tryz.func204, by kernel_rfl, by kernel_rfl, by kernel_rfl, by kernel_rfl⟩
theorem bindAt_ct (l : Sl Bind) (name : Str) : Ct Tryz.prog 204 [l.I Bind.C, .str name] (.int .i64 (bindAt l.es name)) := by
  refine ct_of_run fit_spec_bindAt (by simp [mf_spec_bindAt]) (by simp [go_sem]) fun hd => ?_
  simp -implicitDefEqProofs [-List.map_take, -List.map_drop, go_sem, mf_spec_bindAt]
  have hm : l.es.length ≤ maxLen := by simp [deepL, deepV, Sl.I] at hd; omega
  simp only [maxLen] at hm
  have hw0 : IntKind.i64.wrap ((l.es.length : Int) - 1) = (l.es.length : Int) - 1 := wrap_small (by omega) (by omega)
  simp -implicitDefEqProofs [-List.map_take, -List.map_drop, go_sem, hw0]
  refine run_while (bindAt_L l name) (fun a => a) (fun a => bindAtTo name l.es a = bindAt l.es name ∧ a ≤ l.es.length) l.es.length (gh_auto (by simp [go_sem, bindAt_L, hw0])) ⟨rfl, Nat.le_refl _⟩ ?_
  rintro j ⟨hj, hjl⟩
  simp -implicitDefEqProofs [-List.map_take, -List.map_drop, go_sem, bindAt_L]
  cases j with
  | zero =>
    simp only [bindAtTo] at hj
    simp -implicitDefEqProofs [-List.map_take, -List.map_drop, go_sem]
    have hy := hy0
    have hdf := hy0
    exact wk0
  | succ j =>
    have hlt : j < l.es.length := hjl
    have hlt' : ((j + 1 : Nat) : Int) - 1 = j := by omega
    have hw : IntKind.i64.wrap ((j : Int) - 1) = (j : Int) - 1 := wrap_small (by omega) (by omega)
    simp only [bindAtTo, nameIs, List.getElem?_eq_getElem hlt] at hj
    rw [hlt']
    simp -implicitDefEqProofs [-List.map_take, -List.map_drop, go_sem, hlt]
    repeat' first
      | ((first | refine gv_split (fun h => ?_) (fun h => ?_) | refine cnd_split (fun h => ?_) (fun h => ?_) | refine cgv_split (fun h => ?_) (fun h => ?_)) <;> (try (have hp := h; simp at hp)) <;> simp -implicitDefEqProofs [-List.map_take, -List.map_drop, go_sem, h, hlt])
      | (refine And.intro (by first | omega | (simp only [maxLen]; omega) | (simp_all; done) | (simp_all; omega)) ?_; try simp -implicitDefEqProofs [-List.map_take, -List.map_drop, go_sem, hlt])
      | (refine run_dreg' (by decide) ?_; simp -implicitDefEqProofs [-List.map_take, -List.map_drop, go_sem, hlt])
      | ((first | refine end_tup _ (by simp) (by simp [go_sem]; rfl) (by simp [go_sem]) ?_); first | (simp [go_sem, *]; done) | grind | (simp [go_sem]; grind) | (simp_all [go_sem]; done) | (simp_all [go_sem]; omega))
    refine kx_more j (by simp) (gh_auto (by simp [go_sem, bindAt_L, hw])) ?_
    refine ⟨?_, by omega⟩
    rw [← hj, if_neg (by simpa using hp)]
def validBinds_L (l : Sl Bind) (i : Nat) (_ : Unit) : St := ⟨lk [(0, l.I Bind.C), (3, .int .i64 i)], [], []⟩
open Z in
def mf_spec_validBinds : MF := ⟨41, [(.t 2)], q (r [k 2 (.mov (b false))]) (q (q (r [k 3 (.mov (i 0))]) (.blk 0 (.loop (q (q (r [m 4 3, m 5 0, k 6 (.lenl (t 5)), k 7 (.bin .lss (t 4) (t 6))]) (.cond (t 7) .skip (.exit 0))) (q (.blk 1 (q (.dreg [(m 10 0, []), (m 11 3, []), (k 12 (.iadr 2 (t 10) (t 11)), [0, 1]), (k 13 (.fadr 0 (t 12)), [2]), (k 14 (.load false 1 (t 13)), [3]), (k 15 (c 85 [t 14]), [4]), (k 16 (.not (t 15)), [5]), (m 17 16, [6, 5]), (g 18 (.mov (t 0)) 17 false, [7]), (g 19 (.mov (t 3)) 17 false, [7]), (g 20 (.iadr 2 (t 18) (t 19)) 17 false, [8, 9, 7]), (g 21 (.fadr 1 (t 20)) 17 false, [10, 7]), (g 22 (.load false 1 (t 21)) 17 false, [11, 7]), (g 23 (c 39 [t 22]) 17 false, [12, 7, 7]), (g 24 (.not (t 23)) 17 false, [13, 7]), (k 25 (.pick (t 17) (b true) (t 24)), [7, 14]), (m 26 25, [15, 13]), (g 27 (.mov (t 0)) 26 false, [16]), (g 28 (.mov (t 3)) 26 false, [16]), (g 29 (.sl 2 (t 27) none (some (t 28)) none) 26 false, [17, 18, 16]), (g 30 (.mov (t 0)) 26 false, [16]), (g 31 (.mov (t 3)) 26 false, [16]), (g 32 (.iadr 2 (t 30) (t 31)) 26 false, [20, 21, 16]), (g 33 (.fadr 0 (t 32)) 26 false, [22, 16]), (g 34 (.load false 1 (t 33)) 26 false, [23, 16]), (g 35 (c 204 [t 29, t 34]) 26 false, [19, 24, 16, 16]), (g 36 (.bin .geq (t 35) (i 0)) 26 false, [25, 16]), (k 37 (.pick (t 26) (b true) (t 36)), [16, 26])]) (.cond (t 37) (q (r [k 2 (.mov (b false))]) .ret) .skip))) (r [m 8 3, k 9 (.bin .add (t 8) (i 1)), m 3 9])))))) (q (r [m 38 0, k 39 (.lenl (t 38)), k 40 (.bin .leq (t 39) (i 4)), m 2 40]) .ret))⟩
theorem fit_spec_validBinds : Fit Tryz.prog 172 Tryz.f172 mf_spec_validBinds := ⟨by kernel_rfl, Tryz.func172, by kernel_rfl, by kernel_rfl, by kernel_rfl, by kernel_rfl⟩
theorem validBinds_ct (l : Sl Bind) : Ct Tryz.prog 172 [l.I Bind.C] (.bool (validBinds l.es)) := by
  refine ct_of_run fit_spec_validBinds (by simp [mf_spec_validBinds]) (by simp [go_sem]) fun hd => ?_
  simp -implicitDefEqProofs [-List.map_take, -List.map_drop, go_sem, mf_spec_validBinds]
  have hm : l.es.length ≤ maxLen := by simp [deepL, deepV, Sl.I] at hd; omega
  refine run_iter (l.es.length) (validBinds_L l) (fun i a => bindsOk (l.es.take i) (l.es.drop i) = bindsOk [] l.es) () (gh_auto (by simp [go_sem, validBinds_L])) (by first | (simp; done) | (simp [validBinds]; done) | (simp [validBinds]; omega) | grind) ?_
  intro i a hi hj
  simp -implicitDefEqProofs [-List.map_take, -List.map_drop, go_sem, validBinds_L]
  refine cnd_split (fun hc => ?_) (fun hc => ?_)
  · have hlt : i < l.es.length := by first | (simpa using hc) | (simp at hc; omega)
    rw [List.drop_eq_getElem_cons (l := l.es) (by omega)] at hj
    simp only [List.map_cons, bindsOk] at hj
    have hww : ∀ e, e ∈ l.sp → e.length = 2 := fun e he => wide_of_deep hd.1 _ (List.mem_map_of_mem (List.getElem_mem hlt)) (Bind.C_len _) e (.inr he)
    have hwsl := fun (σ : Heap) => slV_pre (σ := σ) (k := .i64) (f := Bind.C) (l := l.es) (lim := l.lim) (Nat.le_of_lt hlt) hww Bind.C_len
    rw [List.take_append_getElem hlt, ← bindAt_nn] at hj
    simp -implicitDefEqProofs [-List.map_take, -List.map_drop, go_sem, hlt, hww, hwsl]
    have d1 := fun a1 => isName_ct a1
    have d2 := fun a1 => typeOk_ct a1
    have d3 := fun a1 => bindAt_ct ⟨l.es.take i, (l.es.map Bind.C).drop i ++ l.sp, l.lim⟩ a1
    have hy := And.intro (hlt) (And.intro (hww) (hwsl))
    have e1 := @validBinds.eq_1
    have hdf := @e1
    have eL := @validBinds_L.eq_1
    have hm0 := hm
    have hlt0 := hlt
    exact wk1n
  · have hge : l.es.length ≤ i := by first | (simpa using hc) | (simp at hc; omega)
    rw [List.drop_of_length_le (l := l.es) (by omega)] at hj
    simp only [List.map_nil, bindsOk] at hj
    try simp -implicitDefEqProofs [-List.map_take, -List.map_drop, go_sem]
    have d1 := fun a1 => isName_ct a1
    have d2 := fun a1 => typeOk_ct a1
    have d3 := fun a1 => bindAt_ct ⟨l.es.take i, (l.es.map Bind.C).drop i ++ l.sp, l.lim⟩ a1
    have hy := hy0
    have e1 := @validBinds.eq_1
    have hdf := @e1
    exact wk1
def validDecl_L (d : LDecl) (i : Nat) (_ : Unit) : St := ⟨lk [(1, .ptr 0 1 0 0), (3, .int .i64 i)], [some ⟨[[.int .i64 d.kind, .str d.name, .imm (d.binds.es.map Bind.C) d.binds.sp d.binds.lim, .str d.type, .int .i64 d.body.kind, .int .i64 d.body.num, .str d.body.text, .imm (d.body.kids.map LExpr.C) d.body.sp d.body.lim]], 8, 72, false, false⟩], []⟩
theorem binds_deep {d : LDecl} (h : deepL d.C) : d.binds.es.length ≤ maxLen := by
  simp [LDecl.C, deepL, deepV] at h
  omega
open Z in
def mf_spec_validDecl : MF := ⟨66, [(.t 2)], q (r [k 1 (.box 72 (t 0)), k 2 (.mov (b false))]) (q (q (r [k 6 (.fadr 1 (t 1)), k 7 (.load false 1 (t 6)), k 8 (c 85 [t 7]), k 9 (.not (t 8)), m 10 9, g 11 (.fadr 2 (t 1)) 10 false, g 12 (.load false 1 (t 11)) 10 false, g 13 (c 172 [t 12]) 10 false, g 14 (.not (t 13)) 10 false, k 15 (.pick (t 10) (b true) (t 14))]) (.cond (t 15) (q (r [k 2 (.mov (b false))]) .ret) .skip)) (q (q (r [k 16 (.fadr 0 (t 1)), k 17 (.load false 1 (t 16)), k 18 (.bin .eql (t 17) (i 0))]) (.cond (t 18) (q (r [k 19 (.fadr 3 (t 1)), k 20 (.load false 1 (t 19)), k 21 (c 39 [t 20]), m 22 21, g 23 (.fadr 4 (t 1)) 22 true, g 24 (.load true 4 (t 23)) 22 true, g 25 (c 99 [t 24]) 22 true, k 26 (.pick (t 22) (t 25) (b false)), m 2 26]) .ret) .skip)) (q (q (r [k 3 (.mov (i 0))]) (.blk 0 (.loop (q (q (r [m 27 3, k 28 (.fadr 2 (t 1)), k 29 (.load false 1 (t 28)), k 30 (.lenl (t 29)), k 31 (.bin .lss (t 27) (t 30))]) (.cond (t 31) .skip (.exit 0))) (q (.blk 1 (q (r [k 35 (.fadr 2 (t 1)), k 36 (.load false 1 (t 35)), m 37 3, k 38 (.iadr 2 (t 36) (t 37)), k 39 (.fadr 1 (t 38)), k 40 (.load false 1 (t 39)), k 41 (c 83 [t 40]), m 34 41, k 42 (.ext (t 34) 0), k 43 (.ext (t 34) 1), m 4 42, m 5 43]) (q (r [m 44 4, k 45 (c 84 [t 44]), k 46 (.not (t 45))]) (.cond (t 46) (q (r [k 2 (.mov (b false))]) .ret) .skip)))) (r [m 32 3, k 33 (.bin .add (t 32) (i 1)), m 3 33])))))) (q (r [k 47 (.fadr 0 (t 1)), k 48 (.load false 1 (t 47)), k 49 (.bin .eql (t 48) (i 1)), m 50 49, g 51 (.fadr 2 (t 1)) 50 true, g 52 (.load false 1 (t 51)) 50 true, g 53 (.lenl (t 52)) 50 true, g 54 (.bin .gtr (t 53) (i 0)) 50 true, k 55 (.pick (t 50) (t 54) (b false)), m 56 55, g 57 (.fadr 3 (t 1)) 56 true, g 58 (.load false 1 (t 57)) 56 true, g 59 (.seq false (t 58) (s [])) 56 true, k 60 (.pick (t 56) (t 59) (b false)), m 61 60, g 62 (.fadr 4 (t 1)) 61 true, g 63 (.load true 4 (t 62)) 61 true, g 64 (c 173 [t 63]) 61 true, k 65 (.pick (t 61) (t 64) (b false)), m 2 65]) .ret))))⟩
theorem fit_spec_validDecl : Fit Tryz.prog 122 Tryz.f122 mf_spec_validDecl := ⟨by kernel_rfl, Tryz.func122, by kernel_rfl, by kernel_rfl, by kernel_rfl, by kernel_rfl⟩
theorem validDecl_ct (d : LDecl) (hs : d.body.core.Sm) : Ct Tryz.prog 122 [.agg d.C] (.bool (validDecl d.core)) := by
  refine ct_of_run fit_spec_validDecl (by simp [mf_spec_validDecl]) (by simp [go_sem]) fun hd => ?_
  simp -implicitDefEqProofs [-List.map_take, -List.map_drop, go_sem, mf_spec_validDecl]
  have hm : d.binds.es.length ≤ maxLen := binds_deep hd.1
  repeat' first
    | ((first | refine gv_split (fun h => ?_) (fun h => ?_) | refine cnd_split (fun h => ?_) (fun h => ?_) | refine cgv_split (fun h => ?_) (fun h => ?_)) <;> (try (have hp := h; simp at hp)) <;> simp -implicitDefEqProofs [-List.map_take, -List.map_drop, go_sem, h])
    | (refine And.intro (by first | omega | (simp only [maxLen]; omega) | (simp_all; done) | (simp_all; omega)) ?_; try simp -implicitDefEqProofs [-List.map_take, -List.map_drop, go_sem])
    | ((first | refine stp_ct (isName_ct _) (by simp [go_sem]) ?_ ?_ | refine cstp_ct (isName_ct _) (by simp [go_sem]) ?_ ?_ | refine stp_ct (validBinds_ct d.binds) (by simp [go_sem]) ?_ ?_ | refine cstp_ct (validBinds_ct d.binds) (by simp [go_sem]) ?_ ?_ | refine stp_ct (typeOk_ct _) (by simp [go_sem]) ?_ ?_ | refine cstp_ct (typeOk_ct _) (by simp [go_sem]) ?_ ?_ | refine stp_ct (exprOk_ct d.body hs) (by simp [go_sem]) ?_ ?_ | refine cstp_ct (exprOk_ct d.body hs) (by simp [go_sem]) ?_ ?_); (simp [go_sem]); simp -implicitDefEqProofs [-List.map_take, -List.map_drop, go_sem])
    | (refine run_dreg' (by decide) ?_; simp -implicitDefEqProofs [-List.map_take, -List.map_drop, go_sem])
    | ((first | refine end_tup _ (by simp) (by simp [go_sem]; rfl) (by simp [go_sem]) ?_); first | (simp [go_sem, *, validDecl, LDecl.core]; done) | grind [validDecl, LDecl.core] | (simp [go_sem, validDecl, LDecl.core]; grind [validDecl, LDecl.core]) | (simp_all [go_sem, validDecl, LDecl.core]; done) | (simp_all [go_sem, validDecl, LDecl.core]; omega))
  all_goals
    refine run_iter (d.binds.es.length) (validDecl_L d) (fun i a => plainBinds (d.binds.es.drop i) = plainBinds d.binds.es) () (gh_auto (by simp [go_sem, validDecl_L])) (by first | (simp; done) | (simp [validDecl, LDecl.core]; done) | (simp [validDecl, LDecl.core]; omega) | grind) ?_
    intro i a hi hj
    simp -implicitDefEqProofs [-List.map_take, -List.map_drop, go_sem, validDecl_L]
    refine cnd_split (fun hc => ?_) (fun hc => ?_)
    · have hlt : i < d.binds.es.length := by first | (simpa using hc) | (simp at hc; omega)
      rw [List.drop_eq_getElem_cons (l := d.binds.es) (by omega)] at hj
      simp only [List.map_cons, plainBinds] at hj
      simp -implicitDefEqProofs [-List.map_take, -List.map_drop, go_sem, hlt]
      have d1 := fun a1 => coreOf_ct a1
      have d2 := fun a1 => isPlain_ct a1
      have c1 := zeroExpr_ct d.body
      have hy := hlt
      have e1 := @validDecl.eq_1
      have e2 := @LDecl.core.eq_1
      have hdf := And.intro (@e1) (@e2)
      have eL := @validDecl_L.eq_1
      have hm0 := hm
      have hlt0 := hlt
      exact wk1n
    · have hge : d.binds.es.length ≤ i := by first | (simpa using hc) | (simp at hc; omega)
      rw [List.drop_of_length_le (l := d.binds.es) (by omega)] at hj
      simp only [List.map_nil, plainBinds] at hj
      try simp -implicitDefEqProofs [-List.map_take, -List.map_drop, go_sem]
      have d1 := fun a1 => coreOf_ct a1
      have d2 := fun a1 => isPlain_ct a1
      have c1 := zeroExpr_ct d.body
      have hy := hy0
      have e1 := @validDecl.eq_1
      have e2 := @LDecl.core.eq_1
      have hdf := And.intro (@e1) (@e2)
      exact wk1

theorem decls_deep {m : LModule} (h : deepL m.C) : m.decls.es.length ≤ maxLen := by
  simp [LModule.C, deepL, deepV] at h
  omega
theorem uses_deep {m : LModule} (h : deepL m.C) : m.uses.es.length ≤ maxLen := by
  simp [LModule.C, deepL, deepV] at h
  omega
theorem sl_deep {α : Type} {f : α → List PV} {l : Sl α} (h : deepV (l.I f)) : l.es.length ≤ maxLen := by
  simp [Sl.I, deepV] at h
  omega
def declAt_L (m : LModule) (name : Str) (i : Nat) (_ : Unit) : St := ⟨lk [(1, .str name), (2, .ptr 0 1 0 0), (5, .int .i64 i)], [some ⟨[[.str m.name, .imm (m.uses.es.map Use.C) m.uses.sp m.uses.lim, .imm (m.decls.es.map LDecl.C) m.decls.sp m.decls.lim]], 3, 61, false, false⟩], []⟩
open Z in
def mf_spec_declAt : MF := ⟨22, [(.t 4)], q (r [k 2 (.box 61 (t 0)), k 4 (.mov (i 0))]) (q (q (r [k 5 (.mov (i 0))]) (.blk 0 (.loop (q (q (r [m 6 5, k 7 (.fadr 2 (t 2)), k 8 (.load false 1 (t 7)), k 9 (.lenl (t 8)), k 10 (.bin .lss (t 6) (t 9))]) (.cond (t 10) .skip (.exit 0))) (q (.blk 1 (q (r [k 13 (.fadr 2 (t 2)), k 14 (.load false 1 (t 13)), m 15 5, k 16 (.iadr 8 (t 14) (t 15)), k 17 (.fadr 1 (t 16)), k 18 (.load false 1 (t 17)), m 19 1, k 20 (.seq false (t 18) (t 19))]) (.cond (t 20) (q (r [m 21 5, m 4 21]) .ret) .skip))) (r [m 11 5, k 12 (.bin .add (t 11) (i 1)), m 5 12])))))) (q (r [k 4 (.mov (i (-1)))]) .ret))⟩
theorem fit_spec_declAt : Fit Tryz.prog 65 Tryz.f65 mf_spec_declAt := ⟨by kernel_rfl, Tryz.func65, by kernel_rfl, by kernel_rfl, by kernel_rfl, by kernel_rfl⟩
theorem declAt_ct (m : LModule) (name : Str) : Ct Tryz.prog 65 [.agg m.C, .str name] (.int .i64 (declAt m.core name)) := by
  refine ct_of_run fit_spec_declAt (by simp [mf_spec_declAt]) (by simp [go_sem]) fun hd => ?_
  simp -implicitDefEqProofs [-List.map_take, -List.map_drop, go_sem, mf_spec_declAt]
  have hm : m.decls.es.length ≤ maxLen := decls_deep hd.1
  refine run_iter (m.decls.es.length) (declAt_L m name) (fun i a => idxFrom (fun d => d.name == name) ((m.decls.es.drop i).map LDecl.core) i = declAt m.core name) () (gh_auto (by simp [go_sem, declAt_L])) (by first | (simp; done) | (simp [declAt]; done) | (simp [declAt]; omega) | grind) ?_
  intro i a hi hj
  simp -implicitDefEqProofs [-List.map_take, -List.map_drop, go_sem, declAt_L]
  refine cnd_split (fun hc => ?_) (fun hc => ?_)
  · have hlt : i < m.decls.es.length := by first | (simpa using hc) | (simp at hc; omega)
    rw [List.drop_eq_getElem_cons (l := m.decls.es) (by omega)] at hj
    simp only [List.map_cons, idxFrom, LDecl.core_name] at hj
    simp -implicitDefEqProofs [-List.map_take, -List.map_drop, go_sem, hlt]
    have hy := hlt
    have e1 := @declAt.eq_1
    have hdf := @e1
    have eL := @declAt_L.eq_1
    have hm0 := hm
    have hlt0 := hlt
    exact wk0n
  · have hge : m.decls.es.length ≤ i := by first | (simpa using hc) | (simp at hc; omega)
    rw [List.drop_of_length_le (l := m.decls.es) (by omega)] at hj
    simp only [List.map_nil, idxFrom, LDecl.core_name] at hj
    try simp -implicitDefEqProofs [-List.map_take, -List.map_drop, go_sem]
    have hy := hy0
    have e1 := @declAt.eq_1
    have hdf := @e1
    exact wk0
open Z in
def mf_spec_useAt : MF := ⟨22, [(.t 4)], q (r [k 2 (.box 61 (t 0)), k 4 (.mov (i 0))]) (q (q (r [k 5 (.mov (i 0))]) (.blk 0 (.loop (q (q (r [m 6 5, k 7 (.fadr 1 (t 2)), k 8 (.load false 1 (t 7)), k 9 (.lenl (t 8)), k 10 (.bin .lss (t 6) (t 9))]) (.cond (t 10) .skip (.exit 0))) (q (.blk 1 (q (r [k 13 (.fadr 1 (t 2)), k 14 (.load false 1 (t 13)), m 15 5, k 16 (.iadr 2 (t 14) (t 15)), k 17 (.fadr 1 (t 16)), k 18 (.load false 1 (t 17)), m 19 1, k 20 (.seq false (t 18) (t 19))]) (.cond (t 20) (q (r [m 21 5, m 4 21]) .ret) .skip))) (r [m 11 5, k 12 (.bin .add (t 11) (i 1)), m 5 12])))))) (q (r [k 4 (.mov (i (-1)))]) .ret))⟩
theorem fit_spec_useAt : Fit Tryz.prog 123 Tryz.f123 mf_spec_useAt := ⟨by kernel_rfl, Tryz.func123, by kernel_rfl, by kernel_rfl, by kernel_rfl, by kernel_rfl⟩
theorem useAt_ct (m : LModule) (name : Str) : Ct Tryz.prog 123 [.agg m.C, .str name] (.int .i64 (useAt m.core name)) := by
  refine ct_of_run fit_spec_useAt (by simp [mf_spec_useAt]) (by simp [go_sem]) fun hd => ?_
  simp -implicitDefEqProofs [-List.map_take, -List.map_drop, go_sem, mf_spec_useAt]
  have hm : m.uses.es.length ≤ maxLen := uses_deep hd.1
  refine run_iter (m.uses.es.length) (declAt_L m name) (fun i a => idxFrom (fun d => d.name == name) (m.uses.es.drop i) i = useAt m.core name) () (gh_auto (by simp [go_sem, declAt_L])) (by first | (simp; done) | (simp [useAt]; done) | (simp [useAt]; omega) | grind) ?_
  intro i a hi hj
  simp -implicitDefEqProofs [-List.map_take, -List.map_drop, go_sem, declAt_L]
  refine cnd_split (fun hc => ?_) (fun hc => ?_)
  · have hlt : i < m.uses.es.length := by first | (simpa using hc) | (simp at hc; omega)
    rw [List.drop_eq_getElem_cons (l := m.uses.es) (by omega)] at hj
    simp only [List.map_cons, idxFrom] at hj
    simp -implicitDefEqProofs [-List.map_take, -List.map_drop, go_sem, hlt]
    have hy := hlt
    have e1 := @useAt.eq_1
    have hdf := @e1
    have eL := @declAt_L.eq_1
    have hm0 := hm
    have hlt0 := hlt
    exact wk0n
  · have hge : m.uses.es.length ≤ i := by first | (simpa using hc) | (simp at hc; omega)
    rw [List.drop_of_length_le (l := m.uses.es) (by omega)] at hj
    simp only [List.map_nil, idxFrom] at hj
    try simp -implicitDefEqProofs [-List.map_take, -List.map_drop, go_sem]
    have hy := hy0
    have e1 := @useAt.eq_1
    have hdf := @e1
    exact wk0
def moduleAt_L (p : Sl LModule) (name : Str) (i : Nat) (_ : Unit) : St := ⟨lk [(0, p.I LModule.C), (1, .str name), (5, .int .i64 i)], [], []⟩
open Z in
def mf_spec_moduleAt : MF := ⟨20, [(.t 4)], q (r [k 4 (.mov (i 0))]) (q (q (r [k 5 (.mov (i 0))]) (.blk 0 (.loop (q (q (r [m 6 5, m 7 0, k 8 (.lenl (t 7)), k 9 (.bin .lss (t 6) (t 8))]) (.cond (t 9) .skip (.exit 0))) (q (.blk 1 (q (r [m 12 0, m 13 5, k 14 (.iadr 3 (t 12) (t 13)), k 15 (.fadr 0 (t 14)), k 16 (.load false 1 (t 15)), m 17 1, k 18 (.seq false (t 16) (t 17))]) (.cond (t 18) (q (r [m 19 5, m 4 19]) .ret) .skip))) (r [m 10 5, k 11 (.bin .add (t 10) (i 1)), m 5 11])))))) (q (r [k 4 (.mov (i (-1)))]) .ret))⟩
theorem fit_spec_moduleAt : Fit Tryz.prog 51 Tryz.f51 mf_spec_moduleAt := ⟨by kernel_rfl, Tryz.func51, by kernel_rfl, by kernel_rfl, by kernel_rfl, by kernel_rfl⟩
theorem moduleAt_ct (p : Sl LModule) (name : Str) : Ct Tryz.prog 51 [p.I LModule.C, .str name] (.int .i64 (moduleAt (p.es.map LModule.core) name)) := by
  refine ct_of_run fit_spec_moduleAt (by simp [mf_spec_moduleAt]) (by simp [go_sem]) fun hd => ?_
  simp -implicitDefEqProofs [-List.map_take, -List.map_drop, go_sem, mf_spec_moduleAt]
  have hm : p.es.length ≤ maxLen := sl_deep hd.1
  refine run_iter (p.es.length) (moduleAt_L p name) (fun i a => idxFrom (fun d => d.name == name) ((p.es.drop i).map LModule.core) i = moduleAt (p.es.map LModule.core) name) () (gh_auto (by simp [go_sem, moduleAt_L])) (by first | (simp; done) | (simp [moduleAt]; done) | (simp [moduleAt]; omega) | grind) ?_
  intro i a hi hj
  simp -implicitDefEqProofs [-List.map_take, -List.map_drop, go_sem, moduleAt_L]
  refine cnd_split (fun hc => ?_) (fun hc => ?_)
  · have hlt : i < p.es.length := by first | (simpa using hc) | (simp at hc; omega)
    rw [List.drop_eq_getElem_cons (l := p.es) (by omega)] at hj
    simp only [List.map_cons, idxFrom, LModule.core_name] at hj
    simp -implicitDefEqProofs [-List.map_take, -List.map_drop, go_sem, hlt]
    have hy := hlt
    have e1 := @moduleAt.eq_1
    have hdf := @e1
    have eL := @moduleAt_L.eq_1
    have hm0 := hm
    have hlt0 := hlt
    exact wk0n
  · have hge : p.es.length ≤ i := by first | (simpa using hc) | (simp at hc; omega)
    rw [List.drop_of_length_le (l := p.es) (by omega)] at hj
    simp only [List.map_nil, idxFrom, LModule.core_name] at hj
    try simp -implicitDefEqProofs [-List.map_take, -List.map_drop, go_sem]
    have hy := hy0
    have e1 := @moduleAt.eq_1
    have hdf := @e1
    exact wk0
def sameBinds_L (x y : Sl Bind) (i : Nat) (_ : Unit) : St := ⟨lk [(0, x.I Bind.C), (1, y.I Bind.C), (5, .int .i64 i)], [], []⟩
open Z in
def mf_spec_sameBinds : MF := ⟨26, [(.t 4)], q (r [k 4 (.mov (b false))]) (q (q (r [m 6 0, k 7 (.lenl (t 6)), m 8 1, k 9 (.lenl (t 8)), k 10 (.bin .neq (t 7) (t 9))]) (.cond (t 10) (q (r [k 4 (.mov (b false))]) .ret) .skip)) (q (q (r [k 5 (.mov (i 0))]) (.blk 0 (.loop (q (q (r [m 11 5, m 12 0, k 13 (.lenl (t 12)), k 14 (.bin .lss (t 11) (t 13))]) (.cond (t 14) .skip (.exit 0))) (q (.blk 1 (q (.dreg [(m 17 0, []), (m 18 5, []), (k 19 (.iadr 2 (t 17) (t 18)), [0, 1]), (k 20 (.load true 2 (t 19)), [2]), (m 21 1, []), (m 22 5, []), (k 23 (.iadr 2 (t 21) (t 22)), [4, 5]), (k 24 (.load true 2 (t 23)), [6]), (k 25 (.eqa true [.s, .s] (t 20) (t 24)), [3, 7])]) (.cond (t 25) (q (r [k 4 (.mov (b false))]) .ret) .skip))) (r [m 15 5, k 16 (.bin .add (t 15) (i 1)), m 5 16])))))) (q (r [k 4 (.mov (b true))]) .ret)))⟩
theorem fit_spec_sameBinds : Fit Tryz.prog 125 Tryz.f125 mf_spec_sameBinds := ⟨by kernel_rfl, Tryz.func125, by kernel_rfl, by kernel_rfl, by kernel_rfl, by kernel_rfl⟩
theorem sameBinds_ct (x y : Sl Bind) : Ct Tryz.prog 125 [x.I Bind.C, y.I Bind.C] (.bool (all2 (· == ·) x.es y.es)) := by
  refine ct_of_run fit_spec_sameBinds (by simp [mf_spec_sameBinds]) (by simp [go_sem]) fun hd => ?_
  simp -implicitDefEqProofs [-List.map_take, -List.map_drop, go_sem, mf_spec_sameBinds]
  have hm : x.es.length ≤ maxLen := sl_deep hd.1
  have hne := all2_ne (· == ·) x.es y.es
  repeat' first
    | ((first | refine gv_split (fun h => ?_) (fun h => ?_) | refine cnd_split (fun h => ?_) (fun h => ?_) | refine cgv_split (fun h => ?_) (fun h => ?_)) <;> (try (have hp := h; simp at hp)) <;> simp -implicitDefEqProofs [-List.map_take, -List.map_drop, go_sem, h])
    | (refine And.intro (by first | omega | (simp only [maxLen]; omega) | (simp_all; done) | (simp_all; omega)) ?_; try simp -implicitDefEqProofs [-List.map_take, -List.map_drop, go_sem])
    | (refine run_dreg' (by decide) ?_; simp -implicitDefEqProofs [-List.map_take, -List.map_drop, go_sem])
    | ((first | refine end_tup _ (by simp) (by simp [go_sem]; rfl) (by simp [go_sem]) ?_); first | (simp [go_sem, *]; done) | grind | (simp [go_sem]; grind) | (simp_all [go_sem]; done) | (simp_all [go_sem]; omega))
  have hlen : x.es.length = y.es.length := by omega
  refine run_iter (x.es.length) (sameBinds_L x y) (fun i a => all2 (· == ·) (x.es.drop i) (y.es.drop i) = all2 (· == ·) x.es y.es) () (gh_auto (by simp [go_sem, sameBinds_L])) (by first | (simp; done) | (simp []; done) | (simp []; omega) | grind) ?_
  intro i a hi hj
  simp -implicitDefEqProofs [-List.map_take, -List.map_drop, go_sem, sameBinds_L]
  refine cnd_split (fun hc => ?_) (fun hc => ?_)
  · have hlt : i < x.es.length := by first | (simpa using hc) | (simp at hc; omega)
    rw [List.drop_eq_getElem_cons (l := x.es) (by omega)] at hj
    have hlt_1 : i < y.es.length := by omega
    rw [List.drop_eq_getElem_cons (l := y.es) (by omega)] at hj
    simp only [List.map_cons, all2] at hj
    simp -implicitDefEqProofs [-List.map_take, -List.map_drop, go_sem, hlt, hlt_1]
    have hy := And.intro (hlt) (hlt_1)
    have hdf := hy0
    have eL := @sameBinds_L.eq_1
    have hm0 := hm
    have hlt0 := hlt
    exact wk0n
  · have hge : x.es.length ≤ i := by first | (simpa using hc) | (simp at hc; omega)
    rw [List.drop_of_length_le (l := x.es) (by omega)] at hj
    rw [List.drop_of_length_le (l := y.es) (by omega)] at hj
    simp only [List.map_nil, all2] at hj
    try simp -implicitDefEqProofs [-List.map_take, -List.map_drop, go_sem]
    have hy := hy0
    have hdf := hy0
    exact wk0
def sameModule_L (x y : LModule) (t : Nat) (i : Nat) (_ : Unit) : St := ⟨lk [(2, .ptr 0 1 0 0), (3, .ptr 1 1 0 0), (t, .int .i64 i)], [some ⟨[[.str x.name, .imm (x.uses.es.map Use.C) x.uses.sp x.uses.lim, .imm (x.decls.es.map LDecl.C) x.decls.sp x.decls.lim]], 3, 61, false, false⟩, some ⟨[[.str y.name, .imm (y.uses.es.map Use.C) y.uses.sp y.uses.lim, .imm (y.decls.es.map LDecl.C) y.decls.sp y.decls.lim]], 3, 61, false, false⟩], []⟩
def sameP_L (x y : Sl LModule) (i : Nat) (_ : Unit) : St := ⟨lk [(0, x.I LModule.C), (1, y.I LModule.C), (5, .int .i64 i)], [], []⟩
end Go.Mach
