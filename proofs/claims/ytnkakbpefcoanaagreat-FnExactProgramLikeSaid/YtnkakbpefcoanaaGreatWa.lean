import Derived.Test.YtnkakbpefcoanaaGreatMh
import Derived.Test.YtnkakbpefcoanaaGreatDa
import Derived.Test.YtnkakbpefcoanaaGreatProg
import Derived.KernelRfl
/- Small functions, walked. -/
set_option maxHeartbeats 4000000
namespace Go.Mach
open Go Go.Proofs
set_option linter.unusedVariables false
set_option linter.unusedSimpArgs false
attribute [local go_sem] run_seq run_skip run_reg run_blk run_exit run_ret run_cond cnd_true cnd_false kx_seq_normal kx_seq_exit kx_seq_ret kx_blk_normal kx_blk_same kx_blk_other kx_blk_ret kx_loop_exit kx_loop_ret kx_done ops_nil ops_plain ops_grd gv_tt gv_ff gv_tf gv_ft gv_tup stp_ok stp_ob stp_hp stp_bad stp_if get_t get_c putO_some putO_none put_same put_ne put_σ put_base withσ_τ withσ_σ withσ_base withσ_put withσ_withσ mk_τ mk_σ mk_base mk_withσ entry_τ entry_σ entry_base calm_nil calm_plain calm_grd cgv_tt cgv_ff cgv_tf cgv_ft cgv_tup cstp_ok cstp_ob cstp_if
attribute [local irreducible] Ct Co Cs
attribute [local go_sem] evalOp notV negV pickV binV intB seqV beqV catV lensV lenlV boxV_eq newV cellsOf cellV fadrV fldV fldC loadV loadC_ag loadC_one plainV isOwn iadrV storeV lk bdV bdL renO renL renV pureV pureL noOwnV noOwnL idxV slsV optI extV resL resV ret1 mmV cnviV cnvsV nilcV eqnV bslV bslGo appV elems okE appE getD_map okO_none okO_some strC intC Sl.I
attribute [local simp] Bind.eqa Use.eqa loadC_str loadC_int Bind.C_len Bind.C_pure Bind.C_noOwn Bind.C_cell Bind.C_bd Bind.C_bdL Bind.C_ren Bind.C_any Bind.C_any0 Bind.C_any1 Bind.C_anyt Bind.C_take Bind.C_load Bind.C_load0 Bind.C_load1 Bind.C_fld Bind.C_box Bind.C_fold Use.C_len Use.C_pure Use.C_noOwn Use.C_cell Use.C_bd Use.C_bdL Use.C_ren Use.C_any Use.C_any0 Use.C_any1 Use.C_anyt Use.C_take Use.C_load Use.C_load0 Use.C_load1 Use.C_fld Use.C_box Use.C_fold LExpr.C_len LExpr.C_pure LExpr.C_noOwn LExpr.C_cell LExpr.C_bd LExpr.C_bdL LExpr.C_ren LExpr.C_any LExpr.C_any0 LExpr.C_any1 LExpr.C_anyt LExpr.C_take LExpr.C_load LExpr.C_load0 LExpr.C_load1 LExpr.C_fld LExpr.C_box LExpr.C_fold LDecl.C_len LDecl.C_pure LDecl.C_noOwn LDecl.C_cell LDecl.C_bd LDecl.C_bdL LDecl.C_ren LDecl.C_any LDecl.C_any0 LDecl.C_any1 LDecl.C_anyt LDecl.C_take LDecl.C_load LDecl.C_load0 LDecl.C_load1 LDecl.C_fld LDecl.C_box LDecl.C_fold LModule.C_len LModule.C_pure LModule.C_noOwn LModule.C_cell LModule.C_bd LModule.C_bdL LModule.C_ren LModule.C_any LModule.C_any0 LModule.C_any1 LModule.C_anyt LModule.C_take LModule.C_load LModule.C_load0 LModule.C_load1 LModule.C_fld LModule.C_box LModule.C_fold

def mf_spec_inRange : MF := ⟨15, [(.t 6)], (.seq (.reg [⟨(some 6), (.mov (.c (.bool false))), none⟩]) (.seq (.reg [⟨(some 7), (.mov (.t 0)), none⟩, ⟨(some 8), (.mov (.t 1)), none⟩, ⟨(some 9), (.bin .geq (.t 7) (.t 8)), none⟩, ⟨(some 10), (.mov (.t 9)), none⟩, ⟨(some 11), (.mov (.t 0)), (some (10, true))⟩, ⟨(some 12), (.mov (.t 2)), (some (10, true))⟩, ⟨(some 13), (.bin .leq (.t 11) (.t 12)), (some (10, true))⟩, ⟨(some 14), (.pick (.t 10) (.t 13) (.c (.bool false))), none⟩, ⟨(some 6), (.mov (.t 14)), none⟩]) .ret))⟩
theorem fit_spec_inRange : Fit Tryz.prog 63 Tryz.f63 mf_spec_inRange := ⟨by kernel_rfl, Tryz.func63, by kernel_rfl, by kernel_rfl, by kernel_rfl, by kernel_rfl⟩
theorem inRange_ct (n low high : Int) : Ct Tryz.prog 63 [.int .i64 n, .int .i64 low, .int .i64 high] (.bool (inR n low high)) := by
  refine ct_of_run fit_spec_inRange (by simp [mf_spec_inRange]) (by simp [go_sem]) fun hd => ?_
  simp -implicitDefEqProofs [-List.map_take, -List.map_drop, go_sem, mf_spec_inRange]
  have hy := hy0
  have e1 := @inR.eq_1
  have hdf := @e1
  exact wk0
def mf_spec_isPlain : MF := ⟨13, [(.t 2)], (.seq (.reg [⟨(some 2), (.mov (.c (.bool false))), none⟩]) (.seq (.reg [⟨(some 3), (.mov (.t 0)), none⟩, ⟨(some 4), (.seq false (.t 3) (.c (.str [105, 110, 116]))), none⟩, ⟨(some 5), (.mov (.t 4)), none⟩, ⟨(some 6), (.mov (.t 0)), (some (5, false))⟩, ⟨(some 7), (.seq false (.t 6) (.c (.str [98, 111, 111, 108]))), (some (5, false))⟩, ⟨(some 8), (.pick (.t 5) (.c (.bool true)) (.t 7)), none⟩, ⟨(some 9), (.mov (.t 8)), none⟩, ⟨(some 10), (.mov (.t 0)), (some (9, false))⟩, ⟨(some 11), (.seq false (.t 10) (.c (.str [116, 101, 120, 116]))), (some (9, false))⟩, ⟨(some 12), (.pick (.t 9) (.c (.bool true)) (.t 11)), none⟩, ⟨(some 2), (.mov (.t 12)), none⟩]) .ret))⟩
theorem fit_spec_isPlain : Fit Tryz.prog 84 Tryz.f84 mf_spec_isPlain := ⟨by kernel_rfl, Tryz.func84, by kernel_rfl, by kernel_rfl, by kernel_rfl, by kernel_rfl⟩
theorem isPlain_ct (t : Str) : Ct Tryz.prog 84 [.str t] (.bool (isPlain t)) := by
  refine ct_of_run fit_spec_isPlain (by simp [mf_spec_isPlain]) (by simp [go_sem]) fun hd => ?_
  simp -implicitDefEqProofs [-List.map_take, -List.map_drop, go_sem, mf_spec_isPlain]
  have hy := hy0
  have e1 := @isPlain.eq_1
  have hdf := @e1
  exact wk0
def mf_impl_plainType : MF := ⟨13, [(.t 2)], (.seq (.reg [⟨(some 2), (.mov (.c (.bool false))), none⟩]) (.seq (.reg [⟨(some 3), (.mov (.t 0)), none⟩, ⟨(some 4), (.seq false (.t 3) (.c (.str [105, 110, 116]))), none⟩, ⟨(some 5), (.mov (.t 4)), none⟩, ⟨(some 6), (.mov (.t 0)), (some (5, false))⟩, ⟨(some 7), (.seq false (.t 6) (.c (.str [98, 111, 111, 108]))), (some (5, false))⟩, ⟨(some 8), (.pick (.t 5) (.c (.bool true)) (.t 7)), none⟩, ⟨(some 9), (.mov (.t 8)), none⟩, ⟨(some 10), (.mov (.t 0)), (some (9, false))⟩, ⟨(some 11), (.seq false (.t 10) (.c (.str [116, 101, 120, 116]))), (some (9, false))⟩, ⟨(some 12), (.pick (.t 9) (.c (.bool true)) (.t 11)), none⟩, ⟨(some 2), (.mov (.t 12)), none⟩]) .ret))⟩
theorem fit_impl_plainType : Fit Tryz.prog 149 Tryz.f149 mf_impl_plainType := ⟨by kernel_rfl, Tryz.func149, by kernel_rfl, by kernel_rfl, by kernel_rfl, by kernel_rfl⟩
theorem plainType_ct (t : Str) : Ct Tryz.prog 149 [.str t] (.bool (isPlain t)) := by
  refine ct_of_run fit_impl_plainType (by simp [mf_impl_plainType]) (by simp [go_sem]) fun hd => ?_
  simp -implicitDefEqProofs [-List.map_take, -List.map_drop, go_sem, mf_impl_plainType]
  have hy := hy0
  have e1 := @isPlain.eq_1
  have hdf := @e1
  exact wk0

def placeOf_L (l : Sl Str) (s : Str) (i : Nat) (_ : Unit) : St := ⟨lk [(0, l.I strC), (1, .str s), (5, .int .i64 i)], [], []⟩
def mf_spec_placeOf : MF := ⟨19, [(.t 4)], (.seq (.reg [⟨(some 4), (.mov (.c (.int .i64 0))), none⟩]) (.seq (.seq (.reg [⟨(some 5), (.mov (.c (.int .i64 0))), none⟩]) (.blk 0 (.loop (.seq (.seq (.reg [⟨(some 6), (.mov (.t 5)), none⟩, ⟨(some 7), (.mov (.t 0)), none⟩, ⟨(some 8), (.lenl (.t 7)), none⟩, ⟨(some 9), (.bin .lss (.t 6) (.t 8)), none⟩]) (.cond (.t 9) .skip (.exit 0))) (.seq (.blk 1 (.seq (.reg [⟨(some 12), (.mov (.t 0)), none⟩, ⟨(some 13), (.mov (.t 5)), none⟩, ⟨(some 14), (.iadr 1 (.t 12) (.t 13)), none⟩, ⟨(some 15), (.load false 1 (.t 14)), none⟩, ⟨(some 16), (.mov (.t 1)), none⟩, ⟨(some 17), (.seq false (.t 15) (.t 16)), none⟩]) (.cond (.t 17) (.seq (.reg [⟨(some 18), (.mov (.t 5)), none⟩, ⟨(some 4), (.mov (.t 18)), none⟩]) .ret) .skip))) (.reg [⟨(some 10), (.mov (.t 5)), none⟩, ⟨(some 11), (.bin .add (.t 10) (.c (.int .i64 1))), none⟩, ⟨(some 5), (.mov (.t 11)), none⟩])))))) (.seq (.reg [⟨(some 4), (.mov (.c (.int .i64 (-1)))), none⟩]) .ret)))⟩
theorem fit_spec_placeOf : Fit Tryz.prog 184 Tryz.f184 mf_spec_placeOf := ⟨by kernel_rfl, Tryz.func184, by kernel_rfl, by kernel_rfl, by kernel_rfl, by kernel_rfl⟩
theorem placeOf_ct (l : Sl Str) (s : Str) : Ct Tryz.prog 184 [l.I strC, .str s] (.int .i64 (placeFrom s l.es 0)) := by
  refine ct_of_run fit_spec_placeOf (by simp [mf_spec_placeOf]) (by simp [go_sem]) fun hd => ?_
  simp -implicitDefEqProofs [-List.map_take, -List.map_drop, go_sem, mf_spec_placeOf]
  have hm : l.es.length ≤ maxLen := by simp [deepL, deepV, Sl.I] at hd; omega
  refine run_iter (l.es.length) (placeOf_L l s) (fun i a => placeFrom s (l.es.drop i) i = placeFrom s l.es 0) () (gh_auto (by simp [go_sem, placeOf_L])) (by first | (simp; done) | (simp []; done) | (simp []; omega) | grind) ?_
  intro i a hi hj
  simp -implicitDefEqProofs [-List.map_take, -List.map_drop, go_sem, placeOf_L]
  refine cnd_split (fun hc => ?_) (fun hc => ?_)
  · have hlt : i < l.es.length := by first | (simpa using hc) | (simp at hc; omega)
    rw [List.drop_eq_getElem_cons (l := l.es) (by omega)] at hj
    simp only [List.map_cons, placeFrom] at hj
    simp -implicitDefEqProofs [-List.map_take, -List.map_drop, go_sem, hlt]
    have hy := hlt
    have hdf := hy0
    have eL := @placeOf_L.eq_1
    have hm0 := hm
    have hlt0 := hlt
    exact wk0n
  · have hge : l.es.length ≤ i := by first | (simpa using hc) | (simp at hc; omega)
    rw [List.drop_of_length_le (l := l.es) (by omega)] at hj
    simp only [List.map_nil, placeFrom] at hj
    try simp -implicitDefEqProofs [-List.map_take, -List.map_drop, go_sem]
    have hy := hy0
    have hdf := hy0
    exact wk0
def mf_spec_inTexts : MF := ⟨9, [(.t 4)], (.seq (.reg [⟨(some 4), (.mov (.c (.bool false))), none⟩]) (.seq (.reg [⟨(some 5), (.mov (.t 0)), none⟩, ⟨(some 6), (.mov (.t 1)), none⟩, ⟨(some 7), (.call (.c (.fn 184 [])) [(.t 5), (.t 6)]), none⟩, ⟨(some 8), (.bin .geq (.t 7) (.c (.int .i64 0))), none⟩, ⟨(some 4), (.mov (.t 8)), none⟩]) .ret))⟩
theorem fit_spec_inTexts : Fit Tryz.prog 146 Tryz.f146 mf_spec_inTexts := ⟨by kernel_rfl, Tryz.func146, by kernel_rfl, by kernel_rfl, by kernel_rfl, by kernel_rfl⟩
theorem inTexts_ct (l : Sl Str) (s : Str) : Ct Tryz.prog 146 [l.I strC, .str s] (.bool (l.es.contains s)) := by
  refine ct_of_run fit_spec_inTexts (by simp [mf_spec_inTexts]) (by simp [go_sem]) fun hd => ?_
  simp -implicitDefEqProofs [-List.map_take, -List.map_drop, go_sem, mf_spec_inTexts]
  have c1 := placeOf_ct l s
  have hy := hy0
  have e1 := @placeFrom_nonneg
  have hdf := @e1
  exact wk1
def mf_spec_words : MF := ⟨2, [(.t 0)], (.seq (.reg [⟨(some 0), (.mov (.c (.imm [] [] true))), none⟩]) (.seq (.reg [⟨(some 1), (.bsl 9 1 18 [(.str [])] [(0, (.c (.str [105, 110, 116]))), (1, (.c (.str [98, 111, 111, 108]))), (2, (.c (.str [116, 101, 120, 116]))), (3, (.c (.str [116, 114, 117, 101]))), (4, (.c (.str [102, 97, 108, 115, 101]))), (5, (.c (.str [105, 102]))), (6, (.c (.str [116, 104, 101, 110]))), (7, (.c (.str [101, 108, 115, 101]))), (8, (.c (.str [108, 101, 116]))), (9, (.c (.str [105, 110]))), (10, (.c (.str [102, 111, 114]))), (11, (.c (.str [102, 117, 110]))), (12, (.c (.str [116, 121, 112, 101]))), (13, (.c (.str [117, 115, 101]))), (14, (.c (.str [110, 111, 116]))), (15, (.c (.str [115, 105, 122, 101]))), (16, (.c (.str [97, 116]))), (17, (.c (.str [115, 97, 121])))]), none⟩, ⟨(some 0), (.mov (.t 1)), none⟩]) .ret))⟩
theorem fit_spec_words : Fit Tryz.prog 147 Tryz.f147 mf_spec_words := ⟨by kernel_rfl, Tryz.func147, by kernel_rfl, by kernel_rfl, by kernel_rfl, by kernel_rfl⟩
theorem words_ct : Ct Tryz.prog 147 [] ((⟨wordsL, [], false⟩ : Sl Str).I strC) := by
  refine ct_of_run fit_spec_words (by simp [mf_spec_words]) (by simp [go_sem]) fun hd => ?_
  simp -implicitDefEqProofs [-List.map_take, -List.map_drop, go_sem, mf_spec_words]
  refine end_snap 1 _ (by simp) (by simp [go_sem, snapV, snapE, snapSp, mapO]; rfl) ?_
  simp [go_sem, wordsL]
def mf_spec_operators : MF := ⟨2, [(.t 0)], (.seq (.reg [⟨(some 0), (.mov (.c (.imm [] [] true))), none⟩]) (.seq (.reg [⟨(some 1), (.bsl 9 1 7 [(.str [])] [(0, (.c (.str [43]))), (1, (.c (.str [45]))), (2, (.c (.str [42]))), (3, (.c (.str [60]))), (4, (.c (.str [61, 61]))), (5, (.c (.str [38]))), (6, (.c (.str [124])))]), none⟩, ⟨(some 0), (.mov (.t 1)), none⟩]) .ret))⟩
theorem fit_spec_operators : Fit Tryz.prog 213 Tryz.f213 mf_spec_operators := ⟨by kernel_rfl, Tryz.func213, by kernel_rfl, by kernel_rfl, by kernel_rfl, by kernel_rfl⟩
theorem operators_ct : Ct Tryz.prog 213 [] ((⟨opsL, [], false⟩ : Sl Str).I strC) := by
  refine ct_of_run fit_spec_operators (by simp [mf_spec_operators]) (by simp [go_sem]) fun hd => ?_
  simp -implicitDefEqProofs [-List.map_take, -List.map_drop, go_sem, mf_spec_operators]
  refine end_snap 1 _ (by simp) (by simp [go_sem, snapV, snapE, snapSp, mapO]; rfl) ?_
  simp [go_sem, opsL]
def isWord_L (s : Str) (i : Nat) (_ : Unit) : St := ⟨lk [(0, .str s), (3, .int .i64 i)], [], []⟩
def mf_spec_isWord : MF := ⟨29, [(.t 2)], (.seq (.reg [⟨(some 2), (.mov (.c (.bool false))), none⟩]) (.seq (.seq (.reg [⟨(some 3), (.mov (.c (.int .i64 0))), none⟩]) (.blk 0 (.loop (.seq (.seq (.reg [⟨(some 4), (.mov (.t 3)), none⟩, ⟨(some 5), (.mov (.t 0)), none⟩, ⟨(some 6), (.lens (.t 5)), none⟩, ⟨(some 7), (.bin .lss (.t 4) (.t 6)), none⟩]) (.cond (.t 7) .skip (.exit 0))) (.seq (.blk 1 (.seq (.reg [⟨(some 10), (.mov (.t 0)), none⟩, ⟨(some 11), (.mov (.t 3)), none⟩, ⟨(some 12), (.idx (.t 10) (.t 11)), none⟩, ⟨(some 13), (.bin .lss (.t 12) (.c (.int .u8 32))), none⟩, ⟨(some 14), (.mov (.t 13)), none⟩, ⟨(some 15), (.mov (.t 0)), (some (14, false))⟩, ⟨(some 16), (.mov (.t 3)), (some (14, false))⟩, ⟨(some 17), (.idx (.t 15) (.t 16)), (some (14, false))⟩, ⟨(some 18), (.bin .gtr (.t 17) (.c (.int .u8 126))), (some (14, false))⟩, ⟨(some 19), (.pick (.t 14) (.c (.bool true)) (.t 18)), none⟩, ⟨(some 20), (.mov (.t 19)), none⟩, ⟨(some 21), (.mov (.t 0)), (some (20, false))⟩, ⟨(some 22), (.mov (.t 3)), (some (20, false))⟩, ⟨(some 23), (.idx (.t 21) (.t 22)), (some (20, false))⟩, ⟨(some 24), (.bin .eql (.t 23) (.c (.int .u8 39))), (some (20, false))⟩, ⟨(some 25), (.pick (.t 20) (.c (.bool true)) (.t 24)), none⟩]) (.cond (.t 25) (.seq (.reg [⟨(some 2), (.mov (.c (.bool false))), none⟩]) .ret) .skip))) (.reg [⟨(some 8), (.mov (.t 3)), none⟩, ⟨(some 9), (.bin .add (.t 8) (.c (.int .i64 1))), none⟩, ⟨(some 3), (.mov (.t 9)), none⟩])))))) (.seq (.reg [⟨(some 26), (.mov (.t 0)), none⟩, ⟨(some 27), (.lens (.t 26)), none⟩, ⟨(some 28), (.bin .leq (.t 27) (.c (.int .i64 20))), none⟩, ⟨(some 2), (.mov (.t 28)), none⟩]) .ret)))⟩
theorem fit_spec_isWord : Fit Tryz.prog 144 Tryz.f144 mf_spec_isWord := ⟨by kernel_rfl, Tryz.func144, by kernel_rfl, by kernel_rfl, by kernel_rfl, by kernel_rfl⟩
theorem isWord_ct (s : Str) : Ct Tryz.prog 144 [.str s] (.bool (isWord s)) := by
  refine ct_of_run fit_spec_isWord (by simp [mf_spec_isWord]) (by simp [go_sem]) fun hd => ?_
  simp -implicitDefEqProofs [-List.map_take, -List.map_drop, go_sem, mf_spec_isWord]
  have hm : s.length ≤ maxLen := by simp [deepL, deepV] at hd; omega
  refine run_iter (s.length) (isWord_L s) (fun i a => wordChars (s.drop i) = wordChars s) () (gh_auto (by simp [go_sem, isWord_L, getD_str])) (by first | (simp; done) | (simp [isWord]; done) | (simp [isWord]; omega) | grind) ?_
  intro i a hi hj
  simp -implicitDefEqProofs [-List.map_take, -List.map_drop, go_sem, isWord_L, getD_str]
  refine cnd_split (fun hc => ?_) (fun hc => ?_)
  · have hlt : i < s.length := by first | (simpa using hc) | (simp at hc; omega)
    rw [List.drop_eq_getElem_cons (l := s) (by omega)] at hj
    simp only [List.map_cons, wordChars, wordCh] at hj
    simp -implicitDefEqProofs [-List.map_take, -List.map_drop, go_sem, hlt, getD_str]
    repeat' first
      | ((first | refine gv_split (fun h => ?_) (fun h => ?_) | refine cnd_split (fun h => ?_) (fun h => ?_) | refine cgv_split (fun h => ?_) (fun h => ?_)) <;> (try (have hp := h; simp at hp)) <;> simp -implicitDefEqProofs [-List.map_take, -List.map_drop, go_sem, h, hlt, getD_str])
      | (refine And.intro (by first | omega | (simp only [maxLen]; omega) | (simp_all; done) | (simp_all; omega)) ?_; try simp -implicitDefEqProofs [-List.map_take, -List.map_drop, go_sem, hlt, getD_str])
      | (refine run_dreg' (by decide) ?_; simp -implicitDefEqProofs [-List.map_take, -List.map_drop, go_sem, hlt, getD_str])
      | ((first | refine kx_next () hlt (gh_auto (by simp [go_sem, isWord_L, wrap_succ hlt hm, hlt, getD_str])) ?_ | refine end_tup _ (by simp) (by simp [go_sem]; rfl) (by simp [go_sem]) ?_); first | (simp [go_sem, *, isWord]; done) | grind [isWord] | (simp [go_sem, isWord]; grind [isWord]) | (simp_all [go_sem, isWord]; done) | (simp_all [go_sem, isWord]; omega))
  · have hge : s.length ≤ i := by first | (simpa using hc) | (simp at hc; omega)
    rw [List.drop_of_length_le (l := s) (by omega)] at hj
    simp only [List.map_nil, wordChars, wordCh] at hj
    try simp -implicitDefEqProofs [-List.map_take, -List.map_drop, go_sem, getD_str]
    repeat' first
      | ((first | refine gv_split (fun h => ?_) (fun h => ?_) | refine cnd_split (fun h => ?_) (fun h => ?_) | refine cgv_split (fun h => ?_) (fun h => ?_)) <;> (try (have hp := h; simp at hp)) <;> simp -implicitDefEqProofs [-List.map_take, -List.map_drop, go_sem, h, getD_str])
      | (refine And.intro (by first | omega | (simp only [maxLen]; omega) | (simp_all; done) | (simp_all; omega)) ?_; try simp -implicitDefEqProofs [-List.map_take, -List.map_drop, go_sem, getD_str])
      | (refine run_dreg' (by decide) ?_; simp -implicitDefEqProofs [-List.map_take, -List.map_drop, go_sem, getD_str])
      | ((first | refine end_tup _ (by simp) (by simp [go_sem]; rfl) (by simp [go_sem]) ?_); first | (simp [go_sem, *, isWord]; done) | grind [isWord] | (simp [go_sem, isWord]; grind [isWord]) | (simp_all [go_sem, isWord]; done) | (simp_all [go_sem, isWord]; omega))

def isName_L (s : Str) (i : Nat) (_ : Unit) : St := ⟨lk [(0, .str s), (3, .int .i64 i)], [], []⟩
def mf_spec_isName : MF := ⟨48, [(.t 2)], (.seq (.reg [⟨(some 2), (.mov (.c (.bool false))), none⟩]) (.seq (.seq (.reg [⟨(some 3), (.mov (.c (.int .i64 0))), none⟩]) (.blk 0 (.loop (.seq (.seq (.reg [⟨(some 5), (.mov (.t 3)), none⟩, ⟨(some 6), (.mov (.t 0)), none⟩, ⟨(some 7), (.lens (.t 6)), none⟩, ⟨(some 8), (.bin .lss (.t 5) (.t 7)), none⟩]) (.cond (.t 8) .skip (.exit 0))) (.seq (.blk 1 (.seq (.reg [⟨(some 11), (.mov (.t 0)), none⟩, ⟨(some 12), (.mov (.t 3)), none⟩, ⟨(some 13), (.idx (.t 11) (.t 12)), none⟩, ⟨(some 14), (.bin .geq (.t 13) (.c (.int .u8 97))), none⟩, ⟨(some 15), (.mov (.t 14)), none⟩, ⟨(some 16), (.mov (.t 0)), (some (15, true))⟩, ⟨(some 17), (.mov (.t 3)), (some (15, true))⟩, ⟨(some 18), (.idx (.t 16) (.t 17)), (some (15, true))⟩, ⟨(some 19), (.bin .leq (.t 18) (.c (.int .u8 122))), (some (15, true))⟩, ⟨(some 20), (.pick (.t 15) (.t 19) (.c (.bool false))), none⟩, ⟨(some 4), (.mov (.t 20)), none⟩]) (.seq (.reg [⟨(some 21), (.mov (.t 4)), none⟩, ⟨(some 22), (.not (.t 21)), none⟩, ⟨(some 23), (.mov (.t 22)), none⟩, ⟨(some 24), (.mov (.t 3)), (some (23, true))⟩, ⟨(some 25), (.bin .eql (.t 24) (.c (.int .i64 0))), (some (23, true))⟩, ⟨(some 26), (.mov (.t 25)), (some (23, true))⟩, ⟨(some 27), (.mov (.t 0)), (some (26, false))⟩, ⟨(some 28), (.mov (.t 3)), (some (26, false))⟩, ⟨(some 29), (.idx (.t 27) (.t 28)), (some (26, false))⟩, ⟨(some 30), (.bin .lss (.t 29) (.c (.int .u8 48))), (some (26, false))⟩, ⟨(some 31), (.pick (.t 26) (.c (.bool true)) (.t 30)), (some (23, true))⟩, ⟨(some 32), (.mov (.t 31)), (some (23, true))⟩, ⟨(some 33), (.mov (.t 0)), (some (32, false))⟩, ⟨(some 34), (.mov (.t 3)), (some (32, false))⟩, ⟨(some 35), (.idx (.t 33) (.t 34)), (some (32, false))⟩, ⟨(some 36), (.bin .gtr (.t 35) (.c (.int .u8 57))), (some (32, false))⟩, ⟨(some 37), (.pick (.t 32) (.c (.bool true)) (.t 36)), (some (23, true))⟩, ⟨(some 38), (.pick (.t 23) (.t 37) (.c (.bool false))), none⟩]) (.cond (.t 38) (.seq (.reg [⟨(some 2), (.mov (.c (.bool false))), none⟩]) .ret) .skip)))) (.reg [⟨(some 9), (.mov (.t 3)), none⟩, ⟨(some 10), (.bin .add (.t 9) (.c (.int .i64 1))), none⟩, ⟨(some 3), (.mov (.t 10)), none⟩])))))) (.seq (.reg [⟨(some 39), (.mov (.t 0)), none⟩, ⟨(some 40), (.lens (.t 39)), none⟩, ⟨(some 41), (.call (.c (.fn 63 [])) [(.t 40), (.c (.int .i64 1)), (.c (.int .i64 8))]), none⟩, ⟨(some 42), (.mov (.t 41)), none⟩, ⟨(some 43), (.call (.c (.fn 147 [])) []), (some (42, true))⟩, ⟨(some 44), (.mov (.t 0)), (some (42, true))⟩, ⟨(some 45), (.call (.c (.fn 146 [])) [(.t 43), (.t 44)]), (some (42, true))⟩, ⟨(some 46), (.not (.t 45)), (some (42, true))⟩, ⟨(some 47), (.pick (.t 42) (.t 46) (.c (.bool false))), none⟩, ⟨(some 2), (.mov (.t 47)), none⟩]) .ret)))⟩
theorem fit_spec_isName : Fit Tryz.prog 85 Tryz.f85 mf_spec_isName := ⟨by kernel_rfl, Tryz.func85, by kernel_rfl, by kernel_rfl, by kernel_rfl, by kernel_rfl⟩
theorem isName_ct (s : Str) : Ct Tryz.prog 85 [.str s] (.bool (isName s)) := by
  refine ct_of_run fit_spec_isName (by simp [mf_spec_isName]) (by simp [go_sem]) fun hd => ?_
  simp -implicitDefEqProofs [-List.map_take, -List.map_drop, go_sem, mf_spec_isName]
  have hm : s.length ≤ maxLen := by simp [deepL, deepV] at hd; omega
  refine run_iter (s.length) (isName_L s) (fun i a => nameChars i (s.drop i) = nameChars 0 s) () (gh_auto (by simp [go_sem, isName_L, getD_str])) (by first | (simp; done) | (simp [isName, inR]; done) | (simp [isName, inR]; omega) | grind) ?_
  intro i a hi hj
  simp -implicitDefEqProofs [-List.map_take, -List.map_drop, go_sem, isName_L, getD_str]
  refine cnd_split (fun hc => ?_) (fun hc => ?_)
  · have hlt : i < s.length := by first | (simpa using hc) | (simp at hc; omega)
    rw [List.drop_eq_getElem_cons (l := s) (by omega)] at hj
    simp only [List.map_cons, nameChars, small, digit] at hj
    simp -implicitDefEqProofs [-List.map_take, -List.map_drop, go_sem, hlt, getD_str]
    repeat' first
      | ((first | refine gv_split (fun h => ?_) (fun h => ?_) | refine cnd_split (fun h => ?_) (fun h => ?_) | refine cgv_split (fun h => ?_) (fun h => ?_)) <;> (try (have hp := h; simp at hp)) <;> simp -implicitDefEqProofs [-List.map_take, -List.map_drop, go_sem, h, hlt, getD_str])
      | (refine And.intro (by first | omega | (simp only [maxLen]; omega) | (simp_all; done) | (simp_all; omega)) ?_; try simp -implicitDefEqProofs [-List.map_take, -List.map_drop, go_sem, hlt, getD_str])
      | ((first | refine stp_ct (inRange_ct _ _ _) (by simp [go_sem, hlt, getD_str]) ?_ ?_ | refine cstp_ct (inRange_ct _ _ _) (by simp [go_sem, hlt, getD_str]) ?_ ?_ | refine stp_ct (words_ct) (by simp [go_sem, hlt, getD_str]) ?_ ?_ | refine cstp_ct (words_ct) (by simp [go_sem, hlt, getD_str]) ?_ ?_ | refine stp_ct (inTexts_ct ⟨wordsL, [], false⟩ _) (by simp [go_sem, hlt, getD_str]) ?_ ?_ | refine cstp_ct (inTexts_ct ⟨wordsL, [], false⟩ _) (by simp [go_sem, hlt, getD_str]) ?_ ?_); (simp [go_sem]); simp -implicitDefEqProofs [-List.map_take, -List.map_drop, go_sem, hlt, getD_str])
      | (refine run_dreg' (by decide) ?_; simp -implicitDefEqProofs [-List.map_take, -List.map_drop, go_sem, hlt, getD_str])
      | ((first | refine kx_next () hlt (gh_auto (by simp [go_sem, isName_L, wrap_succ hlt hm, hlt, getD_str])) ?_ | refine end_tup _ (by simp) (by simp [go_sem]; rfl) (by simp [go_sem]) ?_); first | (simp [go_sem, *, isName, inR]; done) | grind [isName, inR] | (simp [go_sem, isName, inR]; grind [isName, inR]) | (simp_all [go_sem, isName, inR]; done) | (simp_all [go_sem, isName, inR]; omega))
  · have hge : s.length ≤ i := by first | (simpa using hc) | (simp at hc; omega)
    rw [List.drop_of_length_le (l := s) (by omega)] at hj
    simp only [List.map_nil, nameChars, small, digit] at hj
    try simp -implicitDefEqProofs [-List.map_take, -List.map_drop, go_sem, getD_str]
    repeat' first
      | ((first | refine gv_split (fun h => ?_) (fun h => ?_) | refine cnd_split (fun h => ?_) (fun h => ?_) | refine cgv_split (fun h => ?_) (fun h => ?_)) <;> (try (have hp := h; simp at hp)) <;> simp -implicitDefEqProofs [-List.map_take, -List.map_drop, go_sem, h, getD_str])
      | (refine And.intro (by first | omega | (simp only [maxLen]; omega) | (simp_all; done) | (simp_all; omega)) ?_; try simp -implicitDefEqProofs [-List.map_take, -List.map_drop, go_sem, getD_str])
      | ((first | refine stp_ct (inRange_ct _ _ _) (by simp [go_sem, getD_str]) ?_ ?_ | refine cstp_ct (inRange_ct _ _ _) (by simp [go_sem, getD_str]) ?_ ?_ | refine stp_ct (words_ct) (by simp [go_sem, getD_str]) ?_ ?_ | refine cstp_ct (words_ct) (by simp [go_sem, getD_str]) ?_ ?_ | refine stp_ct (inTexts_ct ⟨wordsL, [], false⟩ _) (by simp [go_sem, getD_str]) ?_ ?_ | refine cstp_ct (inTexts_ct ⟨wordsL, [], false⟩ _) (by simp [go_sem, getD_str]) ?_ ?_); (simp [go_sem]); simp -implicitDefEqProofs [-List.map_take, -List.map_drop, go_sem, getD_str])
      | (refine run_dreg' (by decide) ?_; simp -implicitDefEqProofs [-List.map_take, -List.map_drop, go_sem, getD_str])
      | ((first | refine end_tup _ (by simp) (by simp [go_sem]; rfl) (by simp [go_sem]) ?_); first | (simp [go_sem, *, isName, inR]; done) | grind [isName, inR] | (simp [go_sem, isName, inR]; grind [isName, inR]) | (simp_all [go_sem, isName, inR]; done) | (simp_all [go_sem, isName, inR]; omega))
def coreOf_L (a : Str × Nat) : St := ⟨lk [(0, .str a.1), (4, .int .i64 a.2)], [], []⟩
theorem coreW_more {t : Str} (h : brk t = true) : coreOf t = ((coreOf (mid t)).1, (coreOf (mid t)).2 + 1) := by rw [coreOf]; simp [h]
theorem coreW_done {t : Str} (h : brk t = false) : coreOf t = (t, 0) := by rw [coreOf]; simp [h]
def mf_spec_coreOf : MF := ⟨30, [(.t 2), (.t 3)], (.seq (.reg [⟨(some 2), (.mov (.c (.str []))), none⟩, ⟨(some 3), (.mov (.c (.int .i64 0))), none⟩]) (.seq (.reg [⟨(some 4), (.mov (.c (.int .i64 0))), none⟩]) (.seq (.blk 0 (.loop (.seq (.seq (.reg [⟨(some 5), (.mov (.t 0)), none⟩, ⟨(some 6), (.lens (.t 5)), none⟩, ⟨(some 7), (.bin .geq (.t 6) (.c (.int .i64 2))), none⟩, ⟨(some 8), (.mov (.t 7)), none⟩, ⟨(some 9), (.mov (.t 0)), (some (8, true))⟩, ⟨(some 10), (.idx (.t 9) (.c (.int .i64 0))), (some (8, true))⟩, ⟨(some 11), (.bin .eql (.t 10) (.c (.int .u8 91))), (some (8, true))⟩, ⟨(some 12), (.pick (.t 8) (.t 11) (.c (.bool false))), none⟩, ⟨(some 13), (.mov (.t 12)), none⟩, ⟨(some 14), (.mov (.t 0)), (some (13, true))⟩, ⟨(some 15), (.mov (.t 0)), (some (13, true))⟩, ⟨(some 16), (.lens (.t 15)), (some (13, true))⟩, ⟨(some 17), (.bin .sub (.t 16) (.c (.int .i64 1))), (some (13, true))⟩, ⟨(some 18), (.idx (.t 14) (.t 17)), (some (13, true))⟩, ⟨(some 19), (.bin .eql (.t 18) (.c (.int .u8 93))), (some (13, true))⟩, ⟨(some 20), (.pick (.t 13) (.t 19) (.c (.bool false))), none⟩]) (.cond (.t 20) .skip (.exit 0))) (.blk 1 (.seq (.reg [⟨(some 21), (.mov (.t 0)), none⟩, ⟨(some 22), (.mov (.t 0)), none⟩, ⟨(some 23), (.lens (.t 22)), none⟩, ⟨(some 24), (.bin .sub (.t 23) (.c (.int .i64 1))), none⟩, ⟨(some 25), (.sls (.t 21) (some (.c (.int .i64 1))) (some (.t 24))), none⟩, ⟨(some 0), (.mov (.t 25)), none⟩]) (.reg [⟨(some 26), (.mov (.t 4)), none⟩, ⟨(some 27), (.bin .add (.t 26) (.c (.int .i64 1))), none⟩, ⟨(some 4), (.mov (.t 27)), none⟩])))))) (.seq (.reg [⟨(some 28), (.mov (.t 0)), none⟩, ⟨(some 29), (.mov (.t 4)), none⟩, ⟨(some 2), (.mov (.t 28)), none⟩, ⟨(some 3), (.mov (.t 29)), none⟩]) .ret))))⟩
theorem fit_spec_coreOf : Fit Tryz.prog 83 Tryz.f83 mf_spec_coreOf := ⟨by kernel_rfl, Tryz.func83, by kernel_rfl, by kernel_rfl, by kernel_rfl, by kernel_rfl⟩
theorem coreOf_ct (t : Str) : Ct Tryz.prog 83 [.str t] (.tup [.str (coreOf t).1, .int .i64 (coreOf t).2]) := by
  refine ct_of_run fit_spec_coreOf (by simp [mf_spec_coreOf]) (by simp [go_sem]) fun hd => ?_
  simp -implicitDefEqProofs [-List.map_take, -List.map_drop, go_sem, mf_spec_coreOf]
  have hm : t.length ≤ maxLen := by simp [deepL, deepV] at hd; omega
  refine run_while coreOf_L (fun a => a.1.length) (fun a => (coreOf a.1).1 = (coreOf t).1 ∧ (coreOf a.1).2 + a.2 = (coreOf t).2 ∧ a.1.length + a.2 ≤ t.length) (t, 0) (gh_auto (by simp [go_sem, coreOf_L])) (by simp) ?_
  rintro ⟨x, n⟩ ⟨hj1, hj2, hj3⟩
  simp only at hj1 hj2 hj3
  have hw : IntKind.i64.wrap ((x.length : Int) - 1) = (x.length : Int) - 1 := wrap_small (by simp [maxLen] at hm; omega) (by simp [maxLen] at hm; omega)
  have hw2 : x.length ≠ 0 → IntKind.i64.wrap ((n : Int) + 1) = ((n + 1 : Nat) : Int) := fun _ => by simp only [maxLen] at hm; rw [wrap_small (by omega) (by omega)]; simp
  simp -implicitDefEqProofs [-List.map_take, -List.map_drop, go_sem, coreOf_L]
  repeat' first
    | ((first | refine gv_split (fun h => ?_) (fun h => ?_) | refine cnd_split (fun h => ?_) (fun h => ?_) | refine cgv_split (fun h => ?_) (fun h => ?_)) <;> (try (have hp := h; simp at hp)) <;> simp -implicitDefEqProofs [-List.map_take, -List.map_drop, go_sem, h, hw])
    | (refine And.intro (by first | omega | (simp only [maxLen]; omega) | (simp_all; done) | (simp_all; omega)) ?_; try simp -implicitDefEqProofs [-List.map_take, -List.map_drop, go_sem, hw])
    | (refine run_dreg' (by decide) ?_; simp -implicitDefEqProofs [-List.map_take, -List.map_drop, go_sem, hw])
    | ((first | refine end_tup _ (by simp) (by simp [go_sem]; rfl) (by simp [go_sem]) ?_); first | (simp [go_sem, *, coreW_done, brk]; done) | grind [coreW_done, brk] | (simp [go_sem, coreW_done, brk]; grind [coreW_done, brk]) | (simp_all [go_sem, coreW_done, brk]; done) | (simp_all [go_sem, coreW_done, brk]; omega))
  have hb : brk x = true := by simp [brk, *]
  have hml := mid_len hb
  rw [coreW_more hb] at hj1 hj2
  refine kx_more (mid x, n + 1) (by simp; omega) (gh_auto (by simp [go_sem, coreOf_L, hw2 (by omega), mid])) ?_
  exact ⟨hj1, by simp only; omega, by simp only; omega⟩
def mf_spec_TypeOk : MF := ⟨20, [(.t 2)], (.seq (.reg [⟨(some 2), (.mov (.c (.bool false))), none⟩]) (.seq (.reg [⟨(some 6), (.mov (.t 0)), none⟩, ⟨(some 7), (.call (.c (.fn 83 [])) [(.t 6)]), none⟩, ⟨(some 5), (.mov (.t 7)), none⟩, ⟨(some 8), (.ext (.t 5) 0), none⟩, ⟨(some 9), (.ext (.t 5) 1), none⟩, ⟨(some 3), (.mov (.t 8)), none⟩, ⟨(some 4), (.mov (.t 9)), none⟩]) (.seq (.reg [⟨(some 10), (.mov (.t 4)), none⟩, ⟨(some 11), (.bin .leq (.t 10) (.c (.int .i64 2))), none⟩, ⟨(some 12), (.mov (.t 11)), none⟩, ⟨(some 13), (.mov (.t 3)), (some (12, true))⟩, ⟨(some 14), (.call (.c (.fn 84 [])) [(.t 13)]), (some (12, true))⟩, ⟨(some 15), (.mov (.t 14)), (some (12, true))⟩, ⟨(some 16), (.mov (.t 3)), (some (15, false))⟩, ⟨(some 17), (.call (.c (.fn 85 [])) [(.t 16)]), (some (15, false))⟩, ⟨(some 18), (.pick (.t 15) (.c (.bool true)) (.t 17)), (some (12, true))⟩, ⟨(some 19), (.pick (.t 12) (.t 18) (.c (.bool false))), none⟩, ⟨(some 2), (.mov (.t 19)), none⟩]) .ret)))⟩
theorem fit_spec_TypeOk : Fit Tryz.prog 39 Tryz.f39 mf_spec_TypeOk := ⟨by kernel_rfl, Tryz.func39, by kernel_rfl, by kernel_rfl, by kernel_rfl, by kernel_rfl⟩
theorem typeOk_ct (t : Str) : Ct Tryz.prog 39 [.str t] (.bool (typeOk t)) := by
  refine ct_of_run fit_spec_TypeOk (by simp [mf_spec_TypeOk]) (by simp [go_sem]) fun hd => ?_
  simp -implicitDefEqProofs [-List.map_take, -List.map_drop, go_sem, mf_spec_TypeOk]
  have d1 := fun a1 => coreOf_ct a1
  have d2 := fun a1 => isPlain_ct a1
  have d3 := fun a1 => isName_ct a1
  have hy := hy0
  have e1 := @typeOk.eq_1
  have hdf := @e1
  exact wk1
def mf_spec_kidsOf : MF := ⟨22, [(.t 2), (.t 3)], (.seq (.reg [⟨(some 2), (.mov (.c (.int .i64 0))), none⟩, ⟨(some 3), (.mov (.c (.int .i64 0))), none⟩]) (.seq (.seq (.reg [⟨(some 4), (.mov (.t 0)), none⟩]) (.blk 0 (.seq (.seq (.reg [⟨(some 6), (.bin .eql (.t 4) (.c (.int .i64 4))), none⟩, ⟨(some 5), (.mov (.t 6)), none⟩]) (.cond (.t 5) .skip (.reg [⟨(some 7), (.bin .eql (.t 4) (.c (.int .i64 7))), none⟩, ⟨(some 5), (.mov (.t 7)), none⟩]))) (.cond (.t 5) (.seq (.reg [⟨(some 2), (.mov (.c (.int .i64 0))), none⟩, ⟨(some 3), (.mov (.c (.int .i64 4))), none⟩]) .ret) (.seq (.reg [⟨(some 9), (.bin .eql (.t 4) (.c (.int .i64 5))), none⟩, ⟨(some 8), (.mov (.t 9)), none⟩]) (.cond (.t 8) (.seq (.reg [⟨(some 2), (.mov (.c (.int .i64 1))), none⟩, ⟨(some 3), (.mov (.c (.int .i64 4))), none⟩]) .ret) (.seq (.seq (.reg [⟨(some 11), (.bin .eql (.t 4) (.c (.int .i64 6))), none⟩, ⟨(some 10), (.mov (.t 11)), none⟩]) (.cond (.t 10) .skip (.seq (.reg [⟨(some 12), (.bin .eql (.t 4) (.c (.int .i64 8))), none⟩, ⟨(some 10), (.mov (.t 12)), none⟩]) (.cond (.t 10) .skip (.seq (.reg [⟨(some 13), (.bin .eql (.t 4) (.c (.int .i64 13))), none⟩, ⟨(some 10), (.mov (.t 13)), none⟩]) (.cond (.t 10) .skip (.reg [⟨(some 14), (.bin .eql (.t 4) (.c (.int .i64 15))), none⟩, ⟨(some 10), (.mov (.t 14)), none⟩]))))))) (.cond (.t 10) (.seq (.reg [⟨(some 2), (.mov (.c (.int .i64 1))), none⟩, ⟨(some 3), (.mov (.c (.int .i64 1))), none⟩]) .ret) (.seq (.seq (.reg [⟨(some 16), (.bin .eql (.t 4) (.c (.int .i64 9))), none⟩, ⟨(some 15), (.mov (.t 16)), none⟩]) (.cond (.t 15) .skip (.seq (.reg [⟨(some 17), (.bin .eql (.t 4) (.c (.int .i64 11))), none⟩, ⟨(some 15), (.mov (.t 17)), none⟩]) (.cond (.t 15) .skip (.seq (.reg [⟨(some 18), (.bin .eql (.t 4) (.c (.int .i64 12))), none⟩, ⟨(some 15), (.mov (.t 18)), none⟩]) (.cond (.t 15) .skip (.reg [⟨(some 19), (.bin .eql (.t 4) (.c (.int .i64 14))), none⟩, ⟨(some 15), (.mov (.t 19)), none⟩]))))))) (.cond (.t 15) (.seq (.reg [⟨(some 2), (.mov (.c (.int .i64 2))), none⟩, ⟨(some 3), (.mov (.c (.int .i64 2))), none⟩]) .ret) (.seq (.reg [⟨(some 21), (.bin .eql (.t 4) (.c (.int .i64 10))), none⟩, ⟨(some 20), (.mov (.t 21)), none⟩]) (.cond (.t 20) (.seq (.reg [⟨(some 2), (.mov (.c (.int .i64 3))), none⟩, ⟨(some 3), (.mov (.c (.int .i64 3))), none⟩]) .ret) .skip)))))))))))) (.seq (.reg [⟨(some 2), (.mov (.c (.int .i64 0))), none⟩, ⟨(some 3), (.mov (.c (.int .i64 0))), none⟩]) .ret)))⟩
theorem fit_spec_kidsOf : Fit Tryz.prog 196 Tryz.f196 mf_spec_kidsOf := ⟨by kernel_rfl, Tryz.func196, by kernel_rfl, by kernel_rfl, by kernel_rfl, by kernel_rfl⟩
theorem kidsOf_ct (k : Int) : Ct Tryz.prog 196 [.int .i64 k] (.tup [.int .i64 (kidsOf k).1, .int .i64 (kidsOf k).2]) := by
  refine ct_of_run fit_spec_kidsOf (by simp [mf_spec_kidsOf]) (by simp [go_sem]) fun hd => ?_
  simp -implicitDefEqProofs [-List.map_take, -List.map_drop, go_sem, mf_spec_kidsOf]
  have hy := hy0
  have e1 := @kidsOf.eq_1
  have hdf := @e1
  exact wk0
def mf_spec_validText : MF := ⟨36, [(.t 2)], (.seq (.reg [⟨(some 1), (.box 48 (.t 0)), none⟩, ⟨(some 2), (.mov (.c (.bool false))), none⟩]) (.seq (.seq (.reg [⟨(some 3), (.fadr 0 (.t 1)), none⟩, ⟨(some 4), (.load false 1 (.t 3)), none⟩]) (.blk 0 (.seq (.reg [⟨(some 6), (.bin .eql (.t 4) (.c (.int .i64 2))), none⟩, ⟨(some 5), (.mov (.t 6)), none⟩]) (.cond (.t 5) (.seq (.reg [⟨(some 7), (.fadr 2 (.t 1)), none⟩, ⟨(some 8), (.load false 1 (.t 7)), none⟩, ⟨(some 9), (.call (.c (.fn 144 [])) [(.t 8)]), none⟩, ⟨(some 2), (.mov (.t 9)), none⟩]) .ret) (.seq (.seq (.reg [⟨(some 11), (.bin .eql (.t 4) (.c (.int .i64 3))), none⟩, ⟨(some 10), (.mov (.t 11)), none⟩]) (.cond (.t 10) .skip (.seq (.reg [⟨(some 12), (.bin .eql (.t 4) (.c (.int .i64 4))), none⟩, ⟨(some 10), (.mov (.t 12)), none⟩]) (.cond (.t 10) .skip (.seq (.reg [⟨(some 13), (.bin .eql (.t 4) (.c (.int .i64 5))), none⟩, ⟨(some 10), (.mov (.t 13)), none⟩]) (.cond (.t 10) .skip (.seq (.reg [⟨(some 14), (.bin .eql (.t 4) (.c (.int .i64 6))), none⟩, ⟨(some 10), (.mov (.t 14)), none⟩]) (.cond (.t 10) .skip (.seq (.reg [⟨(some 15), (.bin .eql (.t 4) (.c (.int .i64 11))), none⟩, ⟨(some 10), (.mov (.t 15)), none⟩]) (.cond (.t 10) .skip (.reg [⟨(some 16), (.bin .eql (.t 4) (.c (.int .i64 12))), none⟩, ⟨(some 10), (.mov (.t 16)), none⟩]))))))))))) (.cond (.t 10) (.seq (.reg [⟨(some 17), (.fadr 2 (.t 1)), none⟩, ⟨(some 18), (.load false 1 (.t 17)), none⟩, ⟨(some 19), (.call (.c (.fn 85 [])) [(.t 18)]), none⟩, ⟨(some 2), (.mov (.t 19)), none⟩]) .ret) (.seq (.reg [⟨(some 21), (.bin .eql (.t 4) (.c (.int .i64 7))), none⟩, ⟨(some 20), (.mov (.t 21)), none⟩]) (.cond (.t 20) (.seq (.reg [⟨(some 22), (.fadr 2 (.t 1)), none⟩, ⟨(some 23), (.load false 1 (.t 22)), none⟩, ⟨(some 24), (.cat (.c (.str [91])) (.t 23)), none⟩, ⟨(some 25), (.cat (.t 24) (.c (.str [93]))), none⟩, ⟨(some 26), (.call (.c (.fn 39 [])) [(.t 25)]), none⟩, ⟨(some 2), (.mov (.t 26)), none⟩]) .ret) (.seq (.reg [⟨(some 28), (.bin .eql (.t 4) (.c (.int .i64 9))), none⟩, ⟨(some 27), (.mov (.t 28)), none⟩]) (.cond (.t 27) (.seq (.dreg [(⟨(some 29), (.call (.c (.fn 213 [])) []), none⟩, []), (⟨(some 30), (.fadr 2 (.t 1)), none⟩, []), (⟨(some 31), (.load false 1 (.t 30)), none⟩, [1]), (⟨(some 32), (.call (.c (.fn 146 [])) [(.t 29), (.t 31)]), none⟩, [0, 2, 0]), (⟨(some 2), (.mov (.t 32)), none⟩, [3, 3, 0, 1, 2, 3])]) .ret) .skip)))))))))) (.seq (.reg [⟨(some 33), (.fadr 2 (.t 1)), none⟩, ⟨(some 34), (.load false 1 (.t 33)), none⟩, ⟨(some 35), (.seq false (.t 34) (.c (.str []))), none⟩, ⟨(some 2), (.mov (.t 35)), none⟩]) .ret)))⟩
theorem fit_spec_validText : Fit Tryz.prog 195 Tryz.f195 mf_spec_validText := ⟨by kernel_rfl, Tryz.func195, by kernel_rfl, by kernel_rfl, by kernel_rfl, by kernel_rfl⟩
theorem validText_ct (e : LExpr) (hs : e.text.length ≤ 1000000) : Ct Tryz.prog 195 [.agg e.C] (.bool (validText e.kind e.text)) := by
  have hs1 : 1 + e.text.length ≤ maxLen := by simp only [maxLen]; omega
  have hs2 : 1 + e.text.length + 1 ≤ maxLen := by simp only [maxLen]; omega
  refine ct_of_run fit_spec_validText (by simp [mf_spec_validText]) (by simp [go_sem]) fun hd => ?_
  simp -implicitDefEqProofs [-List.map_take, -List.map_drop, go_sem, mf_spec_validText]
  have d1 := fun a1 => isWord_ct a1
  have d2 := fun a1 => isName_ct a1
  have d3 := fun a1 => typeOk_ct a1
  have c1 := operators_ct
  have d4 := fun a1 => inTexts_ct ⟨opsL, [], false⟩ a1
  have hy := hy0
  have e1 := @validText.eq_1
  have hdf := @e1
  exact wk1

theorem Expr.Sm_kid {e : LExpr} (h : e.core.Sm) {i : Nat} (hi : i < e.kids.length) : (e.kids[i]).core.Sm := by
  rw [Expr.Sm_eq] at h
  exact Expr.Sms_mem h.2.2 _ (by rw [LExpr.core_kids]; exact List.mem_map_of_mem (List.getElem_mem hi))
theorem Expr.Sm_text {e : LExpr} (h : e.core.Sm) : e.text.length ≤ 1000000 := by
  rw [Expr.Sm_eq] at h
  exact LExpr.core_text e ▸ h.1
def validShape_L (e : LExpr) (tall : Nat) (i : Nat) (_ : Unit) : St := ⟨lk [(1, .int .i64 tall), (2, .ptr 0 1 0 0), (8, .int .i64 i)], [some ⟨[[.int .i64 e.kind, .int .i64 e.num, .str e.text, .imm (e.kids.map LExpr.C) e.sp e.lim]], 4, 48, false, false⟩], []⟩
def mf_spec_validShape : MF := ⟨64, [(.t 4)], (.seq (.reg [⟨(some 2), (.box 48 (.t 0)), none⟩, ⟨(some 4), (.mov (.c (.bool false))), none⟩]) (.seq (.seq (.reg [⟨(some 9), (.mov (.t 1)), none⟩, ⟨(some 10), (.bin .eql (.t 9) (.c (.int .i64 0))), none⟩, ⟨(some 11), (.mov (.t 10)), none⟩, ⟨(some 12), (.fadr 0 (.t 2)), (some (11, false))⟩, ⟨(some 13), (.load false 1 (.t 12)), (some (11, false))⟩, ⟨(some 14), (.call (.c (.fn 63 [])) [(.t 13), (.c (.int .i64 0)), (.c (.int .i64 15))]), (some (11, false))⟩, ⟨(some 15), (.not (.t 14)), (some (11, false))⟩, ⟨(some 16), (.pick (.t 11) (.c (.bool true)) (.t 15)), none⟩, ⟨(some 17), (.mov (.t 16)), none⟩, ⟨(some 18), (.load true 4 (.t 2)), (some (17, false))⟩, ⟨(some 19), (.call (.c (.fn 195 [])) [(.t 18)]), (some (17, false))⟩, ⟨(some 20), (.not (.t 19)), (some (17, false))⟩, ⟨(some 21), (.pick (.t 17) (.c (.bool true)) (.t 20)), none⟩]) (.cond (.t 21) (.seq (.reg [⟨(some 4), (.mov (.c (.bool false))), none⟩]) .ret) .skip)) (.seq (.reg [⟨(some 5), (.mov (.c (.int .i64 0))), none⟩]) (.seq (.seq (.reg [⟨(some 22), (.fadr 0 (.t 2)), none⟩, ⟨(some 23), (.load false 1 (.t 22)), none⟩]) (.blk 0 (.seq (.reg [⟨(some 25), (.bin .eql (.t 23) (.c (.int .i64 0))), none⟩, ⟨(some 24), (.mov (.t 25)), none⟩]) (.cond (.t 24) (.reg [⟨(some 5), (.mov (.c (.int .i64 9999))), none⟩]) (.seq (.reg [⟨(some 27), (.bin .eql (.t 23) (.c (.int .i64 1))), none⟩, ⟨(some 26), (.mov (.t 27)), none⟩]) (.cond (.t 26) (.reg [⟨(some 5), (.mov (.c (.int .i64 1))), none⟩]) .skip)))))) (.seq (.reg [⟨(some 29), (.fadr 0 (.t 2)), none⟩, ⟨(some 30), (.load false 1 (.t 29)), none⟩, ⟨(some 31), (.call (.c (.fn 196 [])) [(.t 30)]), none⟩, ⟨(some 28), (.mov (.t 31)), none⟩, ⟨(some 32), (.ext (.t 28) 0), none⟩, ⟨(some 33), (.ext (.t 28) 1), none⟩, ⟨(some 6), (.mov (.t 32)), none⟩, ⟨(some 7), (.mov (.t 33)), none⟩]) (.seq (.seq (.reg [⟨(some 34), (.fadr 1 (.t 2)), none⟩, ⟨(some 35), (.load false 1 (.t 34)), none⟩, ⟨(some 36), (.mov (.t 5)), none⟩, ⟨(some 37), (.call (.c (.fn 63 [])) [(.t 35), (.c (.int .i64 0)), (.t 36)]), none⟩, ⟨(some 38), (.not (.t 37)), none⟩, ⟨(some 39), (.mov (.t 38)), none⟩, ⟨(some 40), (.fadr 3 (.t 2)), (some (39, false))⟩, ⟨(some 41), (.load false 1 (.t 40)), (some (39, false))⟩, ⟨(some 42), (.lenl (.t 41)), (some (39, false))⟩, ⟨(some 43), (.mov (.t 6)), (some (39, false))⟩, ⟨(some 44), (.mov (.t 7)), (some (39, false))⟩, ⟨(some 45), (.call (.c (.fn 63 [])) [(.t 42), (.t 43), (.t 44)]), (some (39, false))⟩, ⟨(some 46), (.not (.t 45)), (some (39, false))⟩, ⟨(some 47), (.pick (.t 39) (.c (.bool true)) (.t 46)), none⟩]) (.cond (.t 47) (.seq (.reg [⟨(some 4), (.mov (.c (.bool false))), none⟩]) .ret) .skip)) (.seq (.seq (.reg [⟨(some 8), (.mov (.c (.int .i64 0))), none⟩]) (.blk 1 (.loop (.seq (.seq (.reg [⟨(some 48), (.mov (.t 8)), none⟩, ⟨(some 49), (.fadr 3 (.t 2)), none⟩, ⟨(some 50), (.load false 1 (.t 49)), none⟩, ⟨(some 51), (.lenl (.t 50)), none⟩, ⟨(some 52), (.bin .lss (.t 48) (.t 51)), none⟩]) (.cond (.t 52) .skip (.exit 1))) (.seq (.blk 2 (.seq (.reg [⟨(some 55), (.fadr 3 (.t 2)), none⟩, ⟨(some 56), (.load false 1 (.t 55)), none⟩, ⟨(some 57), (.mov (.t 8)), none⟩, ⟨(some 58), (.iadr 4 (.t 56) (.t 57)), none⟩, ⟨(some 59), (.load true 4 (.t 58)), none⟩, ⟨(some 60), (.mov (.t 1)), none⟩, ⟨(some 61), (.bin .sub (.t 60) (.c (.int .i64 1))), none⟩, ⟨(some 62), (.call (.c (.fn 156 [])) [(.t 59), (.t 61)]), none⟩, ⟨(some 63), (.not (.t 62)), none⟩]) (.cond (.t 63) (.seq (.reg [⟨(some 4), (.mov (.c (.bool false))), none⟩]) .ret) .skip))) (.reg [⟨(some 53), (.mov (.t 8)), none⟩, ⟨(some 54), (.bin .add (.t 53) (.c (.int .i64 1))), none⟩, ⟨(some 8), (.mov (.t 54)), none⟩])))))) (.seq (.reg [⟨(some 4), (.mov (.c (.bool true))), none⟩]) .ret))))))))⟩
theorem fit_spec_validShape : Fit Tryz.prog 156 Tryz.f156 mf_spec_validShape := ⟨by kernel_rfl, Tryz.func156, by kernel_rfl, by kernel_rfl, by kernel_rfl, by kernel_rfl⟩
theorem validShape_ct (e : LExpr) (tall : Nat) (ht : tall ≤ 1000) (hs : e.core.Sm) : Ct Tryz.prog 156 [.agg e.C, .int .i64 tall] (.bool (validShape e.core tall)) := by
  have hst := Expr.Sm_text hs
  refine ct_of_run fit_spec_validShape (by simp [mf_spec_validShape]) (by simp [go_sem]) fun hd => ?_
  simp -implicitDefEqProofs [-List.map_take, -List.map_drop, go_sem, mf_spec_validShape]
  have hm : e.kids.length ≤ maxLen := by have := LExpr.deep hd.1; omega
  rw [validShape_eq, LExpr.core_kind, LExpr.core_num, LExpr.core_text, LExpr.core_kids, List.length_map]
  repeat' first
    | ((first | refine gv_split (fun h => ?_) (fun h => ?_) | refine cnd_split (fun h => ?_) (fun h => ?_) | refine cgv_split (fun h => ?_) (fun h => ?_)) <;> (try (have hp := h; simp at hp)) <;> simp -implicitDefEqProofs [-List.map_take, -List.map_drop, go_sem, h])
    | (refine And.intro (by first | omega | (simp only [maxLen]; omega) | (simp_all; done) | (simp_all; omega)) ?_; try simp -implicitDefEqProofs [-List.map_take, -List.map_drop, go_sem])
    | ((first | refine stp_ct (inRange_ct _ _ _) (by simp [go_sem]) ?_ ?_ | refine cstp_ct (inRange_ct _ _ _) (by simp [go_sem]) ?_ ?_ | refine stp_ct (validText_ct _ hst) (by simp [go_sem]) ?_ ?_ | refine cstp_ct (validText_ct _ hst) (by simp [go_sem]) ?_ ?_ | refine stp_ct (kidsOf_ct _) (by simp [go_sem]) ?_ ?_ | refine cstp_ct (kidsOf_ct _) (by simp [go_sem]) ?_ ?_); (simp [go_sem]); simp -implicitDefEqProofs [-List.map_take, -List.map_drop, go_sem])
    | (refine run_dreg' (by decide) ?_; simp -implicitDefEqProofs [-List.map_take, -List.map_drop, go_sem])
    | ((first | refine end_tup _ (by simp) (by simp [go_sem]; rfl) (by simp [go_sem]) ?_); first | (simp [go_sem, *, inR, mostOf]; done) | grind [inR, mostOf] | (simp [go_sem, inR, mostOf]; grind [inR, mostOf]) | (simp_all [go_sem, inR, mostOf]; done) | (simp_all [go_sem, inR, mostOf]; omega))
  all_goals
    have hw : IntKind.i64.wrap ((tall : Int) - 1) = ((tall - 1 : Nat) : Int) := by rw [wrap_small (by omega) (by omega)]; omega
    refine run_iter (e.kids.length) (validShape_L e tall) (fun i a => validShapes ((e.kids.drop i).map LExpr.core) (tall - 1) = validShapes (e.kids.map LExpr.core) (tall - 1)) () (gh_auto (by simp [go_sem, validShape_L, hw])) (by first | (simp; done) | (simp [inR, mostOf]; done) | (simp [inR, mostOf]; omega) | grind) ?_
    intro i a hi hj
    simp -implicitDefEqProofs [-List.map_take, -List.map_drop, go_sem, validShape_L, hw]
    refine cnd_split (fun hc => ?_) (fun hc => ?_)
    · have hlt : i < e.kids.length := by first | (simpa using hc) | (simp at hc; omega)
      rw [List.drop_eq_getElem_cons (l := e.kids) (by omega)] at hj
      simp only [List.map_cons, validShapes] at hj
      simp -implicitDefEqProofs [-List.map_take, -List.map_drop, go_sem, hlt, hw]
      have c1 := validShape_ct e.kids[i] (tall - 1) (by omega) (Expr.Sm_kid hs hlt)
      have hy := And.intro (hlt) (hw)
      have e1 := @inR.eq_1
      have e2 := @mostOf.eq_1
      have hdf := And.intro (@e1) (@e2)
      have eL := @validShape_L.eq_1
      have hm0 := hm
      have hlt0 := hlt
      exact wk1n
    · have hge : e.kids.length ≤ i := by first | (simpa using hc) | (simp at hc; omega)
      rw [List.drop_of_length_le (l := e.kids) (by omega)] at hj
      simp only [List.map_nil, validShapes] at hj
      try simp -implicitDefEqProofs [-List.map_take, -List.map_drop, go_sem, hw]
      have hy := hw
      have e1 := @inR.eq_1
      have e2 := @mostOf.eq_1
      have hdf := And.intro (@e1) (@e2)
      exact wk0
termination_by SizeOf.sizeOf e
decreasing_by all_goals exact LExpr.kid_lt (List.getElem_mem hlt)
def size_L (e : LExpr) (i : Nat) (a : Nat) : St := ⟨lk [(1, .ptr 0 1 0 0), (3, .int .i64 a), (4, .int .i64 i)], [some ⟨[[.int .i64 e.kind, .int .i64 e.num, .str e.text, .imm (e.kids.map LExpr.C) e.sp e.lim]], 4, 48, false, false⟩], []⟩
theorem Expr.size_kid {e : LExpr} {i : Nat} (hi : i < e.kids.length) : (e.kids[i]).core.size < e.core.size := by
  have h : ∀ (l : List LExpr) (i : Nat) (hi : i < l.length), (l[i]).core.size ≤ Expr.sizes (l.map LExpr.core) := by
    intro l
    induction l with
    | nil => intro i hi; simp at hi
    | cons x xs ih =>
      intro i hi
      cases i with
      | zero => simp only [List.map_cons, Expr.sizes, List.getElem_cons_zero]; omega
      | succ i => have := ih i (by simpa using hi); simp only [List.map_cons, Expr.sizes, List.getElem_cons_succ]; omega
  rw [Expr.size_eq e.core, LExpr.core_kids]
  have := h e.kids i hi
  omega
def mf_spec_size : MF := ⟨21, [(.t 2)], (.seq (.reg [⟨(some 1), (.box 48 (.t 0)), none⟩, ⟨(some 2), (.mov (.c (.int .i64 0))), none⟩]) (.seq (.reg [⟨(some 3), (.mov (.c (.int .i64 1))), none⟩]) (.seq (.seq (.reg [⟨(some 4), (.mov (.c (.int .i64 0))), none⟩]) (.blk 0 (.loop (.seq (.seq (.reg [⟨(some 5), (.mov (.t 4)), none⟩, ⟨(some 6), (.fadr 3 (.t 1)), none⟩, ⟨(some 7), (.load false 1 (.t 6)), none⟩, ⟨(some 8), (.lenl (.t 7)), none⟩, ⟨(some 9), (.bin .lss (.t 5) (.t 8)), none⟩]) (.cond (.t 9) .skip (.exit 0))) (.seq (.blk 1 (.reg [⟨(some 12), (.mov (.t 3)), none⟩, ⟨(some 13), (.fadr 3 (.t 1)), none⟩, ⟨(some 14), (.load false 1 (.t 13)), none⟩, ⟨(some 15), (.mov (.t 4)), none⟩, ⟨(some 16), (.iadr 4 (.t 14) (.t 15)), none⟩, ⟨(some 17), (.load true 4 (.t 16)), none⟩, ⟨(some 18), (.call (.c (.fn 157 [])) [(.t 17)]), none⟩, ⟨(some 19), (.bin .add (.t 12) (.t 18)), none⟩, ⟨(some 3), (.mov (.t 19)), none⟩])) (.reg [⟨(some 10), (.mov (.t 4)), none⟩, ⟨(some 11), (.bin .add (.t 10) (.c (.int .i64 1))), none⟩, ⟨(some 4), (.mov (.t 11)), none⟩])))))) (.seq (.reg [⟨(some 20), (.mov (.t 3)), none⟩, ⟨(some 2), (.mov (.t 20)), none⟩]) .ret))))⟩
theorem fit_spec_size : Fit Tryz.prog 157 Tryz.f157 mf_spec_size := ⟨by kernel_rfl, Tryz.func157, by kernel_rfl, by kernel_rfl, by kernel_rfl, by kernel_rfl⟩
theorem size_ct (e : LExpr) (hs : e.core.size ≤ 4611686018427387904) : Ct Tryz.prog 157 [.agg e.C] (.int .i64 e.core.size) := by
  refine ct_of_run fit_spec_size (by simp [mf_spec_size]) (by simp [go_sem]) fun hd => ?_
  simp -implicitDefEqProofs [-List.map_take, -List.map_drop, go_sem, mf_spec_size]
  have hm : e.kids.length ≤ maxLen := by have := LExpr.deep hd.1; omega
  refine run_iter (e.kids.length) (size_L e) (fun i a => a + Expr.sizes ((e.kids.drop i).map LExpr.core) = e.core.size) 1 (gh_auto (by simp [go_sem, size_L])) (by first | (simp; done) | (simp [Expr.size_eq e.core]; done) | (simp [Expr.size_eq e.core]; omega) | grind) ?_
  intro i a hi hj
  simp -implicitDefEqProofs [-List.map_take, -List.map_drop, go_sem, size_L]
  refine cnd_split (fun hc => ?_) (fun hc => ?_)
  · have hlt : i < e.kids.length := by first | (simpa using hc) | (simp at hc; omega)
    rw [List.drop_eq_getElem_cons (l := e.kids) (by omega)] at hj
    simp only [List.map_cons, Expr.sizes] at hj
    have hsz := Nat.le_trans (Nat.le_of_lt (Expr.size_kid hlt)) hs
    have hw : IntKind.i64.wrap ((a : Int) + ((e.kids[i]).core.size : Int)) = (a : Int) + ((e.kids[i]).core.size : Int) := wrap_small (by omega) (by omega)
    simp -implicitDefEqProofs [-List.map_take, -List.map_drop, go_sem, hlt, hw]
    repeat' first
      | ((first | refine gv_split (fun h => ?_) (fun h => ?_) | refine cnd_split (fun h => ?_) (fun h => ?_) | refine cgv_split (fun h => ?_) (fun h => ?_)) <;> (try (have hp := h; simp at hp)) <;> simp -implicitDefEqProofs [-List.map_take, -List.map_drop, go_sem, h, hlt, hw])
      | (refine And.intro (by first | omega | (simp only [maxLen]; omega) | (simp_all; done) | (simp_all; omega)) ?_; try simp -implicitDefEqProofs [-List.map_take, -List.map_drop, go_sem, hlt, hw])
      | ((first | refine stp_ct (size_ct e.kids[i] hsz) (by simp [go_sem, hlt, hw]) ?_ ?_ | refine cstp_ct (size_ct e.kids[i] hsz) (by simp [go_sem, hlt, hw]) ?_ ?_); (simp [go_sem]); simp -implicitDefEqProofs [-List.map_take, -List.map_drop, go_sem, hlt, hw])
      | (refine run_dreg' (by decide) ?_; simp -implicitDefEqProofs [-List.map_take, -List.map_drop, go_sem, hlt, hw])
      | ((first | refine kx_next (a + (e.kids[i]).core.size) hlt (gh_auto (by simp [go_sem, size_L, wrap_succ hlt hm, hlt, hw])) ?_ | refine end_tup _ (by simp) (by simp [go_sem]; rfl) (by simp [go_sem]) ?_); first | (simp [go_sem, *, Expr.size_eq e.core]; done) | grind [Expr.size_eq e.core] | (simp [go_sem, Expr.size_eq e.core]; grind [Expr.size_eq e.core]) | (simp_all [go_sem, Expr.size_eq e.core]; done) | (simp_all [go_sem, Expr.size_eq e.core]; omega))
  · have hge : e.kids.length ≤ i := by first | (simpa using hc) | (simp at hc; omega)
    rw [List.drop_of_length_le (l := e.kids) (by omega)] at hj
    simp only [List.map_nil, Expr.sizes] at hj
    try simp -implicitDefEqProofs [-List.map_take, -List.map_drop, go_sem]
    repeat' first
      | ((first | refine gv_split (fun h => ?_) (fun h => ?_) | refine cnd_split (fun h => ?_) (fun h => ?_) | refine cgv_split (fun h => ?_) (fun h => ?_)) <;> (try (have hp := h; simp at hp)) <;> simp -implicitDefEqProofs [-List.map_take, -List.map_drop, go_sem, h])
      | (refine And.intro (by first | omega | (simp only [maxLen]; omega) | (simp_all; done) | (simp_all; omega)) ?_; try simp -implicitDefEqProofs [-List.map_take, -List.map_drop, go_sem])
      | ((first | refine stp_ct (size_ct e.kids[i] hsz) (by simp [go_sem]) ?_ ?_ | refine cstp_ct (size_ct e.kids[i] hsz) (by simp [go_sem]) ?_ ?_); (simp [go_sem]); simp -implicitDefEqProofs [-List.map_take, -List.map_drop, go_sem])
      | (refine run_dreg' (by decide) ?_; simp -implicitDefEqProofs [-List.map_take, -List.map_drop, go_sem])
      | ((first | refine end_tup _ (by simp) (by simp [go_sem]; rfl) (by simp [go_sem]) ?_); first | (simp [go_sem, *, Expr.size_eq e.core]; done) | grind [Expr.size_eq e.core] | (simp [go_sem, Expr.size_eq e.core]; grind [Expr.size_eq e.core]) | (simp_all [go_sem, Expr.size_eq e.core]; done) | (simp_all [go_sem, Expr.size_eq e.core]; omega))
termination_by SizeOf.sizeOf e
decreasing_by all_goals exact LExpr.kid_lt (List.getElem_mem hlt)
theorem size_le {e : Expr} (h : validShape e 9 = true) : e.size ≤ 4611686018427387904 := Nat.le_trans (size_of_valid e 9 h) (by decide)
def mf_spec_ExprOk : MF := ⟨10, [(.t 2)], (.seq (.reg [⟨(some 1), (.box 48 (.t 0)), none⟩, ⟨(some 2), (.mov (.c (.bool false))), none⟩]) (.seq (.reg [⟨(some 3), (.load true 4 (.t 1)), none⟩, ⟨(some 4), (.call (.c (.fn 156 [])) [(.t 3), (.c (.int .i64 9))]), none⟩, ⟨(some 5), (.mov (.t 4)), none⟩, ⟨(some 6), (.load true 4 (.t 1)), (some (5, true))⟩, ⟨(some 7), (.call (.c (.fn 157 [])) [(.t 6)]), (some (5, true))⟩, ⟨(some 8), (.bin .leq (.t 7) (.c (.int .i64 40))), (some (5, true))⟩, ⟨(some 9), (.pick (.t 5) (.t 8) (.c (.bool false))), none⟩, ⟨(some 2), (.mov (.t 9)), none⟩]) .ret))⟩
theorem fit_spec_ExprOk : Fit Tryz.prog 99 Tryz.f99 mf_spec_ExprOk := ⟨by kernel_rfl, Tryz.func99, by kernel_rfl, by kernel_rfl, by kernel_rfl, by kernel_rfl⟩
theorem exprOk_ct (e : LExpr) (hs : e.core.Sm) : Ct Tryz.prog 99 [.agg e.C] (.bool (exprOk e.core)) := by
  refine ct_of_run fit_spec_ExprOk (by simp [mf_spec_ExprOk]) (by simp [go_sem]) fun hd => ?_
  simp -implicitDefEqProofs [-List.map_take, -List.map_drop, go_sem, mf_spec_ExprOk]
  repeat' first
    | ((first | refine gv_split (fun h => ?_) (fun h => ?_) | refine cnd_split (fun h => ?_) (fun h => ?_) | refine cgv_split (fun h => ?_) (fun h => ?_)) <;> (try (have hp := h; simp at hp)) <;> simp -implicitDefEqProofs [-List.map_take, -List.map_drop, go_sem, h])
    | (refine And.intro (by first | omega | (simp only [maxLen]; omega) | (simp_all; done) | (simp_all; omega)) ?_; try simp -implicitDefEqProofs [-List.map_take, -List.map_drop, go_sem])
    | ((first | refine stp_ct (validShape_ct e 9 (by decide) hs) (by simp [go_sem]) ?_ ?_ | refine cstp_ct (validShape_ct e 9 (by decide) hs) (by simp [go_sem]) ?_ ?_ | refine stp_ct (size_ct e (size_le h)) (by simp [go_sem]) ?_ ?_ | refine cstp_ct (size_ct e (size_le h)) (by simp [go_sem]) ?_ ?_); (simp [go_sem]); simp -implicitDefEqProofs [-List.map_take, -List.map_drop, go_sem])
    | (refine run_dreg' (by decide) ?_; simp -implicitDefEqProofs [-List.map_take, -List.map_drop, go_sem])
    | ((first | refine end_tup _ (by simp) (by simp [go_sem]; rfl) (by simp [go_sem]) ?_); first | (simp [go_sem, *, exprOk]; done) | grind [exprOk] | (simp [go_sem, exprOk]; grind [exprOk]) | (simp_all [go_sem, exprOk]; done) | (simp_all [go_sem, exprOk]; omega))

def same_L (a b : LExpr) (i : Nat) (_ : Unit) : St := ⟨lk [(2, .ptr 0 1 0 0), (3, .ptr 1 1 0 0), (5, .int .i64 i)], [some ⟨[[.int .i64 a.kind, .int .i64 a.num, .str a.text, .imm (a.kids.map LExpr.C) a.sp a.lim]], 4, 48, false, false⟩, some ⟨[[.int .i64 b.kind, .int .i64 b.num, .str b.text, .imm (b.kids.map LExpr.C) b.sp b.lim]], 4, 48, false, false⟩], []⟩
def mf_spec_same : MF := ⟨53, [(.t 4)], (.seq (.reg [⟨(some 2), (.box 48 (.t 0)), none⟩, ⟨(some 3), (.box 48 (.t 1)), none⟩, ⟨(some 4), (.mov (.c (.bool false))), none⟩]) (.seq (.seq (.reg [⟨(some 6), (.fadr 0 (.t 2)), none⟩, ⟨(some 7), (.load false 1 (.t 6)), none⟩, ⟨(some 8), (.fadr 0 (.t 3)), none⟩, ⟨(some 9), (.load false 1 (.t 8)), none⟩, ⟨(some 10), (.bin .neq (.t 7) (.t 9)), none⟩, ⟨(some 11), (.mov (.t 10)), none⟩, ⟨(some 12), (.fadr 1 (.t 2)), (some (11, false))⟩, ⟨(some 13), (.load false 1 (.t 12)), (some (11, false))⟩, ⟨(some 14), (.fadr 1 (.t 3)), (some (11, false))⟩, ⟨(some 15), (.load false 1 (.t 14)), (some (11, false))⟩, ⟨(some 16), (.bin .neq (.t 13) (.t 15)), (some (11, false))⟩, ⟨(some 17), (.pick (.t 11) (.c (.bool true)) (.t 16)), none⟩, ⟨(some 18), (.mov (.t 17)), none⟩, ⟨(some 19), (.fadr 2 (.t 2)), (some (18, false))⟩, ⟨(some 20), (.load false 1 (.t 19)), (some (18, false))⟩, ⟨(some 21), (.fadr 2 (.t 3)), (some (18, false))⟩, ⟨(some 22), (.load false 1 (.t 21)), (some (18, false))⟩, ⟨(some 23), (.seq true (.t 20) (.t 22)), (some (18, false))⟩, ⟨(some 24), (.pick (.t 18) (.c (.bool true)) (.t 23)), none⟩, ⟨(some 25), (.mov (.t 24)), none⟩, ⟨(some 26), (.fadr 3 (.t 2)), (some (25, false))⟩, ⟨(some 27), (.load false 1 (.t 26)), (some (25, false))⟩, ⟨(some 28), (.lenl (.t 27)), (some (25, false))⟩, ⟨(some 29), (.fadr 3 (.t 3)), (some (25, false))⟩, ⟨(some 30), (.load false 1 (.t 29)), (some (25, false))⟩, ⟨(some 31), (.lenl (.t 30)), (some (25, false))⟩, ⟨(some 32), (.bin .neq (.t 28) (.t 31)), (some (25, false))⟩, ⟨(some 33), (.pick (.t 25) (.c (.bool true)) (.t 32)), none⟩]) (.cond (.t 33) (.seq (.reg [⟨(some 4), (.mov (.c (.bool false))), none⟩]) .ret) .skip)) (.seq (.seq (.reg [⟨(some 5), (.mov (.c (.int .i64 0))), none⟩]) (.blk 0 (.loop (.seq (.seq (.reg [⟨(some 34), (.mov (.t 5)), none⟩, ⟨(some 35), (.fadr 3 (.t 2)), none⟩, ⟨(some 36), (.load false 1 (.t 35)), none⟩, ⟨(some 37), (.lenl (.t 36)), none⟩, ⟨(some 38), (.bin .lss (.t 34) (.t 37)), none⟩]) (.cond (.t 38) .skip (.exit 0))) (.seq (.blk 1 (.seq (.dreg [(⟨(some 41), (.fadr 3 (.t 2)), none⟩, []), (⟨(some 42), (.load false 1 (.t 41)), none⟩, [0]), (⟨(some 43), (.mov (.t 5)), none⟩, []), (⟨(some 44), (.iadr 4 (.t 42) (.t 43)), none⟩, [1, 2]), (⟨(some 45), (.load true 4 (.t 44)), none⟩, [3]), (⟨(some 46), (.fadr 3 (.t 3)), none⟩, []), (⟨(some 47), (.load false 1 (.t 46)), none⟩, [5]), (⟨(some 48), (.mov (.t 5)), none⟩, []), (⟨(some 49), (.iadr 4 (.t 47) (.t 48)), none⟩, [6, 7]), (⟨(some 50), (.load true 4 (.t 49)), none⟩, [8]), (⟨(some 51), (.call (.c (.fn 205 [])) [(.t 45), (.t 50)]), none⟩, [4, 9]), (⟨(some 52), (.not (.t 51)), none⟩, [10])]) (.cond (.t 52) (.seq (.reg [⟨(some 4), (.mov (.c (.bool false))), none⟩]) .ret) .skip))) (.reg [⟨(some 39), (.mov (.t 5)), none⟩, ⟨(some 40), (.bin .add (.t 39) (.c (.int .i64 1))), none⟩, ⟨(some 5), (.mov (.t 40)), none⟩])))))) (.seq (.reg [⟨(some 4), (.mov (.c (.bool true))), none⟩]) .ret))))⟩
theorem fit_spec_same : Fit Tryz.prog 205 Tryz.f205 mf_spec_same := ⟨by kernel_rfl, Tryz.func205, by kernel_rfl, by kernel_rfl, by kernel_rfl, by kernel_rfl⟩
theorem same_ct (x y : LExpr) : Ct Tryz.prog 205 [.agg x.C, .agg y.C] (.bool (Expr.same x.core y.core)) := by
  refine ct_of_run fit_spec_same (by simp [mf_spec_same]) (by simp [go_sem]) fun hd => ?_
  simp -implicitDefEqProofs [-List.map_take, -List.map_drop, go_sem, mf_spec_same]
  have hm : x.kids.length ≤ maxLen := by have := LExpr.deep hd.1; omega
  rw [Expr.same_eq, LExpr.core_kind, LExpr.core_num, LExpr.core_text, LExpr.core_kids, LExpr.core_kind, LExpr.core_num, LExpr.core_text, LExpr.core_kids]
  have hne := Expr.sames_ne (x.kids.map LExpr.core) (y.kids.map LExpr.core)
  simp only [List.length_map] at hne
  repeat' first
    | ((first | refine gv_split (fun h => ?_) (fun h => ?_) | refine cnd_split (fun h => ?_) (fun h => ?_) | refine cgv_split (fun h => ?_) (fun h => ?_)) <;> (try (have hp := h; simp at hp)) <;> simp -implicitDefEqProofs [-List.map_take, -List.map_drop, go_sem, h])
    | (refine And.intro (by first | omega | (simp only [maxLen]; omega) | (simp_all; done) | (simp_all; omega)) ?_; try simp -implicitDefEqProofs [-List.map_take, -List.map_drop, go_sem])
    | (refine run_dreg' (by decide) ?_; simp -implicitDefEqProofs [-List.map_take, -List.map_drop, go_sem])
    | ((first | refine end_tup _ (by simp) (by simp [go_sem]; rfl) (by simp [go_sem]) ?_); first | (simp [go_sem, *]; done) | grind | (simp [go_sem]; grind) | (simp_all [go_sem]; done) | (simp_all [go_sem]; omega))
  have hlen : x.kids.length = y.kids.length := by omega
  refine run_iter (x.kids.length) (same_L x y) (fun i a => Expr.sames ((x.kids.drop i).map LExpr.core) ((y.kids.drop i).map LExpr.core) = Expr.sames (x.kids.map LExpr.core) (y.kids.map LExpr.core)) () (gh_auto (by simp [go_sem, same_L])) (by first | (simp; done) | (simp []; done) | (simp []; omega) | grind) ?_
  intro i a hi hj
  simp -implicitDefEqProofs [-List.map_take, -List.map_drop, go_sem, same_L]
  refine cnd_split (fun hc => ?_) (fun hc => ?_)
  · have hlt : i < x.kids.length := by first | (simpa using hc) | (simp at hc; omega)
    rw [List.drop_eq_getElem_cons (l := x.kids) (by omega)] at hj
    have hlt_1 : i < y.kids.length := by omega
    rw [List.drop_eq_getElem_cons (l := y.kids) (by omega)] at hj
    simp only [List.map_cons, Expr.sames] at hj
    simp -implicitDefEqProofs [-List.map_take, -List.map_drop, go_sem, hlt, hlt_1]
    have c1 := same_ct x.kids[i] y.kids[i]
    have hy := And.intro (hlt) (hlt_1)
    have hdf := hy0
    have eL := @same_L.eq_1
    have hm0 := hm
    have hlt0 := hlt
    exact wk1n
  · have hge : x.kids.length ≤ i := by first | (simpa using hc) | (simp at hc; omega)
    rw [List.drop_of_length_le (l := x.kids) (by omega)] at hj
    rw [List.drop_of_length_le (l := y.kids) (by omega)] at hj
    simp only [List.map_nil, Expr.sames] at hj
    try simp -implicitDefEqProofs [-List.map_take, -List.map_drop, go_sem]
    have hy := hy0
    have hdf := hy0
    exact wk0
termination_by SizeOf.sizeOf x
decreasing_by all_goals exact LExpr.kid_lt (List.getElem_mem hlt)
def zeroL : LExpr := .mk 0 0 [] [] [] true
theorem zeroL_core : zeroL.core = zeroE := rfl
theorem zeroL_C : [PV.int .i64 0, .int .i64 0, .str [], .imm [] [] true] = zeroL.C := rfl
def mf_spec_zeroExpr : MF := ⟨6, [(.t 2)], (.seq (.reg [⟨(some 1), (.box 48 (.t 0)), none⟩, ⟨(some 2), (.mov (.c (.bool false))), none⟩]) (.seq (.reg [⟨(some 3), (.load true 4 (.t 1)), none⟩, ⟨(some 4), (.build [(.int .i64 0), (.int .i64 0), (.str []), (.imm [] [] true)] []), none⟩, ⟨(some 5), (.call (.c (.fn 205 [])) [(.t 3), (.t 4)]), none⟩, ⟨(some 2), (.mov (.t 5)), none⟩]) .ret))⟩
theorem fit_spec_zeroExpr : Fit Tryz.prog 173 Tryz.f173 mf_spec_zeroExpr := ⟨by kernel_rfl, Tryz.func173, by kernel_rfl, by kernel_rfl, by kernel_rfl, by kernel_rfl⟩
theorem zeroExpr_ct (e : LExpr) : Ct Tryz.prog 173 [.agg e.C] (.bool (Expr.same e.core zeroE)) := by
  refine ct_of_run fit_spec_zeroExpr (by simp [mf_spec_zeroExpr]) (by simp [go_sem]) fun hd => ?_
  simp -implicitDefEqProofs [-List.map_take, -List.map_drop, go_sem, mf_spec_zeroExpr]
  simp -implicitDefEqProofs [-List.map_take, -List.map_drop, go_sem, buildV, fillC]
  rw [zeroL_C]
  have c1 := same_ct e zeroL
  have hy := hy0
  have e1 := @zeroL_core
  have hdf := @e1
  exact wk1
def bindAt_L (l : Sl Bind) (name : Str) (a : Nat) : St := ⟨lk [(0, l.I Bind.C), (1, .str name), (5, .int .i64 ((a : Int) - 1))], [], []⟩
def mf_spec_bindAt : MF := ⟨21, [(.t 4)], (.seq (.reg [⟨(some 4), (.mov (.c (.int .i64 0))), none⟩]) (.seq (.seq (.reg [⟨(some 6), (.mov (.t 0)), none⟩, ⟨(some 7), (.lenl (.t 6)), none⟩, ⟨(some 8), (.bin .sub (.t 7) (.c (.int .i64 1))), none⟩, ⟨(some 5), (.mov (.t 8)), none⟩]) (.blk 0 (.loop (.seq (.seq (.reg [⟨(some 9), (.mov (.t 5)), none⟩, ⟨(some 10), (.bin .geq (.t 9) (.c (.int .i64 0))), none⟩]) (.cond (.t 10) .skip (.exit 0))) (.seq (.blk 1 (.seq (.reg [⟨(some 13), (.mov (.t 0)), none⟩, ⟨(some 14), (.mov (.t 5)), none⟩, ⟨(some 15), (.iadr 2 (.t 13) (.t 14)), none⟩, ⟨(some 16), (.fadr 0 (.t 15)), none⟩, ⟨(some 17), (.load false 1 (.t 16)), none⟩, ⟨(some 18), (.mov (.t 1)), none⟩, ⟨(some 19), (.seq false (.t 17) (.t 18)), none⟩]) (.cond (.t 19) (.seq (.reg [⟨(some 20), (.mov (.t 5)), none⟩, ⟨(some 4), (.mov (.t 20)), none⟩]) .ret) .skip))) (.reg [⟨(some 11), (.mov (.t 5)), none⟩, ⟨(some 12), (.bin .sub (.t 11) (.c (.int .i64 1))), none⟩, ⟨(some 5), (.mov (.t 12)), none⟩])))))) (.seq (.reg [⟨(some 4), (.mov (.c (.int .i64 (-1)))), none⟩]) .ret)))⟩
theorem fit_spec_bindAt : Fit Tryz.prog 204 Tryz.f204 mf_spec_bindAt := ⟨by kernel_rfl, Tryz.func204, by kernel_rfl, by kernel_rfl, by kernel_rfl, by kernel_rfl⟩
theorem bindAt_ct (l : Sl Bind) (name : Str) : Ct Tryz.prog 204 [l.I Bind.C, .str name] (.int .i64 (bindAt l.es name)) := by
  refine ct_of_run fit_spec_bindAt (by simp [mf_spec_bindAt]) (by simp [go_sem]) fun hd => ?_
  simp -implicitDefEqProofs [-List.map_take, -List.map_drop, go_sem, mf_spec_bindAt]
  have hm : l.es.length ≤ maxLen := by simp [deepL, deepV, Sl.I] at hd; omega
  simp only [maxLen] at hm
  have hw0 : IntKind.i64.wrap ((l.es.length : Int) - 1) = (l.es.length : Int) - 1 := wrap_small (by omega) (by omega)
  simp -implicitDefEqProofs [-List.map_take, -List.map_drop, go_sem, hw0]
  refine run_while (bindAt_L l name) (fun a => a) (fun a => bindAtTo name l.es a = bindAt l.es name ∧ a ≤ l.es.length) l.es.length (gh_auto (by simp [go_sem, bindAt_L, hw0])) ⟨rfl, Nat.le_refl _⟩ ?_
  rintro j ⟨hj, hjl⟩
  simp -implicitDefEqProofs [-List.map_take, -List.map_drop, go_sem, bindAt_L]
  cases j with
  | zero =>
    simp only [bindAtTo] at hj
    simp -implicitDefEqProofs [-List.map_take, -List.map_drop, go_sem]
    have hy := hy0
    have hdf := hy0
    exact wk0
  | succ j =>
    have hlt : j < l.es.length := hjl
    have hlt' : ((j + 1 : Nat) : Int) - 1 = j := by omega
    have hw : IntKind.i64.wrap ((j : Int) - 1) = (j : Int) - 1 := wrap_small (by omega) (by omega)
    simp only [bindAtTo, nameIs, List.getElem?_eq_getElem hlt] at hj
    rw [hlt']
    simp -implicitDefEqProofs [-List.map_take, -List.map_drop, go_sem, hlt]
    repeat' first
      | ((first | refine gv_split (fun h => ?_) (fun h => ?_) | refine cnd_split (fun h => ?_) (fun h => ?_) | refine cgv_split (fun h => ?_) (fun h => ?_)) <;> (try (have hp := h; simp at hp)) <;> simp -implicitDefEqProofs [-List.map_take, -List.map_drop, go_sem, h, hlt])
      | (refine And.intro (by first | omega | (simp only [maxLen]; omega) | (simp_all; done) | (simp_all; omega)) ?_; try simp -implicitDefEqProofs [-List.map_take, -List.map_drop, go_sem, hlt])
      | (refine run_dreg' (by decide) ?_; simp -implicitDefEqProofs [-List.map_take, -List.map_drop, go_sem, hlt])
      | ((first | refine end_tup _ (by simp) (by simp [go_sem]; rfl) (by simp [go_sem]) ?_); first | (simp [go_sem, *]; done) | grind | (simp [go_sem]; grind) | (simp_all [go_sem]; done) | (simp_all [go_sem]; omega))
    refine kx_more j (by simp) (gh_auto (by simp [go_sem, bindAt_L, hw])) ?_
    refine ⟨?_, by omega⟩
    rw [← hj, if_neg (by simpa using hp)]
def validBinds_L (l : Sl Bind) (i : Nat) (_ : Unit) : St := ⟨lk [(0, l.I Bind.C), (3, .int .i64 i)], [], []⟩
def mf_spec_validBinds : MF := ⟨41, [(.t 2)], (.seq (.reg [⟨(some 2), (.mov (.c (.bool false))), none⟩]) (.seq (.seq (.reg [⟨(some 3), (.mov (.c (.int .i64 0))), none⟩]) (.blk 0 (.loop (.seq (.seq (.reg [⟨(some 4), (.mov (.t 3)), none⟩, ⟨(some 5), (.mov (.t 0)), none⟩, ⟨(some 6), (.lenl (.t 5)), none⟩, ⟨(some 7), (.bin .lss (.t 4) (.t 6)), none⟩]) (.cond (.t 7) .skip (.exit 0))) (.seq (.blk 1 (.seq (.dreg [(⟨(some 10), (.mov (.t 0)), none⟩, []), (⟨(some 11), (.mov (.t 3)), none⟩, []), (⟨(some 12), (.iadr 2 (.t 10) (.t 11)), none⟩, [0, 1]), (⟨(some 13), (.fadr 0 (.t 12)), none⟩, [2]), (⟨(some 14), (.load false 1 (.t 13)), none⟩, [3]), (⟨(some 15), (.call (.c (.fn 85 [])) [(.t 14)]), none⟩, [4]), (⟨(some 16), (.not (.t 15)), none⟩, [5]), (⟨(some 17), (.mov (.t 16)), none⟩, [6, 5]), (⟨(some 18), (.mov (.t 0)), (some (17, false))⟩, [7]), (⟨(some 19), (.mov (.t 3)), (some (17, false))⟩, [7]), (⟨(some 20), (.iadr 2 (.t 18) (.t 19)), (some (17, false))⟩, [8, 9, 7]), (⟨(some 21), (.fadr 1 (.t 20)), (some (17, false))⟩, [10, 7]), (⟨(some 22), (.load false 1 (.t 21)), (some (17, false))⟩, [11, 7]), (⟨(some 23), (.call (.c (.fn 39 [])) [(.t 22)]), (some (17, false))⟩, [12, 7, 7]), (⟨(some 24), (.not (.t 23)), (some (17, false))⟩, [13, 7]), (⟨(some 25), (.pick (.t 17) (.c (.bool true)) (.t 24)), none⟩, [7, 14]), (⟨(some 26), (.mov (.t 25)), none⟩, [15, 13]), (⟨(some 27), (.mov (.t 0)), (some (26, false))⟩, [16]), (⟨(some 28), (.mov (.t 3)), (some (26, false))⟩, [16]), (⟨(some 29), (.sl 2 (.t 27) none (some (.t 28)) none), (some (26, false))⟩, [17, 18, 16]), (⟨(some 30), (.mov (.t 0)), (some (26, false))⟩, [16]), (⟨(some 31), (.mov (.t 3)), (some (26, false))⟩, [16]), (⟨(some 32), (.iadr 2 (.t 30) (.t 31)), (some (26, false))⟩, [20, 21, 16]), (⟨(some 33), (.fadr 0 (.t 32)), (some (26, false))⟩, [22, 16]), (⟨(some 34), (.load false 1 (.t 33)), (some (26, false))⟩, [23, 16]), (⟨(some 35), (.call (.c (.fn 204 [])) [(.t 29), (.t 34)]), (some (26, false))⟩, [19, 24, 16, 16]), (⟨(some 36), (.bin .geq (.t 35) (.c (.int .i64 0))), (some (26, false))⟩, [25, 16]), (⟨(some 37), (.pick (.t 26) (.c (.bool true)) (.t 36)), none⟩, [16, 26])]) (.cond (.t 37) (.seq (.reg [⟨(some 2), (.mov (.c (.bool false))), none⟩]) .ret) .skip))) (.reg [⟨(some 8), (.mov (.t 3)), none⟩, ⟨(some 9), (.bin .add (.t 8) (.c (.int .i64 1))), none⟩, ⟨(some 3), (.mov (.t 9)), none⟩])))))) (.seq (.reg [⟨(some 38), (.mov (.t 0)), none⟩, ⟨(some 39), (.lenl (.t 38)), none⟩, ⟨(some 40), (.bin .leq (.t 39) (.c (.int .i64 4))), none⟩, ⟨(some 2), (.mov (.t 40)), none⟩]) .ret)))⟩
theorem fit_spec_validBinds : Fit Tryz.prog 172 Tryz.f172 mf_spec_validBinds := ⟨by kernel_rfl, Tryz.func172, by kernel_rfl, by kernel_rfl, by kernel_rfl, by kernel_rfl⟩
theorem validBinds_ct (l : Sl Bind) : Ct Tryz.prog 172 [l.I Bind.C] (.bool (validBinds l.es)) := by
  refine ct_of_run fit_spec_validBinds (by simp [mf_spec_validBinds]) (by simp [go_sem]) fun hd => ?_
  simp -implicitDefEqProofs [-List.map_take, -List.map_drop, go_sem, mf_spec_validBinds]
  have hm : l.es.length ≤ maxLen := by simp [deepL, deepV, Sl.I] at hd; omega
  refine run_iter (l.es.length) (validBinds_L l) (fun i a => bindsOk (l.es.take i) (l.es.drop i) = bindsOk [] l.es) () (gh_auto (by simp [go_sem, validBinds_L])) (by first | (simp; done) | (simp [validBinds]; done) | (simp [validBinds]; omega) | grind) ?_
  intro i a hi hj
  simp -implicitDefEqProofs [-List.map_take, -List.map_drop, go_sem, validBinds_L]
  refine cnd_split (fun hc => ?_) (fun hc => ?_)
  · have hlt : i < l.es.length := by first | (simpa using hc) | (simp at hc; omega)
    rw [List.drop_eq_getElem_cons (l := l.es) (by omega)] at hj
    simp only [List.map_cons, bindsOk] at hj
    have hww : ∀ e, e ∈ l.sp → e.length = 2 := fun e he => wide_of_deep hd.1 _ (List.mem_map_of_mem (List.getElem_mem hlt)) (Bind.C_len _) e (.inr he)
    have hwsl := fun (σ : Heap) => slV_pre (σ := σ) (k := .i64) (f := Bind.C) (l := l.es) (lim := l.lim) (Nat.le_of_lt hlt) hww Bind.C_len
    rw [List.take_append_getElem hlt, ← bindAt_nn] at hj
    simp -implicitDefEqProofs [-List.map_take, -List.map_drop, go_sem, hlt, hww, hwsl]
    have d1 := fun a1 => isName_ct a1
    have d2 := fun a1 => typeOk_ct a1
    have d3 := fun a1 => bindAt_ct ⟨l.es.take i, (l.es.map Bind.C).drop i ++ l.sp, l.lim⟩ a1
    have hy := And.intro (hlt) (And.intro (hww) (hwsl))
    have e1 := @validBinds.eq_1
    have hdf := @e1
    have eL := @validBinds_L.eq_1
    have hm0 := hm
    have hlt0 := hlt
    exact wk1n
  · have hge : l.es.length ≤ i := by first | (simpa using hc) | (simp at hc; omega)
    rw [List.drop_of_length_le (l := l.es) (by omega)] at hj
    simp only [List.map_nil, bindsOk] at hj
    try simp -implicitDefEqProofs [-List.map_take, -List.map_drop, go_sem]
    have d1 := fun a1 => isName_ct a1
    have d2 := fun a1 => typeOk_ct a1
    have d3 := fun a1 => bindAt_ct ⟨l.es.take i, (l.es.map Bind.C).drop i ++ l.sp, l.lim⟩ a1
    have hy := hy0
    have e1 := @validBinds.eq_1
    have hdf := @e1
    exact wk1
def validDecl_L (d : LDecl) (i : Nat) (_ : Unit) : St := ⟨lk [(1, .ptr 0 1 0 0), (3, .int .i64 i)], [some ⟨[[.int .i64 d.kind, .str d.name, .imm (d.binds.es.map Bind.C) d.binds.sp d.binds.lim, .str d.type, .int .i64 d.body.kind, .int .i64 d.body.num, .str d.body.text, .imm (d.body.kids.map LExpr.C) d.body.sp d.body.lim]], 8, 72, false, false⟩], []⟩
theorem binds_deep {d : LDecl} (h : deepL d.C) : d.binds.es.length ≤ maxLen := by
  simp [LDecl.C, deepL, deepV] at h
  omega
def mf_spec_validDecl : MF := ⟨66, [(.t 2)], (.seq (.reg [⟨(some 1), (.box 72 (.t 0)), none⟩, ⟨(some 2), (.mov (.c (.bool false))), none⟩]) (.seq (.seq (.reg [⟨(some 6), (.fadr 1 (.t 1)), none⟩, ⟨(some 7), (.load false 1 (.t 6)), none⟩, ⟨(some 8), (.call (.c (.fn 85 [])) [(.t 7)]), none⟩, ⟨(some 9), (.not (.t 8)), none⟩, ⟨(some 10), (.mov (.t 9)), none⟩, ⟨(some 11), (.fadr 2 (.t 1)), (some (10, false))⟩, ⟨(some 12), (.load false 1 (.t 11)), (some (10, false))⟩, ⟨(some 13), (.call (.c (.fn 172 [])) [(.t 12)]), (some (10, false))⟩, ⟨(some 14), (.not (.t 13)), (some (10, false))⟩, ⟨(some 15), (.pick (.t 10) (.c (.bool true)) (.t 14)), none⟩]) (.cond (.t 15) (.seq (.reg [⟨(some 2), (.mov (.c (.bool false))), none⟩]) .ret) .skip)) (.seq (.seq (.reg [⟨(some 16), (.fadr 0 (.t 1)), none⟩, ⟨(some 17), (.load false 1 (.t 16)), none⟩, ⟨(some 18), (.bin .eql (.t 17) (.c (.int .i64 0))), none⟩]) (.cond (.t 18) (.seq (.reg [⟨(some 19), (.fadr 3 (.t 1)), none⟩, ⟨(some 20), (.load false 1 (.t 19)), none⟩, ⟨(some 21), (.call (.c (.fn 39 [])) [(.t 20)]), none⟩, ⟨(some 22), (.mov (.t 21)), none⟩, ⟨(some 23), (.fadr 4 (.t 1)), (some (22, true))⟩, ⟨(some 24), (.load true 4 (.t 23)), (some (22, true))⟩, ⟨(some 25), (.call (.c (.fn 99 [])) [(.t 24)]), (some (22, true))⟩, ⟨(some 26), (.pick (.t 22) (.t 25) (.c (.bool false))), none⟩, ⟨(some 2), (.mov (.t 26)), none⟩]) .ret) .skip)) (.seq (.seq (.reg [⟨(some 3), (.mov (.c (.int .i64 0))), none⟩]) (.blk 0 (.loop (.seq (.seq (.reg [⟨(some 27), (.mov (.t 3)), none⟩, ⟨(some 28), (.fadr 2 (.t 1)), none⟩, ⟨(some 29), (.load false 1 (.t 28)), none⟩, ⟨(some 30), (.lenl (.t 29)), none⟩, ⟨(some 31), (.bin .lss (.t 27) (.t 30)), none⟩]) (.cond (.t 31) .skip (.exit 0))) (.seq (.blk 1 (.seq (.reg [⟨(some 35), (.fadr 2 (.t 1)), none⟩, ⟨(some 36), (.load false 1 (.t 35)), none⟩, ⟨(some 37), (.mov (.t 3)), none⟩, ⟨(some 38), (.iadr 2 (.t 36) (.t 37)), none⟩, ⟨(some 39), (.fadr 1 (.t 38)), none⟩, ⟨(some 40), (.load false 1 (.t 39)), none⟩, ⟨(some 41), (.call (.c (.fn 83 [])) [(.t 40)]), none⟩, ⟨(some 34), (.mov (.t 41)), none⟩, ⟨(some 42), (.ext (.t 34) 0), none⟩, ⟨(some 43), (.ext (.t 34) 1), none⟩, ⟨(some 4), (.mov (.t 42)), none⟩, ⟨(some 5), (.mov (.t 43)), none⟩]) (.seq (.reg [⟨(some 44), (.mov (.t 4)), none⟩, ⟨(some 45), (.call (.c (.fn 84 [])) [(.t 44)]), none⟩, ⟨(some 46), (.not (.t 45)), none⟩]) (.cond (.t 46) (.seq (.reg [⟨(some 2), (.mov (.c (.bool false))), none⟩]) .ret) .skip)))) (.reg [⟨(some 32), (.mov (.t 3)), none⟩, ⟨(some 33), (.bin .add (.t 32) (.c (.int .i64 1))), none⟩, ⟨(some 3), (.mov (.t 33)), none⟩])))))) (.seq (.reg [⟨(some 47), (.fadr 0 (.t 1)), none⟩, ⟨(some 48), (.load false 1 (.t 47)), none⟩, ⟨(some 49), (.bin .eql (.t 48) (.c (.int .i64 1))), none⟩, ⟨(some 50), (.mov (.t 49)), none⟩, ⟨(some 51), (.fadr 2 (.t 1)), (some (50, true))⟩, ⟨(some 52), (.load false 1 (.t 51)), (some (50, true))⟩, ⟨(some 53), (.lenl (.t 52)), (some (50, true))⟩, ⟨(some 54), (.bin .gtr (.t 53) (.c (.int .i64 0))), (some (50, true))⟩, ⟨(some 55), (.pick (.t 50) (.t 54) (.c (.bool false))), none⟩, ⟨(some 56), (.mov (.t 55)), none⟩, ⟨(some 57), (.fadr 3 (.t 1)), (some (56, true))⟩, ⟨(some 58), (.load false 1 (.t 57)), (some (56, true))⟩, ⟨(some 59), (.seq false (.t 58) (.c (.str []))), (some (56, true))⟩, ⟨(some 60), (.pick (.t 56) (.t 59) (.c (.bool false))), none⟩, ⟨(some 61), (.mov (.t 60)), none⟩, ⟨(some 62), (.fadr 4 (.t 1)), (some (61, true))⟩, ⟨(some 63), (.load true 4 (.t 62)), (some (61, true))⟩, ⟨(some 64), (.call (.c (.fn 173 [])) [(.t 63)]), (some (61, true))⟩, ⟨(some 65), (.pick (.t 61) (.t 64) (.c (.bool false))), none⟩, ⟨(some 2), (.mov (.t 65)), none⟩]) .ret)))))⟩
theorem fit_spec_validDecl : Fit Tryz.prog 122 Tryz.f122 mf_spec_validDecl := ⟨by kernel_rfl, Tryz.func122, by kernel_rfl, by kernel_rfl, by kernel_rfl, by kernel_rfl⟩
theorem validDecl_ct (d : LDecl) (hs : d.body.core.Sm) : Ct Tryz.prog 122 [.agg d.C] (.bool (validDecl d.core)) := by
  refine ct_of_run fit_spec_validDecl (by simp [mf_spec_validDecl]) (by simp [go_sem]) fun hd => ?_
  simp -implicitDefEqProofs [-List.map_take, -List.map_drop, go_sem, mf_spec_validDecl]
  have hm : d.binds.es.length ≤ maxLen := binds_deep hd.1
  repeat' first
    | ((first | refine gv_split (fun h => ?_) (fun h => ?_) | refine cnd_split (fun h => ?_) (fun h => ?_) | refine cgv_split (fun h => ?_) (fun h => ?_)) <;> (try (have hp := h; simp at hp)) <;> simp -implicitDefEqProofs [-List.map_take, -List.map_drop, go_sem, h])
    | (refine And.intro (by first | omega | (simp only [maxLen]; omega) | (simp_all; done) | (simp_all; omega)) ?_; try simp -implicitDefEqProofs [-List.map_take, -List.map_drop, go_sem])
    | ((first | refine stp_ct (isName_ct _) (by simp [go_sem]) ?_ ?_ | refine cstp_ct (isName_ct _) (by simp [go_sem]) ?_ ?_ | refine stp_ct (validBinds_ct d.binds) (by simp [go_sem]) ?_ ?_ | refine cstp_ct (validBinds_ct d.binds) (by simp [go_sem]) ?_ ?_ | refine stp_ct (typeOk_ct _) (by simp [go_sem]) ?_ ?_ | refine cstp_ct (typeOk_ct _) (by simp [go_sem]) ?_ ?_ | refine stp_ct (exprOk_ct d.body hs) (by simp [go_sem]) ?_ ?_ | refine cstp_ct (exprOk_ct d.body hs) (by simp [go_sem]) ?_ ?_); (simp [go_sem]); simp -implicitDefEqProofs [-List.map_take, -List.map_drop, go_sem])
    | (refine run_dreg' (by decide) ?_; simp -implicitDefEqProofs [-List.map_take, -List.map_drop, go_sem])
    | ((first | refine end_tup _ (by simp) (by simp [go_sem]; rfl) (by simp [go_sem]) ?_); first | (simp [go_sem, *, validDecl, LDecl.core]; done) | grind [validDecl, LDecl.core] | (simp [go_sem, validDecl, LDecl.core]; grind [validDecl, LDecl.core]) | (simp_all [go_sem, validDecl, LDecl.core]; done) | (simp_all [go_sem, validDecl, LDecl.core]; omega))
  all_goals
    refine run_iter (d.binds.es.length) (validDecl_L d) (fun i a => plainBinds (d.binds.es.drop i) = plainBinds d.binds.es) () (gh_auto (by simp [go_sem, validDecl_L])) (by first | (simp; done) | (simp [validDecl, LDecl.core]; done) | (simp [validDecl, LDecl.core]; omega) | grind) ?_
    intro i a hi hj
    simp -implicitDefEqProofs [-List.map_take, -List.map_drop, go_sem, validDecl_L]
    refine cnd_split (fun hc => ?_) (fun hc => ?_)
    · have hlt : i < d.binds.es.length := by first | (simpa using hc) | (simp at hc; omega)
      rw [List.drop_eq_getElem_cons (l := d.binds.es) (by omega)] at hj
      simp only [List.map_cons, plainBinds] at hj
      simp -implicitDefEqProofs [-List.map_take, -List.map_drop, go_sem, hlt]
      have d1 := fun a1 => coreOf_ct a1
      have d2 := fun a1 => isPlain_ct a1
      have c1 := zeroExpr_ct d.body
      have hy := hlt
      have e1 := @validDecl.eq_1
      have e2 := @LDecl.core.eq_1
      have hdf := And.intro (@e1) (@e2)
      have eL := @validDecl_L.eq_1
      have hm0 := hm
      have hlt0 := hlt
      exact wk1n
    · have hge : d.binds.es.length ≤ i := by first | (simpa using hc) | (simp at hc; omega)
      rw [List.drop_of_length_le (l := d.binds.es) (by omega)] at hj
      simp only [List.map_nil, plainBinds] at hj
      try simp -implicitDefEqProofs [-List.map_take, -List.map_drop, go_sem]
      have d1 := fun a1 => coreOf_ct a1
      have d2 := fun a1 => isPlain_ct a1
      have c1 := zeroExpr_ct d.body
      have hy := hy0
      have e1 := @validDecl.eq_1
      have e2 := @LDecl.core.eq_1
      have hdf := And.intro (@e1) (@e2)
      exact wk1

theorem decls_deep {m : LModule} (h : deepL m.C) : m.decls.es.length ≤ maxLen := by
  simp [LModule.C, deepL, deepV] at h
  omega
theorem uses_deep {m : LModule} (h : deepL m.C) : m.uses.es.length ≤ maxLen := by
  simp [LModule.C, deepL, deepV] at h
  omega
theorem sl_deep {α : Type} {f : α → List PV} {l : Sl α} (h : deepV (l.I f)) : l.es.length ≤ maxLen := by
  simp [Sl.I, deepV] at h
  omega
def declAt_L (m : LModule) (name : Str) (i : Nat) (_ : Unit) : St := ⟨lk [(1, .str name), (2, .ptr 0 1 0 0), (5, .int .i64 i)], [some ⟨[[.str m.name, .imm (m.uses.es.map Use.C) m.uses.sp m.uses.lim, .imm (m.decls.es.map LDecl.C) m.decls.sp m.decls.lim]], 3, 61, false, false⟩], []⟩
def mf_spec_declAt : MF := ⟨22, [(.t 4)], (.seq (.reg [⟨(some 2), (.box 61 (.t 0)), none⟩, ⟨(some 4), (.mov (.c (.int .i64 0))), none⟩]) (.seq (.seq (.reg [⟨(some 5), (.mov (.c (.int .i64 0))), none⟩]) (.blk 0 (.loop (.seq (.seq (.reg [⟨(some 6), (.mov (.t 5)), none⟩, ⟨(some 7), (.fadr 2 (.t 2)), none⟩, ⟨(some 8), (.load false 1 (.t 7)), none⟩, ⟨(some 9), (.lenl (.t 8)), none⟩, ⟨(some 10), (.bin .lss (.t 6) (.t 9)), none⟩]) (.cond (.t 10) .skip (.exit 0))) (.seq (.blk 1 (.seq (.reg [⟨(some 13), (.fadr 2 (.t 2)), none⟩, ⟨(some 14), (.load false 1 (.t 13)), none⟩, ⟨(some 15), (.mov (.t 5)), none⟩, ⟨(some 16), (.iadr 8 (.t 14) (.t 15)), none⟩, ⟨(some 17), (.fadr 1 (.t 16)), none⟩, ⟨(some 18), (.load false 1 (.t 17)), none⟩, ⟨(some 19), (.mov (.t 1)), none⟩, ⟨(some 20), (.seq false (.t 18) (.t 19)), none⟩]) (.cond (.t 20) (.seq (.reg [⟨(some 21), (.mov (.t 5)), none⟩, ⟨(some 4), (.mov (.t 21)), none⟩]) .ret) .skip))) (.reg [⟨(some 11), (.mov (.t 5)), none⟩, ⟨(some 12), (.bin .add (.t 11) (.c (.int .i64 1))), none⟩, ⟨(some 5), (.mov (.t 12)), none⟩])))))) (.seq (.reg [⟨(some 4), (.mov (.c (.int .i64 (-1)))), none⟩]) .ret)))⟩
theorem fit_spec_declAt : Fit Tryz.prog 65 Tryz.f65 mf_spec_declAt := ⟨by kernel_rfl, Tryz.func65, by kernel_rfl, by kernel_rfl, by kernel_rfl, by kernel_rfl⟩
theorem declAt_ct (m : LModule) (name : Str) : Ct Tryz.prog 65 [.agg m.C, .str name] (.int .i64 (declAt m.core name)) := by
  refine ct_of_run fit_spec_declAt (by simp [mf_spec_declAt]) (by simp [go_sem]) fun hd => ?_
  simp -implicitDefEqProofs [-List.map_take, -List.map_drop, go_sem, mf_spec_declAt]
  have hm : m.decls.es.length ≤ maxLen := decls_deep hd.1
  refine run_iter (m.decls.es.length) (declAt_L m name) (fun i a => idxFrom (fun d => d.name == name) ((m.decls.es.drop i).map LDecl.core) i = declAt m.core name) () (gh_auto (by simp [go_sem, declAt_L])) (by first | (simp; done) | (simp [declAt]; done) | (simp [declAt]; omega) | grind) ?_
  intro i a hi hj
  simp -implicitDefEqProofs [-List.map_take, -List.map_drop, go_sem, declAt_L]
  refine cnd_split (fun hc => ?_) (fun hc => ?_)
  · have hlt : i < m.decls.es.length := by first | (simpa using hc) | (simp at hc; omega)
    rw [List.drop_eq_getElem_cons (l := m.decls.es) (by omega)] at hj
    simp only [List.map_cons, idxFrom, LDecl.core_name] at hj
    simp -implicitDefEqProofs [-List.map_take, -List.map_drop, go_sem, hlt]
    have hy := hlt
    have e1 := @declAt.eq_1
    have hdf := @e1
    have eL := @declAt_L.eq_1
    have hm0 := hm
    have hlt0 := hlt
    exact wk0n
  · have hge : m.decls.es.length ≤ i := by first | (simpa using hc) | (simp at hc; omega)
    rw [List.drop_of_length_le (l := m.decls.es) (by omega)] at hj
    simp only [List.map_nil, idxFrom, LDecl.core_name] at hj
    try simp -implicitDefEqProofs [-List.map_take, -List.map_drop, go_sem]
    have hy := hy0
    have e1 := @declAt.eq_1
    have hdf := @e1
    exact wk0
def mf_spec_useAt : MF := ⟨22, [(.t 4)], (.seq (.reg [⟨(some 2), (.box 61 (.t 0)), none⟩, ⟨(some 4), (.mov (.c (.int .i64 0))), none⟩]) (.seq (.seq (.reg [⟨(some 5), (.mov (.c (.int .i64 0))), none⟩]) (.blk 0 (.loop (.seq (.seq (.reg [⟨(some 6), (.mov (.t 5)), none⟩, ⟨(some 7), (.fadr 1 (.t 2)), none⟩, ⟨(some 8), (.load false 1 (.t 7)), none⟩, ⟨(some 9), (.lenl (.t 8)), none⟩, ⟨(some 10), (.bin .lss (.t 6) (.t 9)), none⟩]) (.cond (.t 10) .skip (.exit 0))) (.seq (.blk 1 (.seq (.reg [⟨(some 13), (.fadr 1 (.t 2)), none⟩, ⟨(some 14), (.load false 1 (.t 13)), none⟩, ⟨(some 15), (.mov (.t 5)), none⟩, ⟨(some 16), (.iadr 2 (.t 14) (.t 15)), none⟩, ⟨(some 17), (.fadr 1 (.t 16)), none⟩, ⟨(some 18), (.load false 1 (.t 17)), none⟩, ⟨(some 19), (.mov (.t 1)), none⟩, ⟨(some 20), (.seq false (.t 18) (.t 19)), none⟩]) (.cond (.t 20) (.seq (.reg [⟨(some 21), (.mov (.t 5)), none⟩, ⟨(some 4), (.mov (.t 21)), none⟩]) .ret) .skip))) (.reg [⟨(some 11), (.mov (.t 5)), none⟩, ⟨(some 12), (.bin .add (.t 11) (.c (.int .i64 1))), none⟩, ⟨(some 5), (.mov (.t 12)), none⟩])))))) (.seq (.reg [⟨(some 4), (.mov (.c (.int .i64 (-1)))), none⟩]) .ret)))⟩
theorem fit_spec_useAt : Fit Tryz.prog 123 Tryz.f123 mf_spec_useAt := ⟨by kernel_rfl, Tryz.func123, by kernel_rfl, by kernel_rfl, by kernel_rfl, by kernel_rfl⟩
theorem useAt_ct (m : LModule) (name : Str) : Ct Tryz.prog 123 [.agg m.C, .str name] (.int .i64 (useAt m.core name)) := by
  refine ct_of_run fit_spec_useAt (by simp [mf_spec_useAt]) (by simp [go_sem]) fun hd => ?_
  simp -implicitDefEqProofs [-List.map_take, -List.map_drop, go_sem, mf_spec_useAt]
  have hm : m.uses.es.length ≤ maxLen := uses_deep hd.1
  refine run_iter (m.uses.es.length) (declAt_L m name) (fun i a => idxFrom (fun d => d.name == name) (m.uses.es.drop i) i = useAt m.core name) () (gh_auto (by simp [go_sem, declAt_L])) (by first | (simp; done) | (simp [useAt]; done) | (simp [useAt]; omega) | grind) ?_
  intro i a hi hj
  simp -implicitDefEqProofs [-List.map_take, -List.map_drop, go_sem, declAt_L]
  refine cnd_split (fun hc => ?_) (fun hc => ?_)
  · have hlt : i < m.uses.es.length := by first | (simpa using hc) | (simp at hc; omega)
    rw [List.drop_eq_getElem_cons (l := m.uses.es) (by omega)] at hj
    simp only [List.map_cons, idxFrom] at hj
    simp -implicitDefEqProofs [-List.map_take, -List.map_drop, go_sem, hlt]
    have hy := hlt
    have e1 := @useAt.eq_1
    have hdf := @e1
    have eL := @declAt_L.eq_1
    have hm0 := hm
    have hlt0 := hlt
    exact wk0n
  · have hge : m.uses.es.length ≤ i := by first | (simpa using hc) | (simp at hc; omega)
    rw [List.drop_of_length_le (l := m.uses.es) (by omega)] at hj
    simp only [List.map_nil, idxFrom] at hj
    try simp -implicitDefEqProofs [-List.map_take, -List.map_drop, go_sem]
    have hy := hy0
    have e1 := @useAt.eq_1
    have hdf := @e1
    exact wk0
def moduleAt_L (p : Sl LModule) (name : Str) (i : Nat) (_ : Unit) : St := ⟨lk [(0, p.I LModule.C), (1, .str name), (5, .int .i64 i)], [], []⟩
def mf_spec_moduleAt : MF := ⟨20, [(.t 4)], (.seq (.reg [⟨(some 4), (.mov (.c (.int .i64 0))), none⟩]) (.seq (.seq (.reg [⟨(some 5), (.mov (.c (.int .i64 0))), none⟩]) (.blk 0 (.loop (.seq (.seq (.reg [⟨(some 6), (.mov (.t 5)), none⟩, ⟨(some 7), (.mov (.t 0)), none⟩, ⟨(some 8), (.lenl (.t 7)), none⟩, ⟨(some 9), (.bin .lss (.t 6) (.t 8)), none⟩]) (.cond (.t 9) .skip (.exit 0))) (.seq (.blk 1 (.seq (.reg [⟨(some 12), (.mov (.t 0)), none⟩, ⟨(some 13), (.mov (.t 5)), none⟩, ⟨(some 14), (.iadr 3 (.t 12) (.t 13)), none⟩, ⟨(some 15), (.fadr 0 (.t 14)), none⟩, ⟨(some 16), (.load false 1 (.t 15)), none⟩, ⟨(some 17), (.mov (.t 1)), none⟩, ⟨(some 18), (.seq false (.t 16) (.t 17)), none⟩]) (.cond (.t 18) (.seq (.reg [⟨(some 19), (.mov (.t 5)), none⟩, ⟨(some 4), (.mov (.t 19)), none⟩]) .ret) .skip))) (.reg [⟨(some 10), (.mov (.t 5)), none⟩, ⟨(some 11), (.bin .add (.t 10) (.c (.int .i64 1))), none⟩, ⟨(some 5), (.mov (.t 11)), none⟩])))))) (.seq (.reg [⟨(some 4), (.mov (.c (.int .i64 (-1)))), none⟩]) .ret)))⟩
theorem fit_spec_moduleAt : Fit Tryz.prog 51 Tryz.f51 mf_spec_moduleAt := ⟨by kernel_rfl, Tryz.func51, by kernel_rfl, by kernel_rfl, by kernel_rfl, by kernel_rfl⟩
theorem moduleAt_ct (p : Sl LModule) (name : Str) : Ct Tryz.prog 51 [p.I LModule.C, .str name] (.int .i64 (moduleAt (p.es.map LModule.core) name)) := by
  refine ct_of_run fit_spec_moduleAt (by simp [mf_spec_moduleAt]) (by simp [go_sem]) fun hd => ?_
  simp -implicitDefEqProofs [-List.map_take, -List.map_drop, go_sem, mf_spec_moduleAt]
  have hm : p.es.length ≤ maxLen := sl_deep hd.1
  refine run_iter (p.es.length) (moduleAt_L p name) (fun i a => idxFrom (fun d => d.name == name) ((p.es.drop i).map LModule.core) i = moduleAt (p.es.map LModule.core) name) () (gh_auto (by simp [go_sem, moduleAt_L])) (by first | (simp; done) | (simp [moduleAt]; done) | (simp [moduleAt]; omega) | grind) ?_
  intro i a hi hj
  simp -implicitDefEqProofs [-List.map_take, -List.map_drop, go_sem, moduleAt_L]
  refine cnd_split (fun hc => ?_) (fun hc => ?_)
  · have hlt : i < p.es.length := by first | (simpa using hc) | (simp at hc; omega)
    rw [List.drop_eq_getElem_cons (l := p.es) (by omega)] at hj
    simp only [List.map_cons, idxFrom, LModule.core_name] at hj
    simp -implicitDefEqProofs [-List.map_take, -List.map_drop, go_sem, hlt]
    have hy := hlt
    have e1 := @moduleAt.eq_1
    have hdf := @e1
    have eL := @moduleAt_L.eq_1
    have hm0 := hm
    have hlt0 := hlt
    exact wk0n
  · have hge : p.es.length ≤ i := by first | (simpa using hc) | (simp at hc; omega)
    rw [List.drop_of_length_le (l := p.es) (by omega)] at hj
    simp only [List.map_nil, idxFrom, LModule.core_name] at hj
    try simp -implicitDefEqProofs [-List.map_take, -List.map_drop, go_sem]
    have hy := hy0
    have e1 := @moduleAt.eq_1
    have hdf := @e1
    exact wk0
def sameBinds_L (x y : Sl Bind) (i : Nat) (_ : Unit) : St := ⟨lk [(0, x.I Bind.C), (1, y.I Bind.C), (5, .int .i64 i)], [], []⟩
def mf_spec_sameBinds : MF := ⟨26, [(.t 4)], (.seq (.reg [⟨(some 4), (.mov (.c (.bool false))), none⟩]) (.seq (.seq (.reg [⟨(some 6), (.mov (.t 0)), none⟩, ⟨(some 7), (.lenl (.t 6)), none⟩, ⟨(some 8), (.mov (.t 1)), none⟩, ⟨(some 9), (.lenl (.t 8)), none⟩, ⟨(some 10), (.bin .neq (.t 7) (.t 9)), none⟩]) (.cond (.t 10) (.seq (.reg [⟨(some 4), (.mov (.c (.bool false))), none⟩]) .ret) .skip)) (.seq (.seq (.reg [⟨(some 5), (.mov (.c (.int .i64 0))), none⟩]) (.blk 0 (.loop (.seq (.seq (.reg [⟨(some 11), (.mov (.t 5)), none⟩, ⟨(some 12), (.mov (.t 0)), none⟩, ⟨(some 13), (.lenl (.t 12)), none⟩, ⟨(some 14), (.bin .lss (.t 11) (.t 13)), none⟩]) (.cond (.t 14) .skip (.exit 0))) (.seq (.blk 1 (.seq (.dreg [(⟨(some 17), (.mov (.t 0)), none⟩, []), (⟨(some 18), (.mov (.t 5)), none⟩, []), (⟨(some 19), (.iadr 2 (.t 17) (.t 18)), none⟩, [0, 1]), (⟨(some 20), (.load true 2 (.t 19)), none⟩, [2]), (⟨(some 21), (.mov (.t 1)), none⟩, []), (⟨(some 22), (.mov (.t 5)), none⟩, []), (⟨(some 23), (.iadr 2 (.t 21) (.t 22)), none⟩, [4, 5]), (⟨(some 24), (.load true 2 (.t 23)), none⟩, [6]), (⟨(some 25), (.eqa true [.s, .s] (.t 20) (.t 24)), none⟩, [3, 7])]) (.cond (.t 25) (.seq (.reg [⟨(some 4), (.mov (.c (.bool false))), none⟩]) .ret) .skip))) (.reg [⟨(some 15), (.mov (.t 5)), none⟩, ⟨(some 16), (.bin .add (.t 15) (.c (.int .i64 1))), none⟩, ⟨(some 5), (.mov (.t 16)), none⟩])))))) (.seq (.reg [⟨(some 4), (.mov (.c (.bool true))), none⟩]) .ret))))⟩
theorem fit_spec_sameBinds : Fit Tryz.prog 125 Tryz.f125 mf_spec_sameBinds := ⟨by kernel_rfl, Tryz.func125, by kernel_rfl, by kernel_rfl, by kernel_rfl, by kernel_rfl⟩
theorem sameBinds_ct (x y : Sl Bind) : Ct Tryz.prog 125 [x.I Bind.C, y.I Bind.C] (.bool (all2 (· == ·) x.es y.es)) := by
  refine ct_of_run fit_spec_sameBinds (by simp [mf_spec_sameBinds]) (by simp [go_sem]) fun hd => ?_
  simp -implicitDefEqProofs [-List.map_take, -List.map_drop, go_sem, mf_spec_sameBinds]
  have hm : x.es.length ≤ maxLen := sl_deep hd.1
  have hne := all2_ne (· == ·) x.es y.es
  repeat' first
    | ((first | refine gv_split (fun h => ?_) (fun h => ?_) | refine cnd_split (fun h => ?_) (fun h => ?_) | refine cgv_split (fun h => ?_) (fun h => ?_)) <;> (try (have hp := h; simp at hp)) <;> simp -implicitDefEqProofs [-List.map_take, -List.map_drop, go_sem, h])
    | (refine And.intro (by first | omega | (simp only [maxLen]; omega) | (simp_all; done) | (simp_all; omega)) ?_; try simp -implicitDefEqProofs [-List.map_take, -List.map_drop, go_sem])
    | (refine run_dreg' (by decide) ?_; simp -implicitDefEqProofs [-List.map_take, -List.map_drop, go_sem])
    | ((first | refine end_tup _ (by simp) (by simp [go_sem]; rfl) (by simp [go_sem]) ?_); first | (simp [go_sem, *]; done) | grind | (simp [go_sem]; grind) | (simp_all [go_sem]; done) | (simp_all [go_sem]; omega))
  have hlen : x.es.length = y.es.length := by omega
  refine run_iter (x.es.length) (sameBinds_L x y) (fun i a => all2 (· == ·) (x.es.drop i) (y.es.drop i) = all2 (· == ·) x.es y.es) () (gh_auto (by simp [go_sem, sameBinds_L])) (by first | (simp; done) | (simp []; done) | (simp []; omega) | grind) ?_
  intro i a hi hj
  simp -implicitDefEqProofs [-List.map_take, -List.map_drop, go_sem, sameBinds_L]
  refine cnd_split (fun hc => ?_) (fun hc => ?_)
  · have hlt : i < x.es.length := by first | (simpa using hc) | (simp at hc; omega)
    rw [List.drop_eq_getElem_cons (l := x.es) (by omega)] at hj
    have hlt_1 : i < y.es.length := by omega
    rw [List.drop_eq_getElem_cons (l := y.es) (by omega)] at hj
    simp only [List.map_cons, all2] at hj
    simp -implicitDefEqProofs [-List.map_take, -List.map_drop, go_sem, hlt, hlt_1]
    have hy := And.intro (hlt) (hlt_1)
    have hdf := hy0
    have eL := @sameBinds_L.eq_1
    have hm0 := hm
    have hlt0 := hlt
    exact wk0n
  · have hge : x.es.length ≤ i := by first | (simpa using hc) | (simp at hc; omega)
    rw [List.drop_of_length_le (l := x.es) (by omega)] at hj
    rw [List.drop_of_length_le (l := y.es) (by omega)] at hj
    simp only [List.map_nil, all2] at hj
    try simp -implicitDefEqProofs [-List.map_take, -List.map_drop, go_sem]
    have hy := hy0
    have hdf := hy0
    exact wk0
def sameModule_L (x y : LModule) (t : Nat) (i : Nat) (_ : Unit) : St := ⟨lk [(2, .ptr 0 1 0 0), (3, .ptr 1 1 0 0), (t, .int .i64 i)], [some ⟨[[.str x.name, .imm (x.uses.es.map Use.C) x.uses.sp x.uses.lim, .imm (x.decls.es.map LDecl.C) x.decls.sp x.decls.lim]], 3, 61, false, false⟩, some ⟨[[.str y.name, .imm (y.uses.es.map Use.C) y.uses.sp y.uses.lim, .imm (y.decls.es.map LDecl.C) y.decls.sp y.decls.lim]], 3, 61, false, false⟩], []⟩
def sameP_L (x y : Sl LModule) (i : Nat) (_ : Unit) : St := ⟨lk [(0, x.I LModule.C), (1, y.I LModule.C), (5, .int .i64 i)], [], []⟩
end Go.Mach
