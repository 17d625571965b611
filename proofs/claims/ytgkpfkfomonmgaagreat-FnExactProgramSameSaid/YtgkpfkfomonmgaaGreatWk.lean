import Derived.Test.YtgkpfkfomonmgaaGreatWc
import Derived.Test.YtgkpfkfomonmgaaGreatDb
import Derived.Test.YtgkpfkfomonmgaaGreatMh
/- The laws' arguments, laid anew: walked. -/
set_option maxHeartbeats 4000000
namespace Go.Mach
open Go Go.Proofs
set_option linter.unusedVariables false
set_option linter.unusedSimpArgs false
attribute [local go_sem] run_seq run_skip run_reg run_blk run_exit run_ret run_cond cnd_true cnd_false kx_seq_normal kx_seq_exit kx_seq_ret kx_blk_normal kx_blk_same kx_blk_other kx_blk_ret kx_loop_exit kx_loop_ret kx_done ops_nil ops_plain ops_grd gv_tt gv_ff gv_tf gv_ft gv_tup stp_ok stp_ob stp_hp stp_bad stp_if get_t get_c putO_some putO_none put_same put_ne put_σ put_base withσ_τ withσ_σ withσ_base withσ_put withσ_withσ mk_τ mk_σ mk_base mk_withσ entry_τ entry_σ entry_base calm_nil calm_plain calm_grd cgv_tt cgv_ff cgv_tf cgv_ft cgv_tup cstp_ok cstp_ob cstp_if
attribute [local irreducible] Ct Co Cs
attribute [local go_sem] evalOp notV negV pickV binV intB seqV beqV catV lensV lenlV boxV_eq newV cellsOf cellV fadrV fldV fldC loadV loadC_ag loadC_one plainV isOwn iadrV storeV lk bdV bdL renO renL renV pureV pureL noOwnV noOwnL idxV slsV optI extV resL resV ret1 mmV cnviV cnvsV nilcV eqnV bslV bslGo appV elems okE appE getD_map okO_none okO_some strC intC Sl.I
attribute [local simp] Bind.eqa Use.eqa loadC_str loadC_int Bind.C_len Bind.C_pure Bind.C_noOwn Bind.C_cell Bind.C_bd Bind.C_bdL Bind.C_ren Bind.C_any Bind.C_any0 Bind.C_any1 Bind.C_anyt Bind.C_take Bind.C_load Bind.C_load0 Bind.C_load1 Bind.C_fld Bind.C_box Bind.C_fold Use.C_len Use.C_pure Use.C_noOwn Use.C_cell Use.C_bd Use.C_bdL Use.C_ren Use.C_any Use.C_any0 Use.C_any1 Use.C_anyt Use.C_take Use.C_load Use.C_load0 Use.C_load1 Use.C_fld Use.C_box Use.C_fold LExpr.C_len LExpr.C_pure LExpr.C_noOwn LExpr.C_cell LExpr.C_bd LExpr.C_bdL LExpr.C_ren LExpr.C_any LExpr.C_any0 LExpr.C_any1 LExpr.C_anyt LExpr.C_take LExpr.C_load LExpr.C_load0 LExpr.C_load1 LExpr.C_fld LExpr.C_box LExpr.C_fold LDecl.C_len LDecl.C_pure LDecl.C_noOwn LDecl.C_cell LDecl.C_bd LDecl.C_bdL LDecl.C_ren LDecl.C_any LDecl.C_any0 LDecl.C_any1 LDecl.C_anyt LDecl.C_take LDecl.C_load LDecl.C_load0 LDecl.C_load1 LDecl.C_fld LDecl.C_box LDecl.C_fold LModule.C_len LModule.C_pure LModule.C_noOwn LModule.C_cell LModule.C_bd LModule.C_bdL LModule.C_ren LModule.C_any LModule.C_any0 LModule.C_any1 LModule.C_anyt LModule.C_take LModule.C_load LModule.C_load0 LModule.C_load1 LModule.C_fld LModule.C_box LModule.C_fold

attribute [local go_sem] buildV fillC mksV slV
def mf_laws_roomBehind : MF := ⟨10, [(.t 2)], (.seq (.reg [⟨(some 2), (.mov (.c (.int .i64 0))), none⟩]) (.seq (.seq (.reg [⟨(some 3), (.mov (.t 0)), none⟩, ⟨(some 4), (.bin .rem (.t 3) (.c (.int .i64 6))), none⟩, ⟨(some 5), (.bin .eql (.t 4) (.c (.int .i64 5))), none⟩]) (.cond (.t 5) (.seq (.reg [⟨(some 2), (.mov (.c (.int .i64 0))), none⟩]) .ret) .skip)) (.seq (.seq (.reg [⟨(some 6), (.mov (.t 0)), none⟩, ⟨(some 7), (.bin .rem (.t 6) (.c (.int .i64 3))), none⟩, ⟨(some 8), (.bin .eql (.t 7) (.c (.int .i64 0))), none⟩]) (.cond (.t 8) (.seq (.reg [⟨(some 2), (.mov (.c (.int .i64 1))), none⟩]) .ret) .skip)) (.seq (.reg [⟨(some 9), (.mov (.t 0)), none⟩, ⟨(some 2), (.mov (.t 9)), none⟩]) .ret))))⟩
theorem fit_laws_roomBehind : Fit Tryz.prog 47 Tryz.f47 mf_laws_roomBehind := ⟨by kernel_rfl, Tryz.func47, by kernel_rfl, by kernel_rfl, by kernel_rfl, by kernel_rfl⟩
theorem room_ct (n : Nat) : Ct Tryz.prog 47 [.int .i64 n] (.int .i64 (room n)) := by
  refine ct_of_run fit_laws_roomBehind (by simp [mf_laws_roomBehind]) (by simp [go_sem]) fun hd => ?_
  simp -implicitDefEqProofs [-List.map_take, -List.map_drop, go_sem, mf_laws_roomBehind]
  have hw6 : (n : Int).tmod 6 = ((n % 6 : Nat) : Int) := rfl
  have hw3 : (n : Int).tmod 3 = ((n % 3 : Nat) : Int) := rfl
  simp -implicitDefEqProofs [-List.map_take, -List.map_drop, go_sem, hw6]
  repeat' first
    | ((first | refine gv_split (fun h => ?_) (fun h => ?_) | refine cnd_split (fun h => ?_) (fun h => ?_) | refine cgv_split (fun h => ?_) (fun h => ?_)) <;> (try (have hp := h; simp at hp)) <;> simp -implicitDefEqProofs [-List.map_take, -List.map_drop, go_sem, h, hw3])
    | (refine And.intro (by first | omega | (simp only [maxLen]; omega) | (simp_all; done) | (simp_all; omega)) ?_; try simp -implicitDefEqProofs [-List.map_take, -List.map_drop, go_sem, hw3])
    | (refine run_dreg' (by decide) ?_; simp -implicitDefEqProofs [-List.map_take, -List.map_drop, go_sem, hw3])
    | ((first | refine end_tup _ (by simp) (by simp [go_sem]; rfl) (by simp [go_sem]) ?_); first | (simp [go_sem, *, room]; done) | grind [room] | (simp [go_sem, room]; grind [room]) | (simp_all [go_sem, room]; done) | (simp_all [go_sem, room]; omega))
def mf_laws_fillerUse : MF := ⟨2, [(.cell 0 2 true)], (.seq (.reg [⟨(some 0), (.alloc 101 [(.str []), (.str [])]), none⟩]) (.seq (.reg [⟨(some 1), (.build [(.str []), (.str [])] [(0, (1, (.c (.str [126, 115, 112, 97, 114, 101, 126])))), (1, (1, (.c (.str [126, 115, 112, 97, 114, 101, 126]))))]), none⟩, ⟨none, (.store 2 (.t 0) (.t 1)), none⟩]) .ret))⟩
theorem fit_laws_fillerUse : Fit Tryz.prog 125 Tryz.f125 mf_laws_fillerUse := ⟨by kernel_rfl, Tryz.func125, by kernel_rfl, by kernel_rfl, by kernel_rfl, by kernel_rfl⟩
theorem fillUse_ct : Ct Tryz.prog 125 [] (.agg fillUse.C) := by
  refine ct_of_run fit_laws_fillerUse (by simp [mf_laws_fillerUse]) (by simp [go_sem]) fun hd => ?_
  simp -implicitDefEqProofs [-List.map_take, -List.map_drop, go_sem, mf_laws_fillerUse]
  repeat' first
    | ((first | refine gv_split (fun h => ?_) (fun h => ?_) | refine cnd_split (fun h => ?_) (fun h => ?_) | refine cgv_split (fun h => ?_) (fun h => ?_)) <;> (try (have hp := h; simp at hp)) <;> simp -implicitDefEqProofs [-List.map_take, -List.map_drop, go_sem, h])
    | (refine And.intro (by first | omega | (simp only [maxLen]; omega) | (simp_all; done) | (simp_all; omega)) ?_; try simp -implicitDefEqProofs [-List.map_take, -List.map_drop, go_sem])
    | (refine run_dreg' (by decide) ?_; simp -implicitDefEqProofs [-List.map_take, -List.map_drop, go_sem])
    | ((first | refine end_tup _ (by simp) (by simp [go_sem]; rfl) (by simp [go_sem]) ?_); first | (simp [go_sem, *, fillUse, Use.C, spareS]; done) | grind [fillUse, Use.C, spareS] | (simp [go_sem, fillUse, Use.C, spareS]; grind [fillUse, Use.C, spareS]) | (simp_all [go_sem, fillUse, Use.C, spareS]; done) | (simp_all [go_sem, fillUse, Use.C, spareS]; omega))
def mf_laws_fillerBind : MF := ⟨2, [(.cell 0 2 true)], (.seq (.reg [⟨(some 0), (.alloc 152 [(.str []), (.str [])]), none⟩]) (.seq (.reg [⟨(some 1), (.build [(.str []), (.str [])] [(0, (1, (.c (.str [126, 115, 112, 97, 114, 101, 126])))), (1, (1, (.c (.str [126, 115, 112, 97, 114, 101, 126]))))]), none⟩, ⟨none, (.store 2 (.t 0) (.t 1)), none⟩]) .ret))⟩
theorem fit_laws_fillerBind : Fit Tryz.prog 209 Tryz.f209 mf_laws_fillerBind := ⟨by kernel_rfl, Tryz.func209, by kernel_rfl, by kernel_rfl, by kernel_rfl, by kernel_rfl⟩
theorem fillBind_ct : Ct Tryz.prog 209 [] (.agg fillBind.C) := by
  refine ct_of_run fit_laws_fillerBind (by simp [mf_laws_fillerBind]) (by simp [go_sem]) fun hd => ?_
  simp -implicitDefEqProofs [-List.map_take, -List.map_drop, go_sem, mf_laws_fillerBind]
  repeat' first
    | ((first | refine gv_split (fun h => ?_) (fun h => ?_) | refine cnd_split (fun h => ?_) (fun h => ?_) | refine cgv_split (fun h => ?_) (fun h => ?_)) <;> (try (have hp := h; simp at hp)) <;> simp -implicitDefEqProofs [-List.map_take, -List.map_drop, go_sem, h])
    | (refine And.intro (by first | omega | (simp only [maxLen]; omega) | (simp_all; done) | (simp_all; omega)) ?_; try simp -implicitDefEqProofs [-List.map_take, -List.map_drop, go_sem])
    | (refine run_dreg' (by decide) ?_; simp -implicitDefEqProofs [-List.map_take, -List.map_drop, go_sem])
    | ((first | refine end_tup _ (by simp) (by simp [go_sem]; rfl) (by simp [go_sem]) ?_); first | (simp [go_sem, *, fillBind, Bind.C, spareS]; done) | grind [fillBind, Bind.C, spareS] | (simp [go_sem, fillBind, Bind.C, spareS]; grind [fillBind, Bind.C, spareS]) | (simp_all [go_sem, fillBind, Bind.C, spareS]; done) | (simp_all [go_sem, fillBind, Bind.C, spareS]; omega))
def mf_laws_fillerExpr : MF := ⟨3, [(.cell 0 4 true)], (.seq (.reg [⟨(some 0), (.alloc 31 [(.int .i64 0), (.int .i64 0), (.str []), (.imm [] [] true)]), none⟩]) (.seq (.reg [⟨(some 1), (.bsl 31 4 0 [(.int .i64 0), (.int .i64 0), (.str []), (.imm [] [] true)] []), none⟩, ⟨(some 2), (.build [(.int .i64 0), (.int .i64 0), (.str []), (.imm [] [] true)] [(0, (1, (.c (.int .i64 (-7000000000000000101))))), (1, (1, (.c (.int .i64 (-7000000000000000101))))), (2, (1, (.c (.str [126, 115, 112, 97, 114, 101, 126])))), (3, (1, (.t 1)))]), none⟩, ⟨none, (.store 4 (.t 0) (.t 2)), none⟩]) .ret))⟩
theorem fit_laws_fillerExpr : Fit Tryz.prog 210 Tryz.f210 mf_laws_fillerExpr := ⟨by kernel_rfl, Tryz.func210, by kernel_rfl, by kernel_rfl, by kernel_rfl, by kernel_rfl⟩
theorem fillExpr_ct : Ct Tryz.prog 210 [] (.agg fillExpr.C) := by
  refine ct_of_run fit_laws_fillerExpr (by simp [mf_laws_fillerExpr]) (by simp [go_sem]) fun hd => ?_
  simp -implicitDefEqProofs [-List.map_take, -List.map_drop, go_sem, mf_laws_fillerExpr]
  refine end_snapG 3 _ _ (by simp) (by simp [go_sem]; rfl) (by simp [go_sem, snapV, mapO, snapE, snapSp]; rfl) ?_
  rfl
def mf_laws_toUse : MF := ⟨11, [(.cell 2 2 true)], (.seq (.reg [⟨(some 1), (.box 178 (.t 0)), none⟩, ⟨(some 2), (.alloc 101 [(.str []), (.str [])]), none⟩]) (.seq (.reg [⟨(some 3), (.alloc 101 [(.str []), (.str [])]), none⟩]) (.seq (.reg [⟨(some 4), (.fadr 0 (.t 1)), none⟩, ⟨(some 5), (.load false 1 (.t 4)), none⟩, ⟨(some 6), (.fadr 0 (.t 3)), none⟩, ⟨none, (.store 1 (.t 6) (.t 5)), none⟩]) (.seq (.reg [⟨(some 7), (.fadr 1 (.t 1)), none⟩, ⟨(some 8), (.load false 1 (.t 7)), none⟩, ⟨(some 9), (.fadr 1 (.t 3)), none⟩, ⟨none, (.store 1 (.t 9) (.t 8)), none⟩]) (.seq (.reg [⟨(some 10), (.load true 2 (.t 3)), none⟩, ⟨none, (.store 2 (.t 2) (.t 10)), none⟩]) .ret)))))⟩
theorem fit_laws_toUse : Fit Tryz.prog 207 Tryz.f207 mf_laws_toUse := ⟨by kernel_rfl, Tryz.func207, by kernel_rfl, by kernel_rfl, by kernel_rfl, by kernel_rfl⟩
theorem toUse_ct (u : Use) : Ct Tryz.prog 207 [.agg u.C] (.agg u.C) := by
  refine ct_of_run fit_laws_toUse (by simp [mf_laws_toUse]) (by simp [go_sem]) fun hd => ?_
  simp -implicitDefEqProofs [-List.map_take, -List.map_drop, go_sem, mf_laws_toUse]
  repeat' first
    | ((first | refine gv_split (fun h => ?_) (fun h => ?_) | refine cnd_split (fun h => ?_) (fun h => ?_) | refine cgv_split (fun h => ?_) (fun h => ?_)) <;> (try (have hp := h; simp at hp)) <;> simp -implicitDefEqProofs [-List.map_take, -List.map_drop, go_sem, h])
    | (refine And.intro (by first | omega | (simp only [maxLen]; omega) | (simp_all; done) | (simp_all; omega)) ?_; try simp -implicitDefEqProofs [-List.map_take, -List.map_drop, go_sem])
    | (refine run_dreg' (by decide) ?_; simp -implicitDefEqProofs [-List.map_take, -List.map_drop, go_sem])
    | ((first | refine end_tup _ (by simp) (by simp [go_sem]; rfl) (by simp [go_sem]) ?_); first | (simp [go_sem, *, Use.C]; done) | grind [Use.C] | (simp [go_sem, Use.C]; grind [Use.C]) | (simp_all [go_sem, Use.C]; done) | (simp_all [go_sem, Use.C]; omega))
def mf_laws_toBind : MF := ⟨11, [(.cell 2 2 true)], (.seq (.reg [⟨(some 1), (.box 238 (.t 0)), none⟩, ⟨(some 2), (.alloc 152 [(.str []), (.str [])]), none⟩]) (.seq (.reg [⟨(some 3), (.alloc 152 [(.str []), (.str [])]), none⟩]) (.seq (.reg [⟨(some 4), (.fadr 0 (.t 1)), none⟩, ⟨(some 5), (.load false 1 (.t 4)), none⟩, ⟨(some 6), (.fadr 0 (.t 3)), none⟩, ⟨none, (.store 1 (.t 6) (.t 5)), none⟩]) (.seq (.reg [⟨(some 7), (.fadr 1 (.t 1)), none⟩, ⟨(some 8), (.load false 1 (.t 7)), none⟩, ⟨(some 9), (.fadr 1 (.t 3)), none⟩, ⟨none, (.store 1 (.t 9) (.t 8)), none⟩]) (.seq (.reg [⟨(some 10), (.load true 2 (.t 3)), none⟩, ⟨none, (.store 2 (.t 2) (.t 10)), none⟩]) .ret)))))⟩
theorem fit_laws_toBind : Fit Tryz.prog 294 Tryz.f294 mf_laws_toBind := ⟨by kernel_rfl, Tryz.func294, by kernel_rfl, by kernel_rfl, by kernel_rfl, by kernel_rfl⟩
theorem toBind_ct (u : Bind) : Ct Tryz.prog 294 [.agg u.C] (.agg u.C) := by
  refine ct_of_run fit_laws_toBind (by simp [mf_laws_toBind]) (by simp [go_sem]) fun hd => ?_
  simp -implicitDefEqProofs [-List.map_take, -List.map_drop, go_sem, mf_laws_toBind]
  repeat' first
    | ((first | refine gv_split (fun h => ?_) (fun h => ?_) | refine cnd_split (fun h => ?_) (fun h => ?_) | refine cgv_split (fun h => ?_) (fun h => ?_)) <;> (try (have hp := h; simp at hp)) <;> simp -implicitDefEqProofs [-List.map_take, -List.map_drop, go_sem, h])
    | (refine And.intro (by first | omega | (simp only [maxLen]; omega) | (simp_all; done) | (simp_all; omega)) ?_; try simp -implicitDefEqProofs [-List.map_take, -List.map_drop, go_sem])
    | (refine run_dreg' (by decide) ?_; simp -implicitDefEqProofs [-List.map_take, -List.map_drop, go_sem])
    | ((first | refine end_tup _ (by simp) (by simp [go_sem]; rfl) (by simp [go_sem]) ?_); first | (simp [go_sem, *, Bind.C]; done) | grind [Bind.C] | (simp [go_sem, Bind.C]; grind [Bind.C]) | (simp_all [go_sem, Bind.C]; done) | (simp_all [go_sem, Bind.C]; omega))
end Go.Mach
