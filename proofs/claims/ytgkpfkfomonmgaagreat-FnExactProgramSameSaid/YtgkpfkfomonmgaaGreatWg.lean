import Derived.Test.YtgkpfkfomonmgaaGreatWf
import Derived.Test.YtgkpfkfomonmgaaGreatWe
import Derived.Test.YtgkpfkfomonmgaaGreatMh
import Derived.Test.YtgkpfkfomonmgaaGreatDa
/- The program's own functions, walked: modules, declarations. -/
set_option maxHeartbeats 4000000
namespace Go.Mach
open Go Go.Proofs
set_option linter.unusedVariables false
set_option linter.unusedSimpArgs false
attribute [local go_sem] run_seq run_skip run_reg run_blk run_exit run_ret run_cond cnd_true cnd_false kx_seq_normal kx_seq_exit kx_seq_ret kx_blk_normal kx_blk_same kx_blk_other kx_blk_ret kx_loop_exit kx_loop_ret kx_done ops_nil ops_plain ops_grd gv_tt gv_ff gv_tf gv_ft gv_tup stp_ok stp_ob stp_hp stp_bad stp_if get_t get_c putO_some putO_none put_same put_ne put_σ put_base withσ_τ withσ_σ withσ_base withσ_put withσ_withσ mk_τ mk_σ mk_base mk_withσ entry_τ entry_σ entry_base calm_nil calm_plain calm_grd cgv_tt cgv_ff cgv_tf cgv_ft cgv_tup cstp_ok cstp_ob cstp_if
attribute [local irreducible] Ct Co Cs
attribute [local go_sem] evalOp notV negV pickV binV intB seqV beqV catV lensV lenlV boxV_eq newV cellsOf cellV fadrV fldV fldC loadV loadC_ag loadC_one plainV isOwn iadrV storeV lk bdV bdL renO renL renV pureV pureL noOwnV noOwnL idxV slsV optI extV resL resV ret1 mmV cnviV cnvsV nilcV eqnV bslV bslGo appV elems okE appE getD_map okO_none okO_some strC intC Sl.I
attribute [local simp] Bind.eqa Use.eqa loadC_str loadC_int Bind.C_len Bind.C_pure Bind.C_noOwn Bind.C_cell Bind.C_bd Bind.C_bdL Bind.C_ren Bind.C_any Bind.C_any0 Bind.C_any1 Bind.C_anyt Bind.C_take Bind.C_load Bind.C_load0 Bind.C_load1 Bind.C_fld Bind.C_box Bind.C_fold Use.C_len Use.C_pure Use.C_noOwn Use.C_cell Use.C_bd Use.C_bdL Use.C_ren Use.C_any Use.C_any0 Use.C_any1 Use.C_anyt Use.C_take Use.C_load Use.C_load0 Use.C_load1 Use.C_fld Use.C_box Use.C_fold LExpr.C_len LExpr.C_pure LExpr.C_noOwn LExpr.C_cell LExpr.C_bd LExpr.C_bdL LExpr.C_ren LExpr.C_any LExpr.C_any0 LExpr.C_any1 LExpr.C_anyt LExpr.C_take LExpr.C_load LExpr.C_load0 LExpr.C_load1 LExpr.C_fld LExpr.C_box LExpr.C_fold LDecl.C_len LDecl.C_pure LDecl.C_noOwn LDecl.C_cell LDecl.C_bd LDecl.C_bdL LDecl.C_ren LDecl.C_any LDecl.C_any0 LDecl.C_any1 LDecl.C_anyt LDecl.C_take LDecl.C_load LDecl.C_load0 LDecl.C_load1 LDecl.C_fld LDecl.C_box LDecl.C_fold LModule.C_len LModule.C_pure LModule.C_noOwn LModule.C_cell LModule.C_bd LModule.C_bdL LModule.C_ren LModule.C_any LModule.C_any0 LModule.C_any1 LModule.C_anyt LModule.C_take LModule.C_load LModule.C_load0 LModule.C_load1 LModule.C_fld LModule.C_box LModule.C_fold

theorem idxFrom_map {α β : Type} (f : α → β) (p : β → Bool) : ∀ (l : List α) (i : Nat), idxFrom p (l.map f) i = idxFrom (fun x => p (f x)) l i
  | [], _ => rfl
  | x :: xs, i => by simp [idxFrom, idxFrom_map f p xs (i + 1)]
theorem all2_map {α β : Type} (f : α → β) (p : β → β → Bool) : ∀ (xs ys : List α), all2 (fun a b => p (f a) (f b)) xs ys = all2 p (xs.map f) (ys.map f)
  | [], [] => rfl
  | [], _ :: _ => rfl
  | _ :: _, [] => rfl
  | x :: xs, y :: ys => by simp [all2, all2_map f p xs ys]
def mf_impl_place_1 : MF := ⟨8, [(.t 3)], (.seq (.reg [⟨(some 2), (.box 43 (.t 0)), none⟩, ⟨(some 3), (.mov (.c (.bool false))), none⟩]) (.seq (.reg [⟨(some 4), (.fadr 0 (.t 2)), none⟩, ⟨(some 5), (.load false 1 (.t 4)), none⟩, ⟨(some 6), (.load false 1 (.t 1)), none⟩, ⟨(some 7), (.seq false (.t 5) (.t 6)), none⟩, ⟨(some 3), (.mov (.t 7)), none⟩]) .ret))⟩
theorem fit_impl_place_1 : Fit Tryz.prog 166 Tryz.f166 mf_impl_place_1 := ⟨by kernel_rfl, Tryz.func166, by kernel_rfl, by kernel_rfl, by kernel_rfl, by kernel_rfl⟩
theorem place1_ct (m : LModule) (name : Str) : Ct Tryz.prog 166 ([.agg m.C] ++ [.iptr [.str name]]) (.bool (m.name == name)) := by
  refine ct_of_run fit_impl_place_1 (by simp [mf_impl_place_1]) (by simp [go_sem]) fun hd => ?_
  simp -implicitDefEqProofs [-List.map_take, -List.map_drop, go_sem, mf_impl_place_1]
  repeat' first
    | ((first | refine gv_split (fun h => ?_) (fun h => ?_) | refine cnd_split (fun h => ?_) (fun h => ?_) | refine cgv_split (fun h => ?_) (fun h => ?_)) <;> (try (have hp := h; simp at hp)) <;> simp -implicitDefEqProofs [-List.map_take, -List.map_drop, go_sem, h])
    | (refine And.intro (by first | omega | (simp only [maxLen]; omega) | (simp_all; done) | (simp_all; omega)) ?_; try simp -implicitDefEqProofs [-List.map_take, -List.map_drop, go_sem])
    | (refine run_dreg' (by decide) ?_; simp -implicitDefEqProofs [-List.map_take, -List.map_drop, go_sem])
    | ((first | refine end_tup _ (by simp) (by simp [go_sem]; rfl) (by simp [go_sem]) ?_); first | (simp [go_sem, *]; done) | grind | (simp [go_sem]; grind) | (simp_all [go_sem]; done) | (simp_all [go_sem]; omega))
def mf_impl_place : MF := ⟨8, [(.t 4)], (.seq (.reg [⟨(some 3), (.box 9 (.t 1)), none⟩, ⟨(some 4), (.mov (.c (.int .i64 0))), none⟩]) (.seq (.reg [⟨(some 5), (.mov (.t 0)), none⟩, ⟨(some 6), (.mkf 166 [(.t 3)]), none⟩, ⟨(some 7), (.call (.c (.fn 165 [])) [(.t 5), (.t 6)]), none⟩, ⟨(some 4), (.mov (.t 7)), none⟩]) .ret))⟩
theorem fit_impl_place : Fit Tryz.prog 80 Tryz.f80 mf_impl_place := ⟨by kernel_rfl, Tryz.func80, by kernel_rfl, by kernel_rfl, by kernel_rfl, by kernel_rfl⟩
theorem place_ct (p : Sl LModule) (name : Str) : Ct Tryz.prog 80 [p.I LModule.C, .str name] (.int .i64 (moduleAt (p.es.map LModule.core) name)) := by
  have h1 := idxF_Module_ct p 166 [.iptr [.str name]] rfl (fun m => m.name == name) (fun m _ => place1_ct m name)
  refine ct_of_run fit_impl_place (by simp [mf_impl_place]) (by simp [go_sem]) fun hd => ?_
  simp -implicitDefEqProofs [-List.map_take, -List.map_drop, go_sem, mf_impl_place]
  repeat' first
    | ((first | refine gv_split (fun h => ?_) (fun h => ?_) | refine cnd_split (fun h => ?_) (fun h => ?_) | refine cgv_split (fun h => ?_) (fun h => ?_)) <;> (try (have hp := h; simp at hp)) <;> simp -implicitDefEqProofs [-List.map_take, -List.map_drop, go_sem, h])
    | (refine And.intro (by first | omega | (simp only [maxLen]; omega) | (simp_all; done) | (simp_all; omega)) ?_; try simp -implicitDefEqProofs [-List.map_take, -List.map_drop, go_sem])
    | ((first | refine cstp_snap 3 (h1) (by simp [go_sem, snapL, snapV, snapE, snapSp, mapO, frzV]) ?_ ?_ ?_ | refine stp_snap 3 (h1) (by simp [go_sem, snapL, snapV, snapE, snapSp, mapO, frzV]) ?_ ?_ ?_); (simp [closedV]); (simp [go_sem]); simp -implicitDefEqProofs [-List.map_take, -List.map_drop, go_sem])
    | (refine run_dreg' (by decide) ?_; simp -implicitDefEqProofs [-List.map_take, -List.map_drop, go_sem])
    | ((first | refine end_tup _ (by simp) (by simp [go_sem]; rfl) (by simp [go_sem]) ?_); first | (simp [go_sem, *, moduleAt, idxFrom_map]; done) | grind [moduleAt, idxFrom_map] | (simp [go_sem, moduleAt, idxFrom_map]; grind [moduleAt, idxFrom_map]) | (simp_all [go_sem, moduleAt, idxFrom_map]; done) | (simp_all [go_sem, moduleAt, idxFrom_map]; omega))
def mf_impl_Module_find_1 : MF := ⟨8, [(.t 3)], (.seq (.reg [⟨(some 2), (.box 46 (.t 0)), none⟩, ⟨(some 3), (.mov (.c (.bool false))), none⟩]) (.seq (.reg [⟨(some 4), (.fadr 1 (.t 2)), none⟩, ⟨(some 5), (.load false 1 (.t 4)), none⟩, ⟨(some 6), (.load false 1 (.t 1)), none⟩, ⟨(some 7), (.seq false (.t 5) (.t 6)), none⟩, ⟨(some 3), (.mov (.t 7)), none⟩]) .ret))⟩
theorem fit_impl_Module_find_1 : Fit Tryz.prog 171 Tryz.f171 mf_impl_Module_find_1 := ⟨by kernel_rfl, Tryz.func171, by kernel_rfl, by kernel_rfl, by kernel_rfl, by kernel_rfl⟩
theorem find1_ct (m : LDecl) (name : Str) : Ct Tryz.prog 171 ([.agg m.C] ++ [.iptr [.str name]]) (.bool (m.name == name)) := by
  refine ct_of_run fit_impl_Module_find_1 (by simp [mf_impl_Module_find_1]) (by simp [go_sem]) fun hd => ?_
  simp -implicitDefEqProofs [-List.map_take, -List.map_drop, go_sem, mf_impl_Module_find_1]
  repeat' first
    | ((first | refine gv_split (fun h => ?_) (fun h => ?_) | refine cnd_split (fun h => ?_) (fun h => ?_) | refine cgv_split (fun h => ?_) (fun h => ?_)) <;> (try (have hp := h; simp at hp)) <;> simp -implicitDefEqProofs [-List.map_take, -List.map_drop, go_sem, h])
    | (refine And.intro (by first | omega | (simp only [maxLen]; omega) | (simp_all; done) | (simp_all; omega)) ?_; try simp -implicitDefEqProofs [-List.map_take, -List.map_drop, go_sem])
    | (refine run_dreg' (by decide) ?_; simp -implicitDefEqProofs [-List.map_take, -List.map_drop, go_sem])
    | ((first | refine end_tup _ (by simp) (by simp [go_sem]; rfl) (by simp [go_sem]) ?_); first | (simp [go_sem, *]; done) | grind | (simp [go_sem]; grind) | (simp_all [go_sem]; done) | (simp_all [go_sem]; omega))
def mf_impl_Module_find : MF := ⟨9, [(.t 4)], (.seq (.reg [⟨(some 2), (.box 43 (.t 0)), none⟩, ⟨(some 3), (.box 9 (.t 1)), none⟩, ⟨(some 4), (.mov (.c (.int .i64 0))), none⟩]) (.seq (.reg [⟨(some 5), (.fadr 2 (.t 2)), none⟩, ⟨(some 6), (.load false 1 (.t 5)), none⟩, ⟨(some 7), (.mkf 171 [(.t 3)]), none⟩, ⟨(some 8), (.call (.c (.fn 170 [])) [(.t 6), (.t 7)]), none⟩, ⟨(some 4), (.mov (.t 8)), none⟩]) .ret))⟩
theorem fit_impl_Module_find : Fit Tryz.prog 84 Tryz.f84 mf_impl_Module_find := ⟨by kernel_rfl, Tryz.func84, by kernel_rfl, by kernel_rfl, by kernel_rfl, by kernel_rfl⟩
theorem find_ct (m : LModule) (name : Str) : Ct Tryz.prog 84 [.agg m.C, .str name] (.int .i64 (declAt m.core name)) := by
  have h1 := idxF_Decl_ct m.decls 171 [.iptr [.str name]] rfl (fun m => m.name == name) (fun m _ => find1_ct m name)
  refine ct_of_run fit_impl_Module_find (by simp [mf_impl_Module_find]) (by simp [go_sem]) fun hd => ?_
  simp -implicitDefEqProofs [-List.map_take, -List.map_drop, go_sem, mf_impl_Module_find]
  repeat' first
    | ((first | refine gv_split (fun h => ?_) (fun h => ?_) | refine cnd_split (fun h => ?_) (fun h => ?_) | refine cgv_split (fun h => ?_) (fun h => ?_)) <;> (try (have hp := h; simp at hp)) <;> simp -implicitDefEqProofs [-List.map_take, -List.map_drop, go_sem, h])
    | (refine And.intro (by first | omega | (simp only [maxLen]; omega) | (simp_all; done) | (simp_all; omega)) ?_; try simp -implicitDefEqProofs [-List.map_take, -List.map_drop, go_sem])
    | ((first | refine cstp_snap 3 (h1) (by simp [go_sem, snapL, snapV, snapE, snapSp, mapO, frzV]) ?_ ?_ ?_ | refine stp_snap 3 (h1) (by simp [go_sem, snapL, snapV, snapE, snapSp, mapO, frzV]) ?_ ?_ ?_); (simp [closedV]); (simp [go_sem]); simp -implicitDefEqProofs [-List.map_take, -List.map_drop, go_sem])
    | (refine run_dreg' (by decide) ?_; simp -implicitDefEqProofs [-List.map_take, -List.map_drop, go_sem])
    | ((first | refine end_tup _ (by simp) (by simp [go_sem]; rfl) (by simp [go_sem]) ?_); first | (simp [go_sem, *, declAt, idxFrom_map]; done) | grind [declAt, idxFrom_map] | (simp [go_sem, declAt, idxFrom_map]; grind [declAt, idxFrom_map]) | (simp_all [go_sem, declAt, idxFrom_map]; done) | (simp_all [go_sem, declAt, idxFrom_map]; omega))
def mf_impl_Decl_same : MF := ⟨38, [(.t 4)], (.seq (.reg [⟨(some 2), (.box 46 (.t 0)), none⟩, ⟨(some 3), (.box 46 (.t 1)), none⟩, ⟨(some 4), (.mov (.c (.bool false))), none⟩]) (.seq (.reg [⟨(some 5), (.fadr 0 (.t 2)), none⟩, ⟨(some 6), (.load false 1 (.t 5)), none⟩, ⟨(some 7), (.fadr 0 (.t 3)), none⟩, ⟨(some 8), (.load false 1 (.t 7)), none⟩, ⟨(some 9), (.bin .eql (.t 6) (.t 8)), none⟩, ⟨(some 10), (.mov (.t 9)), none⟩, ⟨(some 11), (.fadr 1 (.t 2)), (some (10, true))⟩, ⟨(some 12), (.load false 1 (.t 11)), (some (10, true))⟩, ⟨(some 13), (.fadr 1 (.t 3)), (some (10, true))⟩, ⟨(some 14), (.load false 1 (.t 13)), (some (10, true))⟩, ⟨(some 15), (.seq false (.t 12) (.t 14)), (some (10, true))⟩, ⟨(some 16), (.pick (.t 10) (.t 15) (.c (.bool false))), none⟩, ⟨(some 17), (.mov (.t 16)), none⟩, ⟨(some 18), (.fadr 3 (.t 2)), (some (17, true))⟩, ⟨(some 19), (.load false 1 (.t 18)), (some (17, true))⟩, ⟨(some 20), (.fadr 3 (.t 3)), (some (17, true))⟩, ⟨(some 21), (.load false 1 (.t 20)), (some (17, true))⟩, ⟨(some 22), (.seq false (.t 19) (.t 21)), (some (17, true))⟩, ⟨(some 23), (.pick (.t 17) (.t 22) (.c (.bool false))), none⟩, ⟨(some 24), (.mov (.t 23)), none⟩, ⟨(some 25), (.fadr 2 (.t 2)), (some (24, true))⟩, ⟨(some 26), (.load false 1 (.t 25)), (some (24, true))⟩, ⟨(some 27), (.fadr 2 (.t 3)), (some (24, true))⟩, ⟨(some 28), (.load false 1 (.t 27)), (some (24, true))⟩, ⟨(some 29), (.call (.c (.fn 215 [])) [(.t 26), (.t 28)]), (some (24, true))⟩, ⟨(some 30), (.pick (.t 24) (.t 29) (.c (.bool false))), none⟩, ⟨(some 31), (.mov (.t 30)), none⟩, ⟨(some 32), (.fadr 4 (.t 2)), (some (31, true))⟩, ⟨(some 33), (.load true 4 (.t 32)), (some (31, true))⟩, ⟨(some 34), (.fadr 4 (.t 3)), (some (31, true))⟩, ⟨(some 35), (.load true 4 (.t 34)), (some (31, true))⟩, ⟨(some 36), (.call (.c (.fn 69 [])) [(.t 33), (.t 35)]), (some (31, true))⟩, ⟨(some 37), (.pick (.t 31) (.t 36) (.c (.bool false))), none⟩, ⟨(some 4), (.mov (.t 37)), none⟩]) .ret))⟩
theorem fit_impl_Decl_same : Fit Tryz.prog 133 Tryz.f133 mf_impl_Decl_same := ⟨by kernel_rfl, Tryz.func133, by kernel_rfl, by kernel_rfl, by kernel_rfl, by kernel_rfl⟩
theorem dsame_ct (x y : LDecl) : Ct Tryz.prog 133 [.agg x.C, .agg y.C] (.bool (sameDecl x.core y.core)) := by
  refine ct_of_run fit_impl_Decl_same (by simp [mf_impl_Decl_same]) (by simp [go_sem]) fun hd => ?_
  simp -implicitDefEqProofs [-List.map_take, -List.map_drop, go_sem, mf_impl_Decl_same]
  repeat' first
    | ((first | refine gv_split (fun h => ?_) (fun h => ?_) | refine cnd_split (fun h => ?_) (fun h => ?_) | refine cgv_split (fun h => ?_) (fun h => ?_)) <;> (try (have hp := h; simp at hp)) <;> simp -implicitDefEqProofs [-List.map_take, -List.map_drop, go_sem, h])
    | (refine And.intro (by first | omega | (simp only [maxLen]; omega) | (simp_all; done) | (simp_all; omega)) ?_; try simp -implicitDefEqProofs [-List.map_take, -List.map_drop, go_sem])
    | ((first | refine stp_ct (equal_Bind_ct x.binds y.binds) (by simp [go_sem]) ?_ ?_ | refine cstp_ct (equal_Bind_ct x.binds y.binds) (by simp [go_sem]) ?_ ?_ | refine stp_ct (isame_ct x.body y.body) (by simp [go_sem]) ?_ ?_ | refine cstp_ct (isame_ct x.body y.body) (by simp [go_sem]) ?_ ?_); (simp [go_sem]); simp -implicitDefEqProofs [-List.map_take, -List.map_drop, go_sem])
    | (refine run_dreg' (by decide) ?_; simp -implicitDefEqProofs [-List.map_take, -List.map_drop, go_sem])
    | ((first | refine end_tup _ (by simp) (by simp [go_sem]; rfl) (by simp [go_sem]) ?_); first | (simp [go_sem, *, sameDecl]; done) | grind [sameDecl] | (simp [go_sem, sameDecl]; grind [sameDecl]) | (simp_all [go_sem, sameDecl]; done) | (simp_all [go_sem, sameDecl]; omega))
def mf_impl_sameProgram_1 : MF := ⟨24, [(.t 4)], (.seq (.reg [⟨(some 2), (.box 43 (.t 0)), none⟩, ⟨(some 3), (.box 43 (.t 1)), none⟩, ⟨(some 4), (.mov (.c (.bool false))), none⟩]) (.seq (.reg [⟨(some 5), (.fadr 0 (.t 2)), none⟩, ⟨(some 6), (.load false 1 (.t 5)), none⟩, ⟨(some 7), (.fadr 0 (.t 3)), none⟩, ⟨(some 8), (.load false 1 (.t 7)), none⟩, ⟨(some 9), (.seq false (.t 6) (.t 8)), none⟩, ⟨(some 10), (.mov (.t 9)), none⟩, ⟨(some 11), (.fadr 1 (.t 2)), (some (10, true))⟩, ⟨(some 12), (.load false 1 (.t 11)), (some (10, true))⟩, ⟨(some 13), (.fadr 1 (.t 3)), (some (10, true))⟩, ⟨(some 14), (.load false 1 (.t 13)), (some (10, true))⟩, ⟨(some 15), (.call (.c (.fn 131 [])) [(.t 12), (.t 14)]), (some (10, true))⟩, ⟨(some 16), (.pick (.t 10) (.t 15) (.c (.bool false))), none⟩, ⟨(some 17), (.mov (.t 16)), none⟩, ⟨(some 18), (.fadr 2 (.t 2)), (some (17, true))⟩, ⟨(some 19), (.load false 1 (.t 18)), (some (17, true))⟩, ⟨(some 20), (.fadr 2 (.t 3)), (some (17, true))⟩, ⟨(some 21), (.load false 1 (.t 20)), (some (17, true))⟩, ⟨(some 22), (.call (.c (.fn 132 [])) [(.t 19), (.t 21), (.c (.fn 133 []))]), (some (17, true))⟩, ⟨(some 23), (.pick (.t 17) (.t 22) (.c (.bool false))), none⟩, ⟨(some 4), (.mov (.t 23)), none⟩]) .ret))⟩
theorem fit_impl_sameProgram_1 : Fit Tryz.prog 130 Tryz.f130 mf_impl_sameProgram_1 := ⟨by kernel_rfl, Tryz.func130, by kernel_rfl, by kernel_rfl, by kernel_rfl, by kernel_rfl⟩
theorem sameP1_ct (x y : LModule) : Ct Tryz.prog 130 ([.agg x.C, .agg y.C] ++ []) (.bool (sameModule x.core y.core)) := by
  have h1 := eqF_Decl_ct x.decls y.decls 133 (fun a b => sameDecl a.core b.core) (fun a _ b => dsame_ct a b)
  refine ct_of_run fit_impl_sameProgram_1 (by simp [mf_impl_sameProgram_1]) (by simp [go_sem]) fun hd => ?_
  simp -implicitDefEqProofs [-List.map_take, -List.map_drop, go_sem, mf_impl_sameProgram_1]
  repeat' first
    | ((first | refine gv_split (fun h => ?_) (fun h => ?_) | refine cnd_split (fun h => ?_) (fun h => ?_) | refine cgv_split (fun h => ?_) (fun h => ?_)) <;> (try (have hp := h; simp at hp)) <;> simp -implicitDefEqProofs [-List.map_take, -List.map_drop, go_sem, h])
    | (refine And.intro (by first | omega | (simp only [maxLen]; omega) | (simp_all; done) | (simp_all; omega)) ?_; try simp -implicitDefEqProofs [-List.map_take, -List.map_drop, go_sem])
    | ((first | refine stp_ct (equal_Use_ct x.uses y.uses) (by simp [go_sem]) ?_ ?_ | refine cstp_ct (equal_Use_ct x.uses y.uses) (by simp [go_sem]) ?_ ?_ | refine stp_ct (h1) (by simp [go_sem]) ?_ ?_ | refine cstp_ct (h1) (by simp [go_sem]) ?_ ?_); (simp [go_sem]); simp -implicitDefEqProofs [-List.map_take, -List.map_drop, go_sem])
    | (refine run_dreg' (by decide) ?_; simp -implicitDefEqProofs [-List.map_take, -List.map_drop, go_sem])
    | ((first | refine end_tup _ (by simp) (by simp [go_sem]; rfl) (by simp [go_sem]) ?_); first | (simp [go_sem, *, sameModule, all2_map]; done) | grind [sameModule, all2_map] | (simp [go_sem, sameModule, all2_map]; grind [sameModule, all2_map]) | (simp_all [go_sem, sameModule, all2_map]; done) | (simp_all [go_sem, sameModule, all2_map]; omega))
def mf_impl_sameProgram : MF := ⟨8, [(.t 4)], (.seq (.reg [⟨(some 4), (.mov (.c (.bool false))), none⟩]) (.seq (.reg [⟨(some 5), (.mov (.t 0)), none⟩, ⟨(some 6), (.mov (.t 1)), none⟩, ⟨(some 7), (.call (.c (.fn 129 [])) [(.t 5), (.t 6), (.c (.fn 130 []))]), none⟩, ⟨(some 4), (.mov (.t 7)), none⟩]) .ret))⟩
theorem fit_impl_sameProgram : Fit Tryz.prog 51 Tryz.f51 mf_impl_sameProgram := ⟨by kernel_rfl, Tryz.func51, by kernel_rfl, by kernel_rfl, by kernel_rfl, by kernel_rfl⟩
theorem isameProgram_ct (x y : Sl LModule) : Ct Tryz.prog 51 [x.I LModule.C, y.I LModule.C] (.bool (sameProgram (x.es.map LModule.core) (y.es.map LModule.core))) := by
  have h1 := eqF_Module_ct x y 130 (fun a b => sameModule a.core b.core) (fun a _ b => sameP1_ct a b)
  refine ct_of_run fit_impl_sameProgram (by simp [mf_impl_sameProgram]) (by simp [go_sem]) fun hd => ?_
  simp -implicitDefEqProofs [-List.map_take, -List.map_drop, go_sem, mf_impl_sameProgram]
  repeat' first
    | ((first | refine gv_split (fun h => ?_) (fun h => ?_) | refine cnd_split (fun h => ?_) (fun h => ?_) | refine cgv_split (fun h => ?_) (fun h => ?_)) <;> (try (have hp := h; simp at hp)) <;> simp -implicitDefEqProofs [-List.map_take, -List.map_drop, go_sem, h])
    | (refine And.intro (by first | omega | (simp only [maxLen]; omega) | (simp_all; done) | (simp_all; omega)) ?_; try simp -implicitDefEqProofs [-List.map_take, -List.map_drop, go_sem])
    | ((first | refine stp_ct (h1) (by simp [go_sem]) ?_ ?_ | refine cstp_ct (h1) (by simp [go_sem]) ?_ ?_); (simp [go_sem]); simp -implicitDefEqProofs [-List.map_take, -List.map_drop, go_sem])
    | (refine run_dreg' (by decide) ?_; simp -implicitDefEqProofs [-List.map_take, -List.map_drop, go_sem])
    | ((first | refine end_tup _ (by simp) (by simp [go_sem]; rfl) (by simp [go_sem]) ?_); first | (simp [go_sem, *, sameProgram, all2_map]; done) | grind [sameProgram, all2_map] | (simp [go_sem, sameProgram, all2_map]; grind [sameProgram, all2_map]) | (simp_all [go_sem, sameProgram, all2_map]; done) | (simp_all [go_sem, sameProgram, all2_map]; omega))
def mf_impl_Decl_fits_1 : MF := ⟨9, [(.t 3)], (.seq (.reg [⟨(some 2), (.box 152 (.t 0)), none⟩, ⟨(some 3), (.mov (.c (.bool false))), none⟩]) (.seq (.reg [⟨(some 4), (.fadr 0 (.t 2)), none⟩, ⟨(some 5), (.load false 1 (.t 4)), none⟩, ⟨(some 6), (.fadr 0 (.t 1)), none⟩, ⟨(some 7), (.load false 1 (.t 6)), none⟩, ⟨(some 8), (.seq false (.t 5) (.t 7)), none⟩, ⟨(some 3), (.mov (.t 8)), none⟩]) .ret))⟩
theorem fit_impl_Decl_fits_1 : Fit Tryz.prog 213 Tryz.f213 mf_impl_Decl_fits_1 := ⟨by kernel_rfl, Tryz.func213, by kernel_rfl, by kernel_rfl, by kernel_rfl, by kernel_rfl⟩
theorem fits1_ct (o : Bind) (b : Bind) : Ct Tryz.prog 213 ([.agg o.C] ++ [.iptr [.str b.name, .str b.type]]) (.bool (o.name == b.name)) := by
  refine ct_of_run fit_impl_Decl_fits_1 (by simp [mf_impl_Decl_fits_1]) (by simp [go_sem]) fun hd => ?_
  simp -implicitDefEqProofs [-List.map_take, -List.map_drop, go_sem, mf_impl_Decl_fits_1]
  repeat' first
    | ((first | refine gv_split (fun h => ?_) (fun h => ?_) | refine cnd_split (fun h => ?_) (fun h => ?_) | refine cgv_split (fun h => ?_) (fun h => ?_)) <;> (try (have hp := h; simp at hp)) <;> simp -implicitDefEqProofs [-List.map_take, -List.map_drop, go_sem, h])
    | (refine And.intro (by first | omega | (simp only [maxLen]; omega) | (simp_all; done) | (simp_all; omega)) ?_; try simp -implicitDefEqProofs [-List.map_take, -List.map_drop, go_sem])
    | (refine run_dreg' (by decide) ?_; simp -implicitDefEqProofs [-List.map_take, -List.map_drop, go_sem])
    | ((first | refine end_tup _ (by simp) (by simp [go_sem]; rfl) (by simp [go_sem]) ?_); first | (simp [go_sem, *]; done) | grind | (simp [go_sem]; grind) | (simp_all [go_sem]; done) | (simp_all [go_sem]; omega))
def mf_slices_ContainsFunc_impl_Bind_impl_Bind : MF := ⟨9, [(.t 4)], (.seq (.reg [⟨(some 4), (.mov (.c (.bool false))), none⟩]) (.seq (.reg [⟨(some 5), (.mov (.t 0)), none⟩, ⟨(some 6), (.mov (.t 1)), none⟩, ⟨(some 7), (.call (.c (.fn 263 [])) [(.t 5), (.t 6)]), none⟩, ⟨(some 8), (.bin .geq (.t 7) (.c (.int .i64 0))), none⟩, ⟨(some 4), (.mov (.t 8)), none⟩]) .ret))⟩
theorem fit_slices_ContainsFunc_impl_Bind_impl_Bind : Fit Tryz.prog 212 Tryz.f212 mf_slices_ContainsFunc_impl_Bind_impl_Bind := ⟨by kernel_rfl, Tryz.func212, by kernel_rfl, by kernel_rfl, by kernel_rfl, by kernel_rfl⟩
theorem containsF_Bind_ct (x : Sl Bind) (g : Nat) (cs : List PV) (hcs : pureL cs = true) (p : Bind → Bool) (hg : ∀ a, a ∈ x.es → Ct Tryz.prog g ([.agg a.C] ++ cs) (.bool (p a))) : Ct Tryz.prog 212 [x.I Bind.C, .fn g cs] (.bool (x.es.any p)) := by
  have hw1 : noOwnL cs = true := pureL_noOwn cs hcs
  refine ct_of_run fit_slices_ContainsFunc_impl_Bind_impl_Bind (by simp [mf_slices_ContainsFunc_impl_Bind_impl_Bind]) (by simp [go_sem, hw1]) fun hd => ?_
  simp -implicitDefEqProofs [-List.map_take, -List.map_drop, go_sem, mf_slices_ContainsFunc_impl_Bind_impl_Bind]
  repeat' first
    | ((first | refine gv_split (fun h => ?_) (fun h => ?_) | refine cnd_split (fun h => ?_) (fun h => ?_) | refine cgv_split (fun h => ?_) (fun h => ?_)) <;> (try (have hp := h; simp at hp)) <;> simp -implicitDefEqProofs [-List.map_take, -List.map_drop, go_sem, h, hcs])
    | (refine And.intro (by first | omega | (simp only [maxLen]; omega) | (simp_all; done) | (simp_all; omega)) ?_; try simp -implicitDefEqProofs [-List.map_take, -List.map_drop, go_sem, hcs])
    | ((first | refine stp_ct (idxF_Bind_ct x g cs hcs p hg) (by simp [go_sem, hcs]) ?_ ?_ | refine cstp_ct (idxF_Bind_ct x g cs hcs p hg) (by simp [go_sem, hcs]) ?_ ?_); (simp [go_sem]); simp -implicitDefEqProofs [-List.map_take, -List.map_drop, go_sem, hcs])
    | (refine run_dreg' (by decide) ?_; simp -implicitDefEqProofs [-List.map_take, -List.map_drop, go_sem, hcs])
    | ((first | refine end_tup _ (by simp) (by simp [go_sem]; rfl) (by simp [go_sem]) ?_); first | (simp [go_sem, *, idxFrom_nn]; done) | grind [idxFrom_nn] | (simp [go_sem, idxFrom_nn]; grind [idxFrom_nn]) | (simp_all [go_sem, idxFrom_nn]; done) | (simp_all [go_sem, idxFrom_nn]; omega))

def cntO (c : Nat) : AObj := ⟨[[.int .i64 c]], 1, 3, false, false⟩
def fitsQ (r : Option Nat) (y : PV) (ob' : AObj) : Prop := ∃ c' : Nat, ob' = cntO c' ∧ y = .bool r.isSome ∧ ∀ m, r = some m → c' = m
theorem fitsQ_plain {r : Option Nat} (y : PV) (ob' : AObj) (h : fitsQ r y ob') : noOwnV y = true := by obtain ⟨_, _, rfl, _⟩ := h; rfl
def fits_L (e : LExpr) (c tall : Nat) (i : Nat) (a : Nat) : St := ⟨lk [(1, .ptr 0 1 0 0), (2, .int .i64 tall), (28, .imm (e.kids.map LExpr.C) e.sp e.lim), (29, .int .i64 e.kids.length), (30, .int .i64 i)], [some (cntO a)], [some (cntO c)]⟩
theorem fitsNs_le : ∀ (l : List Expr) (c tall m : Nat), fitsNs l c tall = some m → c ≤ 40 → m ≤ 40
  | [], c, tall, m, h, hc => by simp [fitsNs] at h; omega
  | x :: xs, c, tall, m, h, hc => by
    cases x with
    | mk k n t ks =>
      cases hf : fitsN (.mk k n t ks) c tall with
      | none => simp [fitsNs, hf] at h
      | some c' =>
        simp only [fitsNs, hf] at h
        refine fitsNs_le xs c' tall m h ?_
        rw [fitsN_eq] at hf
        split at hf
        · cases hf
        · rename_i hn
          exact fitsNs_le ks (c + 1) (tall + 1) c' hf (by omega)
theorem fitsN_le (x : Expr) (c tall m : Nat) (h : fitsN x c tall = some m) (hc : c ≤ 40) : m ≤ 40 := by
  refine fitsNs_le [x] c tall m ?_ hc
  simp [fitsNs, h]
theorem end_fits {st : St} {e : MExit} {ob : AObj} {r : Option Nat} (b : Bool) (c' : Nat) (he : ∀ i, e ≠ .exit i) (hr : resL st [.t 6] = some [.bool b]) (hσ : st.σ[0]? = some (some (cntO c'))) (hb : r = if b then some c' else none) :
    endS [some ob] [.t 6] (fun y σ' => ∃ ob', σ' = [some ob'] ∧ fitsQ r y ob') e st := by
  refine end_cx1 [.bool b] (cntO c') he hr rfl hσ rfl ⟨c', rfl, ?_, fun m hm => ?_⟩
  · subst hb; cases b <;> rfl
  · subst hb; cases b <;> simp_all
def mf_impl_Expr_fits : MF := ⟨41, [(.t 6)], (.seq (.reg [⟨(some 3), (.box 31 (.t 0)), none⟩, ⟨(some 6), (.mov (.c (.bool false))), none⟩]) (.seq (.reg [⟨(some 9), (.mov (.t 1)), none⟩, ⟨(some 10), (.nilc (.t 9)), none⟩, ⟨(some 11), (.load false 1 (.t 10)), none⟩, ⟨(some 12), (.bin .add (.t 11) (.c (.int .i64 1))), none⟩, ⟨(some 13), (.nilc (.t 9)), none⟩, ⟨none, (.store 1 (.t 13) (.t 12)), none⟩]) (.seq (.seq (.reg [⟨(some 14), (.mov (.t 1)), none⟩, ⟨(some 15), (.nilc (.t 14)), none⟩, ⟨(some 16), (.load false 1 (.t 15)), none⟩, ⟨(some 17), (.bin .gtr (.t 16) (.c (.int .i64 40))), none⟩, ⟨(some 18), (.mov (.t 17)), none⟩, ⟨(some 19), (.mov (.t 2)), (some (18, false))⟩, ⟨(some 20), (.bin .gtr (.t 19) (.c (.int .i64 9))), (some (18, false))⟩, ⟨(some 21), (.pick (.t 18) (.c (.bool true)) (.t 20)), none⟩, ⟨(some 22), (.mov (.t 21)), none⟩, ⟨(some 23), (.load true 4 (.t 3)), (some (22, false))⟩, ⟨(some 24), (.call (.c (.fn 220 [])) [(.t 23)]), (some (22, false))⟩, ⟨(some 25), (.not (.t 24)), (some (22, false))⟩, ⟨(some 26), (.pick (.t 22) (.c (.bool true)) (.t 25)), none⟩]) (.cond (.t 26) (.seq (.reg [⟨(some 6), (.mov (.c (.bool false))), none⟩]) .ret) .skip)) (.seq (.seq (.reg [⟨(some 27), (.fadr 3 (.t 3)), none⟩, ⟨(some 28), (.load false 1 (.t 27)), none⟩, ⟨(some 29), (.lenl (.t 28)), none⟩, ⟨(some 30), (.mov (.c (.int .i64 0))), none⟩]) (.blk 0 (.loop (.seq (.reg [⟨(some 31), (.bin .lss (.t 30) (.t 29)), none⟩]) (.seq (.cond (.t 31) .skip (.exit 0)) (.seq (.blk 1 (.seq (.reg [⟨(some 32), (.iadr 4 (.t 28) (.t 30)), none⟩, ⟨(some 33), (.load true 4 (.t 32)), none⟩, ⟨(some 8), (.alloc 31 [(.int .i64 0), (.int .i64 0), (.str []), (.imm [] [] true)]), none⟩, ⟨none, (.store 4 (.t 8) (.t 33)), none⟩]) (.seq (.reg [⟨(some 34), (.load true 4 (.t 8)), none⟩, ⟨(some 35), (.mov (.t 1)), none⟩, ⟨(some 36), (.mov (.t 2)), none⟩, ⟨(some 37), (.bin .add (.t 36) (.c (.int .i64 1))), none⟩, ⟨(some 38), (.call (.c (.fn 139 [])) [(.t 34), (.t 35), (.t 37)]), none⟩, ⟨(some 39), (.not (.t 38)), none⟩]) (.cond (.t 39) (.seq (.reg [⟨(some 6), (.mov (.c (.bool false))), none⟩]) .ret) .skip)))) (.reg [⟨(some 40), (.bin .add (.t 30) (.c (.int .i64 1))), none⟩, ⟨(some 30), (.mov (.t 40)), none⟩]))))))) (.seq (.reg [⟨(some 6), (.mov (.c (.bool true))), none⟩]) .ret)))))⟩
theorem fit_impl_Expr_fits : Fit Tryz.prog 139 Tryz.f139 mf_impl_Expr_fits := ⟨by kernel_rfl, Tryz.func139, by kernel_rfl, by kernel_rfl, by kernel_rfl, by kernel_rfl⟩
theorem fits_cx (e : LExpr) (c tall : Nat) (hc : c ≤ 40) (ht : tall ≤ 1000) (hs : e.core.Sm) : Cx1 Tryz.prog 139 [.agg e.C, .ptr 0 1 0 0, .int .i64 tall] (cntO c) (fitsQ (fitsN e.core c tall)) := by
  have hst := Expr.Sm_text hs
  have hfe := fitsN_eq e.core c tall
  rw [LExpr.core_kind, LExpr.core_num, LExpr.core_text, LExpr.core_kids, List.length_map] at hfe
  refine cx1_of_run fit_impl_Expr_fits (by simp [mf_impl_Expr_fits]) (by simp [go_sem]) fun hd _ => ?_
  have hm : e.kids.length ≤ maxLen := by have := LExpr.deep hd.1; omega
  have hw1 : IntKind.i64.wrap ((c : Int) + 1) = (c : Int) + 1 := wrap_small (by omega) (by omega)
  simp -implicitDefEqProofs [-List.map_take, -List.map_drop, go_sem, mf_impl_Expr_fits, cntO, hw1]
  repeat' first
    | ((first | refine gv_split (fun h => ?_) (fun h => ?_) | refine cnd_split (fun h => ?_) (fun h => ?_) | refine cgv_split (fun h => ?_) (fun h => ?_)) <;> (try (have hp := h; simp at hp)) <;> simp -implicitDefEqProofs [-List.map_take, -List.map_drop, go_sem, h])
    | (refine And.intro (by first | omega | (simp only [maxLen]; omega) | (simp_all; done) | (simp_all; omega)) ?_; try simp -implicitDefEqProofs [-List.map_take, -List.map_drop, go_sem])
    | ((first | refine stp_ct (shape_ct e hst) (by simp [go_sem]) ?_ ?_ | refine cstp_ct (shape_ct e hst) (by simp [go_sem]) ?_ ?_); (simp [go_sem]); simp -implicitDefEqProofs [-List.map_take, -List.map_drop, go_sem])
    | (refine run_dreg' (by decide) ?_; simp -implicitDefEqProofs [-List.map_take, -List.map_drop, go_sem])
    | ((first | refine end_tup _ (by simp) (by simp [go_sem]; rfl) (by simp [go_sem]) ?_); first | (simp [go_sem, *]; done) | grind | (simp [go_sem]; grind) | (simp_all [go_sem]; done) | (simp_all [go_sem]; omega))
  · refine end_fits false (c + 1) (by simp) (by simp [go_sem]) (by simp [go_sem, cntO]) ?_
    rw [hfe, if_pos (.inl (by omega))]; rfl
  · refine end_fits false (c + 1) (by simp) (by simp [go_sem]) (by simp [go_sem, cntO]) ?_
    rw [hfe, if_pos (.inr (.inl (by omega)))]; rfl
  · refine end_fits false (c + 1) (by simp) (by simp [go_sem]) (by simp [go_sem, cntO]) ?_
    rw [hfe, if_pos (.inr (.inr (by simpa using hp)))]; rfl
  have hfe2 : fitsN e.core c tall = fitsNs (e.kids.map LExpr.core) (c + 1) (tall + 1) := by
    rw [hfe, if_neg]
    rintro (h1 | h1 | h1)
    · omega
    · omega
    · simp [h1] at hp
  have hw2 : IntKind.i64.wrap ((tall : Int) + 1) = (tall : Int) + 1 := wrap_small (by omega) (by omega)
  refine run_iter (e.kids.length) (fits_L e c tall) (fun i a => fitsNs ((e.kids.drop i).map LExpr.core) a (tall + 1) = fitsN e.core c tall ∧ a ≤ 40) (c + 1) (gh_auto (by simp [go_sem, fits_L, cntO])) (by first | (simp; done) | (simp [hfe2]; done) | (simp [hfe2]; omega) | grind) ?_
  intro i a hi hj
  simp -implicitDefEqProofs [-List.map_take, -List.map_drop, go_sem, fits_L, cntO]
  refine cnd_split (fun hc => ?_) (fun hc => ?_)
  · have hlt : i < e.kids.length := by first | (simpa using hc) | (simp at hc; omega)
    rw [List.drop_eq_getElem_cons hlt] at hj
    simp only [List.map_cons, fitsNs] at hj
    have ih := fits_cx e.kids[i] a (tall + 1) hj.2 (by omega) (Expr.Sm_kid hs hlt)
    simp -implicitDefEqProofs [-List.map_take, -List.map_drop, go_sem, hlt, cntO]
    refine stp_cx1 0 ih (by simp [go_sem, cntO]) (by simp [go_sem, rf, frzV, hw2]) (by simp [go_sem, cntO]) fitsQ_plain ?_
    rintro y ob' ⟨c', rfl, rfl, hm2⟩
    cases hf : fitsN e.kids[i].core a (tall + 1) with
    | none =>
      rw [hf] at hj
      simp -implicitDefEqProofs [-List.map_take, -List.map_drop, go_sem, hw2, cntO, hf]
      refine end_fits false c' (by simp) (by simp [go_sem]) (by simp [go_sem, cntO]) hj.1.symm
    | some m =>
      rw [hf] at hj
      have hcm := hm2 m hf
      subst hcm
      simp -implicitDefEqProofs [-List.map_take, -List.map_drop, go_sem, hw2, cntO, hf]
      exact kx_next c' hlt (gh_auto (by simp [go_sem, fits_L, wrap_succ hlt hm, cntO])) ⟨hj.1, fitsN_le _ _ _ _ hf hj.2⟩
  · have hge : e.kids.length ≤ i := by first | (simpa using hc) | (simp at hc; omega)
    try simp -implicitDefEqProofs [-List.map_take, -List.map_drop, go_sem, cntO]
    rw [List.drop_of_length_le hge] at hj
    refine end_fits true a (by simp) (by simp [go_sem]) (by simp [go_sem, cntO]) ?_
    rw [← hj.1]; rfl
termination_by SizeOf.sizeOf e
decreasing_by all_goals exact LExpr.kid_lt (List.getElem_mem hlt)
def mf_impl_ExprOk : MF := ⟨6, [(.t 2)], (.seq (.reg [⟨(some 1), (.box 31 (.t 0)), none⟩, ⟨(some 2), (.mov (.c (.bool false))), none⟩]) (.seq (.reg [⟨(some 3), (.alloc 3 [(.int .i64 0)]), none⟩, ⟨none, (.store 1 (.t 3) (.c (.int .i64 0))), none⟩]) (.seq (.reg [⟨(some 4), (.load true 4 (.t 1)), none⟩, ⟨(some 5), (.call (.c (.fn 139 [])) [(.t 4), (.t 3), (.c (.int .i64 1))]), none⟩, ⟨(some 2), (.mov (.t 5)), none⟩]) .ret)))⟩
theorem fit_impl_ExprOk : Fit Tryz.prog 55 Tryz.f55 mf_impl_ExprOk := ⟨by kernel_rfl, Tryz.func55, by kernel_rfl, by kernel_rfl, by kernel_rfl, by kernel_rfl⟩
theorem iexprOk_ct (e : LExpr) (hs : e.core.Sm) : Ct Tryz.prog 55 [.agg e.C] (.bool (exprOk e.core)) := by
  refine ct_of_run fit_impl_ExprOk (by simp [mf_impl_ExprOk]) (by simp [go_sem]) fun hd => ?_
  simp -implicitDefEqProofs [-List.map_take, -List.map_drop, go_sem, mf_impl_ExprOk]
  refine stp_cx1 1 (fits_cx e 0 1 (by decide) (by decide) hs) (by simp [go_sem, cntO]) (by simp [go_sem, rf, frzV]) (by simp [go_sem, cntO]) fitsQ_plain ?_
  rintro y ob' ⟨c', rfl, rfl, hm2⟩
  simp -implicitDefEqProofs [-List.map_take, -List.map_drop, go_sem]
  repeat' first
    | ((first | refine gv_split (fun h => ?_) (fun h => ?_) | refine cnd_split (fun h => ?_) (fun h => ?_) | refine cgv_split (fun h => ?_) (fun h => ?_)) <;> (try (have hp := h; simp at hp)) <;> simp -implicitDefEqProofs [-List.map_take, -List.map_drop, go_sem, h])
    | (refine And.intro (by first | omega | (simp only [maxLen]; omega) | (simp_all; done) | (simp_all; omega)) ?_; try simp -implicitDefEqProofs [-List.map_take, -List.map_drop, go_sem])
    | (refine run_dreg' (by decide) ?_; simp -implicitDefEqProofs [-List.map_take, -List.map_drop, go_sem])
    | ((first | refine end_tup _ (by simp) (by simp [go_sem]; rfl) (by simp [go_sem]) ?_); first | (simp [go_sem, *, fitsN_ok]; done) | grind [fitsN_ok] | (simp [go_sem, fitsN_ok]; grind [fitsN_ok]) | (simp_all [go_sem, fitsN_ok]; done) | (simp_all [go_sem, fitsN_ok]; omega))

def mf_impl_recordless : MF := ⟨15, [(.t 2)], (.seq (.reg [⟨(some 2), (.mov (.c (.bool false))), none⟩]) (.seq (.reg [⟨(some 6), (.mov (.t 0)), none⟩, ⟨(some 7), (.call (.c (.fn 197 [])) [(.t 6)]), none⟩, ⟨(some 5), (.mov (.t 7)), none⟩, ⟨(some 8), (.ext (.t 5) 0), none⟩, ⟨(some 9), (.ext (.t 5) 1), none⟩, ⟨(some 3), (.mov (.t 8)), none⟩, ⟨(some 4), (.mov (.t 9)), none⟩]) (.seq (.reg [⟨(some 10), (.mov (.t 4)), none⟩, ⟨(some 11), (.mov (.t 10)), none⟩, ⟨(some 12), (.mov (.t 3)), (some (11, true))⟩, ⟨(some 13), (.call (.c (.fn 241 [])) [(.t 12)]), (some (11, true))⟩, ⟨(some 14), (.pick (.t 11) (.t 13) (.c (.bool false))), none⟩, ⟨(some 2), (.mov (.t 14)), none⟩]) .ret)))⟩
theorem fit_impl_recordless : Fit Tryz.prog 214 Tryz.f214 mf_impl_recordless := ⟨by kernel_rfl, Tryz.func214, by kernel_rfl, by kernel_rfl, by kernel_rfl, by kernel_rfl⟩
theorem recordless2_ct (t : Str) : Ct Tryz.prog 214 [.str t] (.bool (recordlessB t)) := by
  refine ct_of_run fit_impl_recordless (by simp [mf_impl_recordless]) (by simp [go_sem]) fun hd => ?_
  simp -implicitDefEqProofs [-List.map_take, -List.map_drop, go_sem, mf_impl_recordless]
  repeat' first
    | ((first | refine gv_split (fun h => ?_) (fun h => ?_) | refine cnd_split (fun h => ?_) (fun h => ?_) | refine cgv_split (fun h => ?_) (fun h => ?_)) <;> (try (have hp := h; simp at hp)) <;> simp -implicitDefEqProofs [-List.map_take, -List.map_drop, go_sem, h])
    | (refine And.intro (by first | omega | (simp only [maxLen]; omega) | (simp_all; done) | (simp_all; omega)) ?_; try simp -implicitDefEqProofs [-List.map_take, -List.map_drop, go_sem])
    | ((first | refine stp_ct (typeBase_ct _) (by simp [go_sem]) ?_ ?_ | refine cstp_ct (typeBase_ct _) (by simp [go_sem]) ?_ ?_ | refine stp_ct (plainType_ct _) (by simp [go_sem]) ?_ ?_ | refine cstp_ct (plainType_ct _) (by simp [go_sem]) ?_ ?_); (simp [go_sem]); simp -implicitDefEqProofs [-List.map_take, -List.map_drop, go_sem])
    | (refine run_dreg' (by decide) ?_; simp -implicitDefEqProofs [-List.map_take, -List.map_drop, go_sem])
    | ((first | refine end_tup _ (by simp) (by simp [go_sem]; rfl) (by simp [go_sem]) ?_); first | (simp [go_sem, *, baseOk_eq, recordlessB]; done) | grind [baseOk_eq, recordlessB] | (simp [go_sem, baseOk_eq, recordlessB]; grind [baseOk_eq, recordlessB]) | (simp_all [go_sem, baseOk_eq, recordlessB]; done) | (simp_all [go_sem, baseOk_eq, recordlessB]; omega))
theorem fits1'_ct (o b : Bind) : Ct Tryz.prog 213 ([.agg o.C] ++ [.iptr b.C]) (.bool (o.name == b.name)) := fits1_ct o b
def dfits_L (d : LDecl) (i : Nat) (_ : Unit) : St := ⟨lk [(1, .ptr 0 1 0 0), (16, d.binds.I Bind.C), (17, .int .i64 d.binds.es.length), (18, .int .i64 i)], [some ⟨[[.int .i64 d.kind, .str d.name, .imm (d.binds.es.map Bind.C) d.binds.sp d.binds.lim, .str d.type, .int .i64 d.body.kind, .int .i64 d.body.num, .str d.body.text, .imm (d.body.kids.map LExpr.C) d.body.sp d.body.lim]], 8, 46, false, false⟩], []⟩
def mf_impl_Decl_fits : MF := ⟨82, [(.t 2)], (.seq (.reg [⟨(some 1), (.box 46 (.t 0)), none⟩, ⟨(some 2), (.mov (.c (.bool false))), none⟩]) (.seq (.seq (.reg [⟨(some 5), (.fadr 1 (.t 1)), none⟩, ⟨(some 6), (.load false 1 (.t 5)), none⟩, ⟨(some 7), (.call (.c (.fn 127 [])) [(.t 6)]), none⟩, ⟨(some 8), (.not (.t 7)), none⟩, ⟨(some 9), (.mov (.t 8)), none⟩, ⟨(some 10), (.fadr 2 (.t 1)), (some (9, false))⟩, ⟨(some 11), (.load false 1 (.t 10)), (some (9, false))⟩, ⟨(some 12), (.lenl (.t 11)), (some (9, false))⟩, ⟨(some 13), (.bin .gtr (.t 12) (.c (.int .i64 4))), (some (9, false))⟩, ⟨(some 14), (.pick (.t 9) (.c (.bool true)) (.t 13)), none⟩]) (.cond (.t 14) (.seq (.reg [⟨(some 2), (.mov (.c (.bool false))), none⟩]) .ret) .skip)) (.seq (.seq (.reg [⟨(some 15), (.fadr 2 (.t 1)), none⟩, ⟨(some 16), (.load false 1 (.t 15)), none⟩, ⟨(some 17), (.lenl (.t 16)), none⟩, ⟨(some 18), (.mov (.c (.int .i64 0))), none⟩]) (.blk 0 (.loop (.seq (.reg [⟨(some 19), (.bin .lss (.t 18) (.t 17)), none⟩]) (.seq (.cond (.t 19) .skip (.exit 0)) (.seq (.blk 1 (.seq (.reg [⟨(some 20), (.mov (.t 18)), none⟩, ⟨(some 21), (.iadr 2 (.t 16) (.t 18)), none⟩, ⟨(some 22), (.load true 2 (.t 21)), none⟩, ⟨(some 4), (.alloc 152 [(.str []), (.str [])]), none⟩, ⟨(some 3), (.mov (.t 20)), none⟩, ⟨none, (.store 2 (.t 4) (.t 22)), none⟩]) (.seq (.seq (.reg [⟨(some 23), (.fadr 0 (.t 4)), none⟩, ⟨(some 24), (.load false 1 (.t 23)), none⟩, ⟨(some 25), (.call (.c (.fn 127 [])) [(.t 24)]), none⟩, ⟨(some 26), (.not (.t 25)), none⟩, ⟨(some 27), (.mov (.t 26)), none⟩, ⟨(some 28), (.fadr 1 (.t 4)), (some (27, false))⟩, ⟨(some 29), (.load false 1 (.t 28)), (some (27, false))⟩, ⟨(some 30), (.call (.c (.fn 111 [])) [(.t 29)]), (some (27, false))⟩, ⟨(some 31), (.not (.t 30)), (some (27, false))⟩, ⟨(some 32), (.pick (.t 27) (.c (.bool true)) (.t 31)), none⟩, ⟨(some 33), (.mov (.t 32)), none⟩, ⟨(some 34), (.fadr 2 (.t 1)), (some (33, false))⟩, ⟨(some 35), (.load false 1 (.t 34)), (some (33, false))⟩, ⟨(some 36), (.mov (.t 3)), (some (33, false))⟩, ⟨(some 37), (.sl 2 (.t 35) none (some (.t 36)) none), (some (33, false))⟩, ⟨(some 38), (.mkf 213 [(.t 4)]), (some (33, false))⟩, ⟨(some 39), (.call (.c (.fn 212 [])) [(.t 37), (.t 38)]), (some (33, false))⟩, ⟨(some 40), (.pick (.t 33) (.c (.bool true)) (.t 39)), none⟩]) (.cond (.t 40) (.seq (.reg [⟨(some 2), (.mov (.c (.bool false))), none⟩]) .ret) .skip)) (.seq (.reg [⟨(some 41), (.fadr 0 (.t 1)), none⟩, ⟨(some 42), (.load false 1 (.t 41)), none⟩, ⟨(some 43), (.bin .eql (.t 42) (.c (.int .i64 1))), none⟩, ⟨(some 44), (.mov (.t 43)), none⟩, ⟨(some 45), (.fadr 1 (.t 4)), (some (44, true))⟩, ⟨(some 46), (.load false 1 (.t 45)), (some (44, true))⟩, ⟨(some 47), (.call (.c (.fn 214 [])) [(.t 46)]), (some (44, true))⟩, ⟨(some 48), (.not (.t 47)), (some (44, true))⟩, ⟨(some 49), (.pick (.t 44) (.t 48) (.c (.bool false))), none⟩]) (.cond (.t 49) (.seq (.reg [⟨(some 2), (.mov (.c (.bool false))), none⟩]) .ret) .skip))))) (.reg [⟨(some 50), (.bin .add (.t 18) (.c (.int .i64 1))), none⟩, ⟨(some 18), (.mov (.t 50)), none⟩]))))))) (.seq (.seq (.reg [⟨(some 51), (.fadr 0 (.t 1)), none⟩, ⟨(some 52), (.load false 1 (.t 51)), none⟩, ⟨(some 53), (.bin .eql (.t 52) (.c (.int .i64 1))), none⟩]) (.cond (.t 53) (.seq (.reg [⟨(some 54), (.fadr 2 (.t 1)), none⟩, ⟨(some 55), (.load false 1 (.t 54)), none⟩, ⟨(some 56), (.lenl (.t 55)), none⟩, ⟨(some 57), (.bin .gtr (.t 56) (.c (.int .i64 0))), none⟩, ⟨(some 58), (.mov (.t 57)), none⟩, ⟨(some 59), (.fadr 3 (.t 1)), (some (58, true))⟩, ⟨(some 60), (.load false 1 (.t 59)), (some (58, true))⟩, ⟨(some 61), (.seq false (.t 60) (.c (.str []))), (some (58, true))⟩, ⟨(some 62), (.pick (.t 58) (.t 61) (.c (.bool false))), none⟩, ⟨(some 63), (.mov (.t 62)), none⟩, ⟨(some 64), (.fadr 4 (.t 1)), (some (63, true))⟩, ⟨(some 65), (.load true 4 (.t 64)), (some (63, true))⟩, ⟨(some 66), (.build [(.int .i64 0), (.int .i64 0), (.str []), (.imm [] [] true)] []), (some (63, true))⟩, ⟨(some 67), (.call (.c (.fn 69 [])) [(.t 65), (.t 66)]), (some (63, true))⟩, ⟨(some 68), (.pick (.t 63) (.t 67) (.c (.bool false))), none⟩, ⟨(some 2), (.mov (.t 68)), none⟩]) .ret) .skip)) (.seq (.reg [⟨(some 69), (.fadr 0 (.t 1)), none⟩, ⟨(some 70), (.load false 1 (.t 69)), none⟩, ⟨(some 71), (.bin .eql (.t 70) (.c (.int .i64 0))), none⟩, ⟨(some 72), (.mov (.t 71)), none⟩, ⟨(some 73), (.fadr 3 (.t 1)), (some (72, true))⟩, ⟨(some 74), (.load false 1 (.t 73)), (some (72, true))⟩, ⟨(some 75), (.call (.c (.fn 111 [])) [(.t 74)]), (some (72, true))⟩, ⟨(some 76), (.pick (.t 72) (.t 75) (.c (.bool false))), none⟩, ⟨(some 77), (.mov (.t 76)), none⟩, ⟨(some 78), (.fadr 4 (.t 1)), (some (77, true))⟩, ⟨(some 79), (.load true 4 (.t 78)), (some (77, true))⟩, ⟨(some 80), (.call (.c (.fn 55 [])) [(.t 79)]), (some (77, true))⟩, ⟨(some 81), (.pick (.t 77) (.t 80) (.c (.bool false))), none⟩, ⟨(some 2), (.mov (.t 81)), none⟩]) .ret)))))⟩
theorem fit_impl_Decl_fits : Fit Tryz.prog 128 Tryz.f128 mf_impl_Decl_fits := ⟨by kernel_rfl, Tryz.func128, by kernel_rfl, by kernel_rfl, by kernel_rfl, by kernel_rfl⟩
theorem dfits_ct (d : LDecl) (hs : d.body.core.Sm) : Ct Tryz.prog 128 [.agg d.C] (.bool (validDecl d.core)) := by
  rw [← declFits_eq]
  refine ct_of_run fit_impl_Decl_fits (by simp [mf_impl_Decl_fits]) (by simp [go_sem]) fun hd => ?_
  simp -implicitDefEqProofs [-List.map_take, -List.map_drop, go_sem, mf_impl_Decl_fits]
  have hm : d.binds.es.length ≤ maxLen := binds_deep hd.1
  have hdb : deepV (.imm (d.binds.es.map Bind.C) d.binds.sp d.binds.lim) := by
    have := hd.1
    rw [LDecl.C_eq] at this
    exact this.2.2.1
  repeat' first
    | ((first | refine gv_split (fun h => ?_) (fun h => ?_) | refine cnd_split (fun h => ?_) (fun h => ?_) | refine cgv_split (fun h => ?_) (fun h => ?_)) <;> (try (have hp := h; simp at hp)) <;> simp -implicitDefEqProofs [-List.map_take, -List.map_drop, go_sem, h])
    | (refine And.intro (by first | omega | (simp only [maxLen]; omega) | (simp_all; done) | (simp_all; omega)) ?_; try simp -implicitDefEqProofs [-List.map_take, -List.map_drop, go_sem])
    | ((first | refine stp_ct (nameOk_ct _) (by simp [go_sem]) ?_ ?_ | refine cstp_ct (nameOk_ct _) (by simp [go_sem]) ?_ ?_); (simp [go_sem]); simp -implicitDefEqProofs [-List.map_take, -List.map_drop, go_sem])
    | (refine run_dreg' (by decide) ?_; simp -implicitDefEqProofs [-List.map_take, -List.map_drop, go_sem])
    | ((first | refine end_tup _ (by simp) (by simp [go_sem]; rfl) (by simp [go_sem]) ?_); first | (simp [go_sem, *, declFits, LDecl.core]; done) | grind [declFits, LDecl.core] | (simp [go_sem, declFits, LDecl.core]; grind [declFits, LDecl.core]) | (simp_all [go_sem, declFits, LDecl.core]; done) | (simp_all [go_sem, declFits, LDecl.core]; omega))
  refine run_iter (d.binds.es.length) (dfits_L d) (fun i a => fitsB d.kind (d.binds.es.take i) (d.binds.es.drop i) = fitsB d.kind [] d.binds.es) () (gh_auto (by simp [go_sem, dfits_L])) (by first | (simp; done) | (simp [declFits, LDecl.core, zeroL_core]; done) | (simp [declFits, LDecl.core, zeroL_core]; omega) | grind) ?_
  intro i a hi hj
  simp -implicitDefEqProofs [-List.map_take, -List.map_drop, go_sem, dfits_L]
  refine cnd_split (fun hc => ?_) (fun hc => ?_)
  · have hlt : i < d.binds.es.length := by first | (simpa using hc) | (simp at hc; omega)
    rw [List.drop_eq_getElem_cons (l := d.binds.es) (by omega)] at hj
    simp only [List.map_cons, fitsB] at hj
    have hww : ∀ e, e ∈ d.binds.sp → e.length = 2 := fun e he => wide_of_deep hdb _ (List.mem_map_of_mem (List.getElem_mem hlt)) (Bind.C_len _) e (.inr he)
    have hwsl := fun (σ : Heap) => slV_pre (σ := σ) (k := .i64) (f := Bind.C) (l := d.binds.es) (lim := d.binds.lim) (Nat.le_of_lt hlt) hww Bind.C_len
    rw [List.take_append_getElem hlt] at hj
    simp -implicitDefEqProofs [-List.map_take, -List.map_drop, go_sem, hlt, hww, hwsl]
    repeat' first
      | ((first | refine gv_split (fun h => ?_) (fun h => ?_) | refine cnd_split (fun h => ?_) (fun h => ?_) | refine cgv_split (fun h => ?_) (fun h => ?_)) <;> (try (have hp := h; simp at hp)) <;> simp -implicitDefEqProofs [-List.map_take, -List.map_drop, go_sem, h, hlt, hww, hwsl])
      | (refine And.intro (by first | omega | (simp only [maxLen]; omega) | (simp_all; done) | (simp_all; omega)) ?_; try simp -implicitDefEqProofs [-List.map_take, -List.map_drop, go_sem, hlt, hww, hwsl])
      | ((first | refine stp_ct (nameOk_ct _) (by simp [go_sem, hlt, hww, hwsl]) ?_ ?_ | refine cstp_ct (nameOk_ct _) (by simp [go_sem, hlt, hww, hwsl]) ?_ ?_ | refine stp_ct (itypeOk_ct _) (by simp [go_sem, hlt, hww, hwsl]) ?_ ?_ | refine cstp_ct (itypeOk_ct _) (by simp [go_sem, hlt, hww, hwsl]) ?_ ?_ | refine stp_ct (recordless2_ct _) (by simp [go_sem, hlt, hww, hwsl]) ?_ ?_ | refine cstp_ct (recordless2_ct _) (by simp [go_sem, hlt, hww, hwsl]) ?_ ?_); (simp [go_sem]); simp -implicitDefEqProofs [-List.map_take, -List.map_drop, go_sem, hlt, hww, hwsl])
      | ((first | refine stp_snap 3 (containsF_Bind_ct ⟨d.binds.es.take i, (d.binds.es.map Bind.C).drop i ++ d.binds.sp, d.binds.lim⟩ 213 [.iptr d.binds.es[i].C] (by simp [go_sem]) (fun o => o.name == d.binds.es[i].name) (fun o _ => fits1'_ct o d.binds.es[i])) (snap_clo (by simp [go_sem]) (by simp [go_sem]; rfl) rfl rfl (by simp [go_sem])) ?_ ?_ ?_); (simp [closedV]); (simp [go_sem]); simp -implicitDefEqProofs [-List.map_take, -List.map_drop, go_sem, hlt, hww, hwsl])
      | (refine run_dreg' (by decide) ?_; simp -implicitDefEqProofs [-List.map_take, -List.map_drop, go_sem, hlt, hww, hwsl])
      | ((first | refine kx_next () hlt (gh_auto (by simp [go_sem, dfits_L, wrap_succ hlt hm, hlt, hww, hwsl])) ?_ | refine end_tup _ (by simp) (by simp [go_sem]; rfl) (by simp [go_sem]) ?_); first | (simp [go_sem, *, declFits, LDecl.core, zeroL_core]; done) | grind [declFits, LDecl.core, zeroL_core] | (simp [go_sem, declFits, LDecl.core, zeroL_core]; grind [declFits, LDecl.core, zeroL_core]) | (simp_all [go_sem, declFits, LDecl.core, zeroL_core]; done) | (simp_all [go_sem, declFits, LDecl.core, zeroL_core]; omega))
  · have hge : d.binds.es.length ≤ i := by first | (simpa using hc) | (simp at hc; omega)
    rw [List.drop_of_length_le (l := d.binds.es) (by omega)] at hj
    simp only [List.map_nil, fitsB] at hj
    try simp -implicitDefEqProofs [-List.map_take, -List.map_drop, go_sem]
    repeat' first
      | ((first | refine gv_split (fun h => ?_) (fun h => ?_) | refine cnd_split (fun h => ?_) (fun h => ?_) | refine cgv_split (fun h => ?_) (fun h => ?_)) <;> (try (have hp := h; simp at hp)) <;> simp -implicitDefEqProofs [-List.map_take, -List.map_drop, go_sem, h])
      | (refine And.intro (by first | omega | (simp only [maxLen]; omega) | (simp_all; done) | (simp_all; omega)) ?_; try simp -implicitDefEqProofs [-List.map_take, -List.map_drop, go_sem])
      | ((first | refine stp_ct (isame_ct d.body zeroL) (by simp [go_sem]) ?_ ?_ | refine cstp_ct (isame_ct d.body zeroL) (by simp [go_sem]) ?_ ?_ | refine stp_ct (itypeOk_ct _) (by simp [go_sem]) ?_ ?_ | refine cstp_ct (itypeOk_ct _) (by simp [go_sem]) ?_ ?_ | refine stp_ct (iexprOk_ct d.body hs) (by simp [go_sem]) ?_ ?_ | refine cstp_ct (iexprOk_ct d.body hs) (by simp [go_sem]) ?_ ?_); (simp [go_sem]); simp -implicitDefEqProofs [-List.map_take, -List.map_drop, go_sem])
      | (refine run_dreg' (by decide) ?_; simp -implicitDefEqProofs [-List.map_take, -List.map_drop, go_sem])
      | ((first | refine end_tup _ (by simp) (by simp [go_sem]; rfl) (by simp [go_sem]) ?_); first | (simp [go_sem, *, declFits, LDecl.core, zeroL_core]; done) | grind [declFits, LDecl.core, zeroL_core] | (simp [go_sem, declFits, LDecl.core, zeroL_core]; grind [declFits, LDecl.core, zeroL_core]) | (simp_all [go_sem, declFits, LDecl.core, zeroL_core]; done) | (simp_all [go_sem, declFits, LDecl.core, zeroL_core]; omega))
  all_goals trace_state
end Go.Mach
