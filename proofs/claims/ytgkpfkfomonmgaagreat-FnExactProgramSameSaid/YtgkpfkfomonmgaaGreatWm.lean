import Derived.Test.YtgkpfkfomonmgaaGreatWl
/- The laws' equality and intactness, walked. -/
set_option maxHeartbeats 4000000
namespace Go.Mach
open Go Go.Proofs
set_option linter.unusedVariables false
set_option linter.unusedSimpArgs false
attribute [local go_sem] run_seq run_skip run_reg run_blk run_exit run_ret run_cond cnd_true cnd_false kx_seq_normal kx_seq_exit kx_seq_ret kx_blk_normal kx_blk_same kx_blk_other kx_blk_ret kx_loop_exit kx_loop_ret kx_done ops_nil ops_plain ops_grd gv_tt gv_ff gv_tf gv_ft gv_tup stp_ok stp_ob stp_hp stp_bad stp_if get_t get_c putO_some putO_none put_same put_ne put_σ put_base withσ_τ withσ_σ withσ_base withσ_put withσ_withσ mk_τ mk_σ mk_base mk_withσ entry_τ entry_σ entry_base calm_nil calm_plain calm_grd cgv_tt cgv_ff cgv_tf cgv_ft cgv_tup cstp_ok cstp_ob cstp_if
attribute [local irreducible] Ct Co Cs
attribute [local go_sem] evalOp notV negV pickV binV intB seqV beqV catV lensV lenlV boxV_eq newV cellsOf cellV fadrV fldV fldC loadV loadC_ag loadC_one plainV isOwn iadrV storeV lk bdV bdL renO renL renV pureV pureL noOwnV noOwnL idxV slsV optI extV resL resV ret1 mmV cnviV cnvsV nilcV eqnV bslV bslGo appV elems okE appE getD_map okO_none okO_some strC intC Sl.I
attribute [local simp] Bind.eqa Use.eqa loadC_str loadC_int Bind.C_len Bind.C_pure Bind.C_noOwn Bind.C_cell Bind.C_bd Bind.C_bdL Bind.C_ren Bind.C_any Bind.C_any0 Bind.C_any1 Bind.C_anyt Bind.C_take Bind.C_load Bind.C_load0 Bind.C_load1 Bind.C_fld Bind.C_box Bind.C_fold Use.C_len Use.C_pure Use.C_noOwn Use.C_cell Use.C_bd Use.C_bdL Use.C_ren Use.C_any Use.C_any0 Use.C_any1 Use.C_anyt Use.C_take Use.C_load Use.C_load0 Use.C_load1 Use.C_fld Use.C_box Use.C_fold LExpr.C_len LExpr.C_pure LExpr.C_noOwn LExpr.C_cell LExpr.C_bd LExpr.C_bdL LExpr.C_ren LExpr.C_any LExpr.C_any0 LExpr.C_any1 LExpr.C_anyt LExpr.C_take LExpr.C_load LExpr.C_load0 LExpr.C_load1 LExpr.C_fld LExpr.C_box LExpr.C_fold LDecl.C_len LDecl.C_pure LDecl.C_noOwn LDecl.C_cell LDecl.C_bd LDecl.C_bdL LDecl.C_ren LDecl.C_any LDecl.C_any0 LDecl.C_any1 LDecl.C_anyt LDecl.C_take LDecl.C_load LDecl.C_load0 LDecl.C_load1 LDecl.C_fld LDecl.C_box LDecl.C_fold LModule.C_len LModule.C_pure LModule.C_noOwn LModule.C_cell LModule.C_bd LModule.C_bdL LModule.C_ren LModule.C_any LModule.C_any0 LModule.C_any1 LModule.C_anyt LModule.C_take LModule.C_load LModule.C_load0 LModule.C_load1 LModule.C_fld LModule.C_box LModule.C_fold

theorem Use.beq_eq (x y : Use) : (x == y) = (x.module == y.module && x.name == y.name) := by cases x; cases y; rw [Bool.eq_iff_iff]; simp
theorem Bind.beq_eq (x y : Bind) : (x == y) = (x.name == y.name && x.type == y.type) := by cases x; cases y; rw [Bool.eq_iff_iff]; simp
theorem all2_same' : ∀ (xs ys : List LExpr), all2 (fun a b => Expr.same a.core b.core) xs ys = Expr.sames (xs.map LExpr.core) (ys.map LExpr.core)
  | [], [] => rfl
  | [], _ :: _ => rfl
  | _ :: _, [] => rfl
  | x :: xs, y :: ys => by simp [all2, Expr.sames, all2_same' xs ys]
theorem all2_map' {α β : Type} (f : α → β) (p : β → β → Bool) : ∀ (xs ys : List α), all2 (fun a b => p (f a) (f b)) xs ys = all2 p (xs.map f) (ys.map f)
  | [], [] => rfl
  | [], _ :: _ => rfl
  | _ :: _, [] => rfl
  | x :: xs, y :: ys => by simp [all2, all2_map' f p xs ys]
/-- A slice and all that lies behind it. -/
theorem slV_full {α : Type} {f : α → List PV} {l s : List α} {lim : Bool} {n : Nat} {σ : Heap} {k : IntKind} {m : Int} (hm : m = ((l.length + s.length : Nat) : Int)) (hf : ∀ x, (f x).length = n) :
    slV σ n (.imm (l.map f) (s.map f) lim) none (some (.int k m)) none = .ob True (.imm ((l ++ s).map f) [] lim) := by
  subst hm
  simp only [slV, optI, Int.toNat_zero, List.drop_zero, Int.toNat_natCast, List.length_map]
  have h2 : ((l.length : Int) + (s.length : Int)).toNat = l.length + s.length := by omega
  have h3 : (List.map f l ++ List.map f s).take (l.length + s.length) = (l ++ s).map f := by rw [List.take_of_length_le (by simp), List.map_append]
  rw [h2, h3, List.drop_of_length_le (by simp)]
  have h4 : (0 ≤ (0 : Int) ∧ (0 : Int) ≤ ((l.length + s.length : Nat) : Int) ∧ ((l.length + s.length : Nat) : Int) ≤ (l.length : Int) + (s.length : Int) ∧ (l.length : Int) + (s.length : Int) ≤ (l.length : Int) + (s.length : Int) ∧ ∀ e, e ∈ l.map f ++ s.map f → e.length = n) = True := by
    refine eq_true ⟨by omega, by omega, by omega, by omega, fun e he => ?_⟩
    rw [← List.map_append] at he
    obtain ⟨x, _, rfl⟩ := List.mem_map.1 he
    exact hf x
  simp only [h4]
  simp
/-- What lies behind a slice. -/
theorem slV_behind {α : Type} {f : α → List PV} {l s : List α} {lim : Bool} {n : Nat} {σ : Heap} {k : IntKind} {m : Int} (hm : m = ((l.length + s.length : Nat) : Int)) (hf : ∀ x, (f x).length = n) :
    slV σ n (.imm (l.map f) (s.map f) lim) (some (.int k (l.length : Int))) (some (.int k m)) none = .ob True (.imm (s.map f) [] lim) := by
  subst hm
  simp only [slV, optI, Int.toNat_natCast, List.length_map]
  have h2 : ((l.length : Int) + (s.length : Int)).toNat = l.length + s.length := by omega
  have h3 : (List.map f l ++ List.map f s).take (l.length + s.length) = l.map f ++ s.map f := List.take_of_length_le (by simp)
  have h5 : (l.map f ++ s.map f).drop l.length = s.map f := by rw [List.drop_left' (by simp)]
  rw [h2, h3, h5, List.drop_of_length_le (by simp)]
  have h4 : (0 ≤ (l.length : Int) ∧ (l.length : Int) ≤ ((l.length + s.length : Nat) : Int) ∧ ((l.length + s.length : Nat) : Int) ≤ (l.length : Int) + (s.length : Int) ∧ (l.length : Int) + (s.length : Int) ≤ (l.length : Int) + (s.length : Int) ∧ ∀ e, e ∈ l.map f ++ s.map f → e.length = n) = True := by
    refine eq_true ⟨by omega, by omega, by omega, by omega, fun e he => ?_⟩
    rw [← List.map_append] at he
    obtain ⟨x, _, rfl⟩ := List.mem_map.1 he
    exact hf x
  simp only [h4]
  simp
def mf_laws_eqUse : MF := ⟨15, [(.t 4)], (.seq (.reg [⟨(some 2), (.box 101 (.t 0)), none⟩, ⟨(some 3), (.box 101 (.t 1)), none⟩, ⟨(some 4), (.mov (.c (.bool false))), none⟩]) (.seq (.seq (.reg [⟨(some 5), (.fadr 0 (.t 2)), none⟩, ⟨(some 6), (.load false 1 (.t 5)), none⟩, ⟨(some 7), (.fadr 0 (.t 3)), none⟩, ⟨(some 8), (.load false 1 (.t 7)), none⟩, ⟨(some 9), (.seq true (.t 6) (.t 8)), none⟩]) (.cond (.t 9) (.seq (.reg [⟨(some 4), (.mov (.c (.bool false))), none⟩]) .ret) .skip)) (.seq (.seq (.reg [⟨(some 10), (.fadr 1 (.t 2)), none⟩, ⟨(some 11), (.load false 1 (.t 10)), none⟩, ⟨(some 12), (.fadr 1 (.t 3)), none⟩, ⟨(some 13), (.load false 1 (.t 12)), none⟩, ⟨(some 14), (.seq true (.t 11) (.t 13)), none⟩]) (.cond (.t 14) (.seq (.reg [⟨(some 4), (.mov (.c (.bool false))), none⟩]) .ret) .skip)) (.seq (.reg [⟨(some 4), (.mov (.c (.bool true))), none⟩]) .ret))))⟩
theorem fit_laws_eqUse : Fit Tryz.prog 242 Tryz.f242 mf_laws_eqUse := ⟨by kernel_rfl, Tryz.func242, by kernel_rfl, by kernel_rfl, by kernel_rfl, by kernel_rfl⟩
theorem eqUse_ct (x y : Use) : Ct Tryz.prog 242 [.agg x.C, .agg y.C] (.bool (x == y)) := by
  rw [Use.beq_eq]
  refine ct_of_run fit_laws_eqUse (by simp [mf_laws_eqUse]) (by simp [go_sem]) fun hd => ?_
  simp -implicitDefEqProofs [-List.map_take, -List.map_drop, go_sem, mf_laws_eqUse]
  repeat' first
    | ((first | refine gv_split (fun h => ?_) (fun h => ?_) | refine cnd_split (fun h => ?_) (fun h => ?_) | refine cgv_split (fun h => ?_) (fun h => ?_)) <;> (try (have hp := h; simp at hp)) <;> simp -implicitDefEqProofs [-List.map_take, -List.map_drop, go_sem, h])
    | (refine And.intro (by first | omega | (simp only [maxLen]; omega) | (simp_all; done) | (simp_all; omega)) ?_; try simp -implicitDefEqProofs [-List.map_take, -List.map_drop, go_sem])
    | (refine run_dreg' (by decide) ?_; simp -implicitDefEqProofs [-List.map_take, -List.map_drop, go_sem])
    | ((first | refine end_tup _ (by simp) (by simp [go_sem]; rfl) (by simp [go_sem]) ?_); first | (simp [go_sem, *]; done) | grind | (simp [go_sem]; grind) | (simp_all [go_sem]; done) | (simp_all [go_sem]; omega))
def mf_laws_eqBind : MF := ⟨15, [(.t 4)], (.seq (.reg [⟨(some 2), (.box 152 (.t 0)), none⟩, ⟨(some 3), (.box 152 (.t 1)), none⟩, ⟨(some 4), (.mov (.c (.bool false))), none⟩]) (.seq (.seq (.reg [⟨(some 5), (.fadr 0 (.t 2)), none⟩, ⟨(some 6), (.load false 1 (.t 5)), none⟩, ⟨(some 7), (.fadr 0 (.t 3)), none⟩, ⟨(some 8), (.load false 1 (.t 7)), none⟩, ⟨(some 9), (.seq true (.t 6) (.t 8)), none⟩]) (.cond (.t 9) (.seq (.reg [⟨(some 4), (.mov (.c (.bool false))), none⟩]) .ret) .skip)) (.seq (.seq (.reg [⟨(some 10), (.fadr 1 (.t 2)), none⟩, ⟨(some 11), (.load false 1 (.t 10)), none⟩, ⟨(some 12), (.fadr 1 (.t 3)), none⟩, ⟨(some 13), (.load false 1 (.t 12)), none⟩, ⟨(some 14), (.seq true (.t 11) (.t 13)), none⟩]) (.cond (.t 14) (.seq (.reg [⟨(some 4), (.mov (.c (.bool false))), none⟩]) .ret) .skip)) (.seq (.reg [⟨(some 4), (.mov (.c (.bool true))), none⟩]) .ret))))⟩
theorem fit_laws_eqBind : Fit Tryz.prog 313 Tryz.f313 mf_laws_eqBind := ⟨by kernel_rfl, Tryz.func313, by kernel_rfl, by kernel_rfl, by kernel_rfl, by kernel_rfl⟩
theorem eqBind_ct (x y : Bind) : Ct Tryz.prog 313 [.agg x.C, .agg y.C] (.bool (x == y)) := by
  rw [Bind.beq_eq]
  refine ct_of_run fit_laws_eqBind (by simp [mf_laws_eqBind]) (by simp [go_sem]) fun hd => ?_
  simp -implicitDefEqProofs [-List.map_take, -List.map_drop, go_sem, mf_laws_eqBind]
  repeat' first
    | ((first | refine gv_split (fun h => ?_) (fun h => ?_) | refine cnd_split (fun h => ?_) (fun h => ?_) | refine cgv_split (fun h => ?_) (fun h => ?_)) <;> (try (have hp := h; simp at hp)) <;> simp -implicitDefEqProofs [-List.map_take, -List.map_drop, go_sem, h])
    | (refine And.intro (by first | omega | (simp only [maxLen]; omega) | (simp_all; done) | (simp_all; omega)) ?_; try simp -implicitDefEqProofs [-List.map_take, -List.map_drop, go_sem])
    | (refine run_dreg' (by decide) ?_; simp -implicitDefEqProofs [-List.map_take, -List.map_drop, go_sem])
    | ((first | refine end_tup _ (by simp) (by simp [go_sem]; rfl) (by simp [go_sem]) ?_); first | (simp [go_sem, *]; done) | grind | (simp [go_sem]; grind) | (simp_all [go_sem]; done) | (simp_all [go_sem]; omega))
def eqUseS_L (x y : Sl Use) (i : Nat) (_ : Unit) : St := ⟨lk [(0, x.I Use.C), (1, y.I Use.C), (5, .int .i64 i)], [], []⟩
def mf_laws_eqUseS : MF := ⟨27, [(.t 4)], (.seq (.reg [⟨(some 4), (.mov (.c (.bool false))), none⟩]) (.seq (.seq (.reg [⟨(some 6), (.mov (.t 0)), none⟩, ⟨(some 7), (.lenl (.t 6)), none⟩, ⟨(some 8), (.mov (.t 1)), none⟩, ⟨(some 9), (.lenl (.t 8)), none⟩, ⟨(some 10), (.bin .neq (.t 7) (.t 9)), none⟩]) (.cond (.t 10) (.seq (.reg [⟨(some 4), (.mov (.c (.bool false))), none⟩]) .ret) .skip)) (.seq (.seq (.reg [⟨(some 5), (.mov (.c (.int .i64 0))), none⟩]) (.blk 0 (.loop (.seq (.seq (.reg [⟨(some 11), (.mov (.t 5)), none⟩, ⟨(some 12), (.mov (.t 0)), none⟩, ⟨(some 13), (.lenl (.t 12)), none⟩, ⟨(some 14), (.bin .lss (.t 11) (.t 13)), none⟩]) (.cond (.t 14) .skip (.exit 0))) (.seq (.blk 1 (.seq (.dreg [(⟨(some 17), (.mov (.t 0)), none⟩, []), (⟨(some 18), (.mov (.t 5)), none⟩, []), (⟨(some 19), (.iadr 2 (.t 17) (.t 18)), none⟩, [0, 1]), (⟨(some 20), (.load true 2 (.t 19)), none⟩, [2]), (⟨(some 21), (.mov (.t 1)), none⟩, []), (⟨(some 22), (.mov (.t 5)), none⟩, []), (⟨(some 23), (.iadr 2 (.t 21) (.t 22)), none⟩, [4, 5]), (⟨(some 24), (.load true 2 (.t 23)), none⟩, [6]), (⟨(some 25), (.call (.c (.fn 242 [])) [(.t 20), (.t 24)]), none⟩, [3, 7]), (⟨(some 26), (.not (.t 25)), none⟩, [8])]) (.cond (.t 26) (.seq (.reg [⟨(some 4), (.mov (.c (.bool false))), none⟩]) .ret) .skip))) (.reg [⟨(some 15), (.mov (.t 5)), none⟩, ⟨(some 16), (.bin .add (.t 15) (.c (.int .i64 1))), none⟩, ⟨(some 5), (.mov (.t 16)), none⟩])))))) (.seq (.reg [⟨(some 4), (.mov (.c (.bool true))), none⟩]) .ret))))⟩
theorem fit_laws_eqUseS : Fit Tryz.prog 176 Tryz.f176 mf_laws_eqUseS := ⟨by kernel_rfl, Tryz.func176, by kernel_rfl, by kernel_rfl, by kernel_rfl, by kernel_rfl⟩
theorem eqUseS_ct (x y : Sl Use) (p : Use → Use → Bool) (hg : ∀ a, a ∈ x.es → ∀ b, Ct Tryz.prog 242 [.agg a.C, .agg b.C] (.bool (p a b))) : Ct Tryz.prog 176 [x.I Use.C, y.I Use.C] (.bool (all2 p x.es y.es)) := by
  refine ct_of_run fit_laws_eqUseS (by simp [mf_laws_eqUseS]) (by simp [go_sem]) fun hd => ?_
  simp -implicitDefEqProofs [-List.map_take, -List.map_drop, go_sem, mf_laws_eqUseS]
  have hm : x.es.length ≤ maxLen := sl_deep hd.1
  have hne := all2_ne p x.es y.es
  repeat' first
    | ((first | refine gv_split (fun h => ?_) (fun h => ?_) | refine cnd_split (fun h => ?_) (fun h => ?_) | refine cgv_split (fun h => ?_) (fun h => ?_)) <;> (try (have hp := h; simp at hp)) <;> simp -implicitDefEqProofs [-List.map_take, -List.map_drop, go_sem, h])
    | (refine And.intro (by first | omega | (simp only [maxLen]; omega) | (simp_all; done) | (simp_all; omega)) ?_; try simp -implicitDefEqProofs [-List.map_take, -List.map_drop, go_sem])
    | (refine run_dreg' (by decide) ?_; simp -implicitDefEqProofs [-List.map_take, -List.map_drop, go_sem])
    | ((first | refine end_tup _ (by simp) (by simp [go_sem]; rfl) (by simp [go_sem]) ?_); first | (simp [go_sem, *]; done) | grind | (simp [go_sem]; grind) | (simp_all [go_sem]; done) | (simp_all [go_sem]; omega))
  have hlen : x.es.length = y.es.length := by omega
  refine run_iter (x.es.length) (eqUseS_L x y) (fun i a => all2 p (x.es.drop i) (y.es.drop i) = all2 p x.es y.es) () (gh_auto (by simp [go_sem, eqUseS_L])) (by first | (simp; done) | (simp []; done) | (simp []; omega) | grind) ?_
  intro i a hi hj
  simp -implicitDefEqProofs [-List.map_take, -List.map_drop, go_sem, eqUseS_L]
  refine cnd_split (fun hc => ?_) (fun hc => ?_)
  · have hlt : i < x.es.length := by first | (simpa using hc) | (simp at hc; omega)
    rw [List.drop_eq_getElem_cons (l := x.es) (by omega)] at hj
    have hlt_1 : i < y.es.length := by omega
    rw [List.drop_eq_getElem_cons (l := y.es) (by omega)] at hj
    simp only [List.map_cons, all2] at hj
    simp -implicitDefEqProofs [-List.map_take, -List.map_drop, go_sem, hlt, hlt_1]
    repeat' first
      | ((first | refine gv_split (fun h => ?_) (fun h => ?_) | refine cnd_split (fun h => ?_) (fun h => ?_) | refine cgv_split (fun h => ?_) (fun h => ?_)) <;> (try (have hp := h; simp at hp)) <;> simp -implicitDefEqProofs [-List.map_take, -List.map_drop, go_sem, h, hlt, hlt_1])
      | (refine And.intro (by first | omega | (simp only [maxLen]; omega) | (simp_all; done) | (simp_all; omega)) ?_; try simp -implicitDefEqProofs [-List.map_take, -List.map_drop, go_sem, hlt, hlt_1])
      | ((first | refine stp_ct (hg x.es[i] (List.getElem_mem hlt) y.es[i]) (by simp [go_sem, hlt, hlt_1]) ?_ ?_ | refine cstp_ct (hg x.es[i] (List.getElem_mem hlt) y.es[i]) (by simp [go_sem, hlt, hlt_1]) ?_ ?_); (simp [go_sem]); simp -implicitDefEqProofs [-List.map_take, -List.map_drop, go_sem, hlt, hlt_1])
      | (refine run_dreg' (by decide) ?_; simp -implicitDefEqProofs [-List.map_take, -List.map_drop, go_sem, hlt, hlt_1])
      | ((first | refine kx_next () hlt (gh_auto (by simp [go_sem, eqUseS_L, wrap_succ hlt hm, hlt, hlt_1])) ?_ | refine end_tup _ (by simp) (by simp [go_sem]; rfl) (by simp [go_sem]) ?_); first | (simp [go_sem, *]; done) | grind | (simp [go_sem]; grind) | (simp_all [go_sem]; done) | (simp_all [go_sem]; omega))
  · have hge : x.es.length ≤ i := by first | (simpa using hc) | (simp at hc; omega)
    rw [List.drop_of_length_le (l := x.es) (by omega)] at hj
    rw [List.drop_of_length_le (l := y.es) (by omega)] at hj
    simp only [List.map_nil, all2] at hj
    try simp -implicitDefEqProofs [-List.map_take, -List.map_drop, go_sem]
    repeat' first
      | ((first | refine gv_split (fun h => ?_) (fun h => ?_) | refine cnd_split (fun h => ?_) (fun h => ?_) | refine cgv_split (fun h => ?_) (fun h => ?_)) <;> (try (have hp := h; simp at hp)) <;> simp -implicitDefEqProofs [-List.map_take, -List.map_drop, go_sem, h])
      | (refine And.intro (by first | omega | (simp only [maxLen]; omega) | (simp_all; done) | (simp_all; omega)) ?_; try simp -implicitDefEqProofs [-List.map_take, -List.map_drop, go_sem])
      | ((first | refine stp_ct (hg x.es[i] (List.getElem_mem hlt) y.es[i]) (by simp [go_sem]) ?_ ?_ | refine cstp_ct (hg x.es[i] (List.getElem_mem hlt) y.es[i]) (by simp [go_sem]) ?_ ?_); (simp [go_sem]); simp -implicitDefEqProofs [-List.map_take, -List.map_drop, go_sem])
      | (refine run_dreg' (by decide) ?_; simp -implicitDefEqProofs [-List.map_take, -List.map_drop, go_sem])
      | ((first | refine end_tup _ (by simp) (by simp [go_sem]; rfl) (by simp [go_sem]) ?_); first | (simp [go_sem, *]; done) | grind | (simp [go_sem]; grind) | (simp_all [go_sem]; done) | (simp_all [go_sem]; omega))
def eqBindS_L (x y : Sl Bind) (i : Nat) (_ : Unit) : St := ⟨lk [(0, x.I Bind.C), (1, y.I Bind.C), (5, .int .i64 i)], [], []⟩
def mf_laws_eqBindS : MF := ⟨27, [(.t 4)], (.seq (.reg [⟨(some 4), (.mov (.c (.bool false))), none⟩]) (.seq (.seq (.reg [⟨(some 6), (.mov (.t 0)), none⟩, ⟨(some 7), (.lenl (.t 6)), none⟩, ⟨(some 8), (.mov (.t 1)), none⟩, ⟨(some 9), (.lenl (.t 8)), none⟩, ⟨(some 10), (.bin .neq (.t 7) (.t 9)), none⟩]) (.cond (.t 10) (.seq (.reg [⟨(some 4), (.mov (.c (.bool false))), none⟩]) .ret) .skip)) (.seq (.seq (.reg [⟨(some 5), (.mov (.c (.int .i64 0))), none⟩]) (.blk 0 (.loop (.seq (.seq (.reg [⟨(some 11), (.mov (.t 5)), none⟩, ⟨(some 12), (.mov (.t 0)), none⟩, ⟨(some 13), (.lenl (.t 12)), none⟩, ⟨(some 14), (.bin .lss (.t 11) (.t 13)), none⟩]) (.cond (.t 14) .skip (.exit 0))) (.seq (.blk 1 (.seq (.dreg [(⟨(some 17), (.mov (.t 0)), none⟩, []), (⟨(some 18), (.mov (.t 5)), none⟩, []), (⟨(some 19), (.iadr 2 (.t 17) (.t 18)), none⟩, [0, 1]), (⟨(some 20), (.load true 2 (.t 19)), none⟩, [2]), (⟨(some 21), (.mov (.t 1)), none⟩, []), (⟨(some 22), (.mov (.t 5)), none⟩, []), (⟨(some 23), (.iadr 2 (.t 21) (.t 22)), none⟩, [4, 5]), (⟨(some 24), (.load true 2 (.t 23)), none⟩, [6]), (⟨(some 25), (.call (.c (.fn 313 [])) [(.t 20), (.t 24)]), none⟩, [3, 7]), (⟨(some 26), (.not (.t 25)), none⟩, [8])]) (.cond (.t 26) (.seq (.reg [⟨(some 4), (.mov (.c (.bool false))), none⟩]) .ret) .skip))) (.reg [⟨(some 15), (.mov (.t 5)), none⟩, ⟨(some 16), (.bin .add (.t 15) (.c (.int .i64 1))), none⟩, ⟨(some 5), (.mov (.t 16)), none⟩])))))) (.seq (.reg [⟨(some 4), (.mov (.c (.bool true))), none⟩]) .ret))))⟩
theorem fit_laws_eqBindS : Fit Tryz.prog 287 Tryz.f287 mf_laws_eqBindS := ⟨by kernel_rfl, Tryz.func287, by kernel_rfl, by kernel_rfl, by kernel_rfl, by kernel_rfl⟩
theorem eqBindS_ct (x y : Sl Bind) (p : Bind → Bind → Bool) (hg : ∀ a, a ∈ x.es → ∀ b, Ct Tryz.prog 313 [.agg a.C, .agg b.C] (.bool (p a b))) : Ct Tryz.prog 287 [x.I Bind.C, y.I Bind.C] (.bool (all2 p x.es y.es)) := by
  refine ct_of_run fit_laws_eqBindS (by simp [mf_laws_eqBindS]) (by simp [go_sem]) fun hd => ?_
  simp -implicitDefEqProofs [-List.map_take, -List.map_drop, go_sem, mf_laws_eqBindS]
  have hm : x.es.length ≤ maxLen := sl_deep hd.1
  have hne := all2_ne p x.es y.es
  repeat' first
    | ((first | refine gv_split (fun h => ?_) (fun h => ?_) | refine cnd_split (fun h => ?_) (fun h => ?_) | refine cgv_split (fun h => ?_) (fun h => ?_)) <;> (try (have hp := h; simp at hp)) <;> simp -implicitDefEqProofs [-List.map_take, -List.map_drop, go_sem, h])
    | (refine And.intro (by first | omega | (simp only [maxLen]; omega) | (simp_all; done) | (simp_all; omega)) ?_; try simp -implicitDefEqProofs [-List.map_take, -List.map_drop, go_sem])
    | (refine run_dreg' (by decide) ?_; simp -implicitDefEqProofs [-List.map_take, -List.map_drop, go_sem])
    | ((first | refine end_tup _ (by simp) (by simp [go_sem]; rfl) (by simp [go_sem]) ?_); first | (simp [go_sem, *]; done) | grind | (simp [go_sem]; grind) | (simp_all [go_sem]; done) | (simp_all [go_sem]; omega))
  have hlen : x.es.length = y.es.length := by omega
  refine run_iter (x.es.length) (eqBindS_L x y) (fun i a => all2 p (x.es.drop i) (y.es.drop i) = all2 p x.es y.es) () (gh_auto (by simp [go_sem, eqBindS_L])) (by first | (simp; done) | (simp []; done) | (simp []; omega) | grind) ?_
  intro i a hi hj
  simp -implicitDefEqProofs [-List.map_take, -List.map_drop, go_sem, eqBindS_L]
  refine cnd_split (fun hc => ?_) (fun hc => ?_)
  · have hlt : i < x.es.length := by first | (simpa using hc) | (simp at hc; omega)
    rw [List.drop_eq_getElem_cons (l := x.es) (by omega)] at hj
    have hlt_1 : i < y.es.length := by omega
    rw [List.drop_eq_getElem_cons (l := y.es) (by omega)] at hj
    simp only [List.map_cons, all2] at hj
    simp -implicitDefEqProofs [-List.map_take, -List.map_drop, go_sem, hlt, hlt_1]
    repeat' first
      | ((first | refine gv_split (fun h => ?_) (fun h => ?_) | refine cnd_split (fun h => ?_) (fun h => ?_) | refine cgv_split (fun h => ?_) (fun h => ?_)) <;> (try (have hp := h; simp at hp)) <;> simp -implicitDefEqProofs [-List.map_take, -List.map_drop, go_sem, h, hlt, hlt_1])
      | (refine And.intro (by first | omega | (simp only [maxLen]; omega) | (simp_all; done) | (simp_all; omega)) ?_; try simp -implicitDefEqProofs [-List.map_take, -List.map_drop, go_sem, hlt, hlt_1])
      | ((first | refine stp_ct (hg x.es[i] (List.getElem_mem hlt) y.es[i]) (by simp [go_sem, hlt, hlt_1]) ?_ ?_ | refine cstp_ct (hg x.es[i] (List.getElem_mem hlt) y.es[i]) (by simp [go_sem, hlt, hlt_1]) ?_ ?_); (simp [go_sem]); simp -implicitDefEqProofs [-List.map_take, -List.map_drop, go_sem, hlt, hlt_1])
      | (refine run_dreg' (by decide) ?_; simp -implicitDefEqProofs [-List.map_take, -List.map_drop, go_sem, hlt, hlt_1])
      | ((first | refine kx_next () hlt (gh_auto (by simp [go_sem, eqBindS_L, wrap_succ hlt hm, hlt, hlt_1])) ?_ | refine end_tup _ (by simp) (by simp [go_sem]; rfl) (by simp [go_sem]) ?_); first | (simp [go_sem, *]; done) | grind | (simp [go_sem]; grind) | (simp_all [go_sem]; done) | (simp_all [go_sem]; omega))
  · have hge : x.es.length ≤ i := by first | (simpa using hc) | (simp at hc; omega)
    rw [List.drop_of_length_le (l := x.es) (by omega)] at hj
    rw [List.drop_of_length_le (l := y.es) (by omega)] at hj
    simp only [List.map_nil, all2] at hj
    try simp -implicitDefEqProofs [-List.map_take, -List.map_drop, go_sem]
    repeat' first
      | ((first | refine gv_split (fun h => ?_) (fun h => ?_) | refine cnd_split (fun h => ?_) (fun h => ?_) | refine cgv_split (fun h => ?_) (fun h => ?_)) <;> (try (have hp := h; simp at hp)) <;> simp -implicitDefEqProofs [-List.map_take, -List.map_drop, go_sem, h])
      | (refine And.intro (by first | omega | (simp only [maxLen]; omega) | (simp_all; done) | (simp_all; omega)) ?_; try simp -implicitDefEqProofs [-List.map_take, -List.map_drop, go_sem])
      | ((first | refine stp_ct (hg x.es[i] (List.getElem_mem hlt) y.es[i]) (by simp [go_sem]) ?_ ?_ | refine cstp_ct (hg x.es[i] (List.getElem_mem hlt) y.es[i]) (by simp [go_sem]) ?_ ?_); (simp [go_sem]); simp -implicitDefEqProofs [-List.map_take, -List.map_drop, go_sem])
      | (refine run_dreg' (by decide) ?_; simp -implicitDefEqProofs [-List.map_take, -List.map_drop, go_sem])
      | ((first | refine end_tup _ (by simp) (by simp [go_sem]; rfl) (by simp [go_sem]) ?_); first | (simp [go_sem, *]; done) | grind | (simp [go_sem]; grind) | (simp_all [go_sem]; done) | (simp_all [go_sem]; omega))
def eqExprS_L (x y : Sl LExpr) (i : Nat) (_ : Unit) : St := ⟨lk [(0, x.I LExpr.C), (1, y.I LExpr.C), (5, .int .i64 i)], [], []⟩
def mf_laws_eqExprS : MF := ⟨27, [(.t 4)], (.seq (.reg [⟨(some 4), (.mov (.c (.bool false))), none⟩]) (.seq (.seq (.reg [⟨(some 6), (.mov (.t 0)), none⟩, ⟨(some 7), (.lenl (.t 6)), none⟩, ⟨(some 8), (.mov (.t 1)), none⟩, ⟨(some 9), (.lenl (.t 8)), none⟩, ⟨(some 10), (.bin .neq (.t 7) (.t 9)), none⟩]) (.cond (.t 10) (.seq (.reg [⟨(some 4), (.mov (.c (.bool false))), none⟩]) .ret) .skip)) (.seq (.seq (.reg [⟨(some 5), (.mov (.c (.int .i64 0))), none⟩]) (.blk 0 (.loop (.seq (.seq (.reg [⟨(some 11), (.mov (.t 5)), none⟩, ⟨(some 12), (.mov (.t 0)), none⟩, ⟨(some 13), (.lenl (.t 12)), none⟩, ⟨(some 14), (.bin .lss (.t 11) (.t 13)), none⟩]) (.cond (.t 14) .skip (.exit 0))) (.seq (.blk 1 (.seq (.dreg [(⟨(some 17), (.mov (.t 0)), none⟩, []), (⟨(some 18), (.mov (.t 5)), none⟩, []), (⟨(some 19), (.iadr 4 (.t 17) (.t 18)), none⟩, [0, 1]), (⟨(some 20), (.load true 4 (.t 19)), none⟩, [2]), (⟨(some 21), (.mov (.t 1)), none⟩, []), (⟨(some 22), (.mov (.t 5)), none⟩, []), (⟨(some 23), (.iadr 4 (.t 21) (.t 22)), none⟩, [4, 5]), (⟨(some 24), (.load true 4 (.t 23)), none⟩, [6]), (⟨(some 25), (.call (.c (.fn 288 [])) [(.t 20), (.t 24)]), none⟩, [3, 7]), (⟨(some 26), (.not (.t 25)), none⟩, [8])]) (.cond (.t 26) (.seq (.reg [⟨(some 4), (.mov (.c (.bool false))), none⟩]) .ret) .skip))) (.reg [⟨(some 15), (.mov (.t 5)), none⟩, ⟨(some 16), (.bin .add (.t 15) (.c (.int .i64 1))), none⟩, ⟨(some 5), (.mov (.t 16)), none⟩])))))) (.seq (.reg [⟨(some 4), (.mov (.c (.bool true))), none⟩]) .ret))))⟩
theorem fit_laws_eqExprS : Fit Tryz.prog 314 Tryz.f314 mf_laws_eqExprS := ⟨by kernel_rfl, Tryz.func314, by kernel_rfl, by kernel_rfl, by kernel_rfl, by kernel_rfl⟩
theorem eqExprS_ct (x y : Sl LExpr) (p : LExpr → LExpr → Bool) (hg : ∀ a, a ∈ x.es → ∀ b, Ct Tryz.prog 288 [.agg a.C, .agg b.C] (.bool (p a b))) : Ct Tryz.prog 314 [x.I LExpr.C, y.I LExpr.C] (.bool (all2 p x.es y.es)) := by
  refine ct_of_run fit_laws_eqExprS (by simp [mf_laws_eqExprS]) (by simp [go_sem]) fun hd => ?_
  simp -implicitDefEqProofs [-List.map_take, -List.map_drop, go_sem, mf_laws_eqExprS]
  have hm : x.es.length ≤ maxLen := sl_deep hd.1
  have hne := all2_ne p x.es y.es
  repeat' first
    | ((first | refine gv_split (fun h => ?_) (fun h => ?_) | refine cnd_split (fun h => ?_) (fun h => ?_) | refine cgv_split (fun h => ?_) (fun h => ?_)) <;> (try (have hp := h; simp at hp)) <;> simp -implicitDefEqProofs [-List.map_take, -List.map_drop, go_sem, h])
    | (refine And.intro (by first | omega | (simp only [maxLen]; omega) | (simp_all; done) | (simp_all; omega)) ?_; try simp -implicitDefEqProofs [-List.map_take, -List.map_drop, go_sem])
    | (refine run_dreg' (by decide) ?_; simp -implicitDefEqProofs [-List.map_take, -List.map_drop, go_sem])
    | ((first | refine end_tup _ (by simp) (by simp [go_sem]; rfl) (by simp [go_sem]) ?_); first | (simp [go_sem, *]; done) | grind | (simp [go_sem]; grind) | (simp_all [go_sem]; done) | (simp_all [go_sem]; omega))
  have hlen : x.es.length = y.es.length := by omega
  refine run_iter (x.es.length) (eqExprS_L x y) (fun i a => all2 p (x.es.drop i) (y.es.drop i) = all2 p x.es y.es) () (gh_auto (by simp [go_sem, eqExprS_L])) (by first | (simp; done) | (simp []; done) | (simp []; omega) | grind) ?_
  intro i a hi hj
  simp -implicitDefEqProofs [-List.map_take, -List.map_drop, go_sem, eqExprS_L]
  refine cnd_split (fun hc => ?_) (fun hc => ?_)
  · have hlt : i < x.es.length := by first | (simpa using hc) | (simp at hc; omega)
    rw [List.drop_eq_getElem_cons (l := x.es) (by omega)] at hj
    have hlt_1 : i < y.es.length := by omega
    rw [List.drop_eq_getElem_cons (l := y.es) (by omega)] at hj
    simp only [List.map_cons, all2] at hj
    simp -implicitDefEqProofs [-List.map_take, -List.map_drop, go_sem, hlt, hlt_1]
    repeat' first
      | ((first | refine gv_split (fun h => ?_) (fun h => ?_) | refine cnd_split (fun h => ?_) (fun h => ?_) | refine cgv_split (fun h => ?_) (fun h => ?_)) <;> (try (have hp := h; simp at hp)) <;> simp -implicitDefEqProofs [-List.map_take, -List.map_drop, go_sem, h, hlt, hlt_1])
      | (refine And.intro (by first | omega | (simp only [maxLen]; omega) | (simp_all; done) | (simp_all; omega)) ?_; try simp -implicitDefEqProofs [-List.map_take, -List.map_drop, go_sem, hlt, hlt_1])
      | ((first | refine stp_ct (hg x.es[i] (List.getElem_mem hlt) y.es[i]) (by simp [go_sem, hlt, hlt_1]) ?_ ?_ | refine cstp_ct (hg x.es[i] (List.getElem_mem hlt) y.es[i]) (by simp [go_sem, hlt, hlt_1]) ?_ ?_); (simp [go_sem]); simp -implicitDefEqProofs [-List.map_take, -List.map_drop, go_sem, hlt, hlt_1])
      | (refine run_dreg' (by decide) ?_; simp -implicitDefEqProofs [-List.map_take, -List.map_drop, go_sem, hlt, hlt_1])
      | ((first | refine kx_next () hlt (gh_auto (by simp [go_sem, eqExprS_L, wrap_succ hlt hm, hlt, hlt_1])) ?_ | refine end_tup _ (by simp) (by simp [go_sem]; rfl) (by simp [go_sem]) ?_); first | (simp [go_sem, *]; done) | grind | (simp [go_sem]; grind) | (simp_all [go_sem]; done) | (simp_all [go_sem]; omega))
  · have hge : x.es.length ≤ i := by first | (simpa using hc) | (simp at hc; omega)
    rw [List.drop_of_length_le (l := x.es) (by omega)] at hj
    rw [List.drop_of_length_le (l := y.es) (by omega)] at hj
    simp only [List.map_nil, all2] at hj
    try simp -implicitDefEqProofs [-List.map_take, -List.map_drop, go_sem]
    repeat' first
      | ((first | refine gv_split (fun h => ?_) (fun h => ?_) | refine cnd_split (fun h => ?_) (fun h => ?_) | refine cgv_split (fun h => ?_) (fun h => ?_)) <;> (try (have hp := h; simp at hp)) <;> simp -implicitDefEqProofs [-List.map_take, -List.map_drop, go_sem, h])
      | (refine And.intro (by first | omega | (simp only [maxLen]; omega) | (simp_all; done) | (simp_all; omega)) ?_; try simp -implicitDefEqProofs [-List.map_take, -List.map_drop, go_sem])
      | ((first | refine stp_ct (hg x.es[i] (List.getElem_mem hlt) y.es[i]) (by simp [go_sem]) ?_ ?_ | refine cstp_ct (hg x.es[i] (List.getElem_mem hlt) y.es[i]) (by simp [go_sem]) ?_ ?_); (simp [go_sem]); simp -implicitDefEqProofs [-List.map_take, -List.map_drop, go_sem])
      | (refine run_dreg' (by decide) ?_; simp -implicitDefEqProofs [-List.map_take, -List.map_drop, go_sem])
      | ((first | refine end_tup _ (by simp) (by simp [go_sem]; rfl) (by simp [go_sem]) ?_); first | (simp [go_sem, *]; done) | grind | (simp [go_sem]; grind) | (simp_all [go_sem]; done) | (simp_all [go_sem]; omega))
def mf_laws_eqExpr : MF := ⟨26, [(.t 4)], (.seq (.reg [⟨(some 2), (.box 31 (.t 0)), none⟩, ⟨(some 3), (.box 31 (.t 1)), none⟩, ⟨(some 4), (.mov (.c (.bool false))), none⟩]) (.seq (.seq (.reg [⟨(some 5), (.fadr 0 (.t 2)), none⟩, ⟨(some 6), (.load false 1 (.t 5)), none⟩, ⟨(some 7), (.fadr 0 (.t 3)), none⟩, ⟨(some 8), (.load false 1 (.t 7)), none⟩, ⟨(some 9), (.bin .neq (.t 6) (.t 8)), none⟩]) (.cond (.t 9) (.seq (.reg [⟨(some 4), (.mov (.c (.bool false))), none⟩]) .ret) .skip)) (.seq (.seq (.reg [⟨(some 10), (.fadr 1 (.t 2)), none⟩, ⟨(some 11), (.load false 1 (.t 10)), none⟩, ⟨(some 12), (.fadr 1 (.t 3)), none⟩, ⟨(some 13), (.load false 1 (.t 12)), none⟩, ⟨(some 14), (.bin .neq (.t 11) (.t 13)), none⟩]) (.cond (.t 14) (.seq (.reg [⟨(some 4), (.mov (.c (.bool false))), none⟩]) .ret) .skip)) (.seq (.seq (.reg [⟨(some 15), (.fadr 2 (.t 2)), none⟩, ⟨(some 16), (.load false 1 (.t 15)), none⟩, ⟨(some 17), (.fadr 2 (.t 3)), none⟩, ⟨(some 18), (.load false 1 (.t 17)), none⟩, ⟨(some 19), (.seq true (.t 16) (.t 18)), none⟩]) (.cond (.t 19) (.seq (.reg [⟨(some 4), (.mov (.c (.bool false))), none⟩]) .ret) .skip)) (.seq (.seq (.reg [⟨(some 20), (.fadr 3 (.t 2)), none⟩, ⟨(some 21), (.load false 1 (.t 20)), none⟩, ⟨(some 22), (.fadr 3 (.t 3)), none⟩, ⟨(some 23), (.load false 1 (.t 22)), none⟩, ⟨(some 24), (.call (.c (.fn 314 [])) [(.t 21), (.t 23)]), none⟩, ⟨(some 25), (.not (.t 24)), none⟩]) (.cond (.t 25) (.seq (.reg [⟨(some 4), (.mov (.c (.bool false))), none⟩]) .ret) .skip)) (.seq (.reg [⟨(some 4), (.mov (.c (.bool true))), none⟩]) .ret))))))⟩
theorem fit_laws_eqExpr : Fit Tryz.prog 288 Tryz.f288 mf_laws_eqExpr := ⟨by kernel_rfl, Tryz.func288, by kernel_rfl, by kernel_rfl, by kernel_rfl, by kernel_rfl⟩
theorem eqExpr_ct (x y : LExpr) : Ct Tryz.prog 288 [.agg x.C, .agg y.C] (.bool (Expr.same x.core y.core)) := by
  have h1 := Expr.same_eq x.core y.core
  rw [LExpr.core_kind, LExpr.core_num, LExpr.core_text, LExpr.core_kids, LExpr.core_kind, LExpr.core_num, LExpr.core_text, LExpr.core_kids, ← all2_same'] at h1
  have h2 := eqExprS_ct ⟨x.kids, x.sp, x.lim⟩ ⟨y.kids, y.sp, y.lim⟩ (fun a b => Expr.same a.core b.core) fun a ha b => eqExpr_ct a b
  rw [h1]
  clear h1
  refine ct_of_run fit_laws_eqExpr (by simp [mf_laws_eqExpr]) (by simp [go_sem]) fun hd => ?_
  simp -implicitDefEqProofs [-List.map_take, -List.map_drop, go_sem, mf_laws_eqExpr]
  repeat' first
    | ((first | refine gv_split (fun h => ?_) (fun h => ?_) | refine cnd_split (fun h => ?_) (fun h => ?_) | refine cgv_split (fun h => ?_) (fun h => ?_)) <;> (try (have hp := h; simp at hp)) <;> simp -implicitDefEqProofs [-List.map_take, -List.map_drop, go_sem, h])
    | (refine And.intro (by first | omega | (simp only [maxLen]; omega) | (simp_all; done) | (simp_all; omega)) ?_; try simp -implicitDefEqProofs [-List.map_take, -List.map_drop, go_sem])
    | ((first | refine stp_ct (h2) (by simp [go_sem]) ?_ ?_ | refine cstp_ct (h2) (by simp [go_sem]) ?_ ?_); (simp [go_sem]); simp -implicitDefEqProofs [-List.map_take, -List.map_drop, go_sem])
    | (refine run_dreg' (by decide) ?_; simp -implicitDefEqProofs [-List.map_take, -List.map_drop, go_sem])
    | ((first | refine end_tup _ (by simp) (by simp [go_sem]; rfl) (by simp [go_sem]) ?_); first | (simp [go_sem, *]; done) | grind | (simp [go_sem]; grind) | (simp_all [go_sem]; done) | (simp_all [go_sem]; omega))
termination_by SizeOf.sizeOf x
decreasing_by exact LExpr.kid_lt ha
def mf_laws_eqDecl : MF := ⟨32, [(.t 4)], (.seq (.reg [⟨(some 2), (.box 46 (.t 0)), none⟩, ⟨(some 3), (.box 46 (.t 1)), none⟩, ⟨(some 4), (.mov (.c (.bool false))), none⟩]) (.seq (.seq (.reg [⟨(some 5), (.fadr 0 (.t 2)), none⟩, ⟨(some 6), (.load false 1 (.t 5)), none⟩, ⟨(some 7), (.fadr 0 (.t 3)), none⟩, ⟨(some 8), (.load false 1 (.t 7)), none⟩, ⟨(some 9), (.bin .neq (.t 6) (.t 8)), none⟩]) (.cond (.t 9) (.seq (.reg [⟨(some 4), (.mov (.c (.bool false))), none⟩]) .ret) .skip)) (.seq (.seq (.reg [⟨(some 10), (.fadr 1 (.t 2)), none⟩, ⟨(some 11), (.load false 1 (.t 10)), none⟩, ⟨(some 12), (.fadr 1 (.t 3)), none⟩, ⟨(some 13), (.load false 1 (.t 12)), none⟩, ⟨(some 14), (.seq true (.t 11) (.t 13)), none⟩]) (.cond (.t 14) (.seq (.reg [⟨(some 4), (.mov (.c (.bool false))), none⟩]) .ret) .skip)) (.seq (.seq (.reg [⟨(some 15), (.fadr 2 (.t 2)), none⟩, ⟨(some 16), (.load false 1 (.t 15)), none⟩, ⟨(some 17), (.fadr 2 (.t 3)), none⟩, ⟨(some 18), (.load false 1 (.t 17)), none⟩, ⟨(some 19), (.call (.c (.fn 287 [])) [(.t 16), (.t 18)]), none⟩, ⟨(some 20), (.not (.t 19)), none⟩]) (.cond (.t 20) (.seq (.reg [⟨(some 4), (.mov (.c (.bool false))), none⟩]) .ret) .skip)) (.seq (.seq (.reg [⟨(some 21), (.fadr 3 (.t 2)), none⟩, ⟨(some 22), (.load false 1 (.t 21)), none⟩, ⟨(some 23), (.fadr 3 (.t 3)), none⟩, ⟨(some 24), (.load false 1 (.t 23)), none⟩, ⟨(some 25), (.seq true (.t 22) (.t 24)), none⟩]) (.cond (.t 25) (.seq (.reg [⟨(some 4), (.mov (.c (.bool false))), none⟩]) .ret) .skip)) (.seq (.seq (.reg [⟨(some 26), (.fadr 4 (.t 2)), none⟩, ⟨(some 27), (.load true 4 (.t 26)), none⟩, ⟨(some 28), (.fadr 4 (.t 3)), none⟩, ⟨(some 29), (.load true 4 (.t 28)), none⟩, ⟨(some 30), (.call (.c (.fn 288 [])) [(.t 27), (.t 29)]), none⟩, ⟨(some 31), (.not (.t 30)), none⟩]) (.cond (.t 31) (.seq (.reg [⟨(some 4), (.mov (.c (.bool false))), none⟩]) .ret) .skip)) (.seq (.reg [⟨(some 4), (.mov (.c (.bool true))), none⟩]) .ret)))))))⟩
theorem fit_laws_eqDecl : Fit Tryz.prog 243 Tryz.f243 mf_laws_eqDecl := ⟨by kernel_rfl, Tryz.func243, by kernel_rfl, by kernel_rfl, by kernel_rfl, by kernel_rfl⟩
theorem eqDecl_ct (x y : LDecl) : Ct Tryz.prog 243 [.agg x.C, .agg y.C] (.bool (sameDecl x.core y.core)) := by
  have h1 := eqBindS_ct x.binds y.binds (· == ·) (fun a _ b => eqBind_ct a b)
  refine ct_of_run fit_laws_eqDecl (by simp [mf_laws_eqDecl]) (by simp [go_sem]) fun hd => ?_
  simp -implicitDefEqProofs [-List.map_take, -List.map_drop, go_sem, mf_laws_eqDecl]
  repeat' first
    | ((first | refine gv_split (fun h => ?_) (fun h => ?_) | refine cnd_split (fun h => ?_) (fun h => ?_) | refine cgv_split (fun h => ?_) (fun h => ?_)) <;> (try (have hp := h; simp at hp)) <;> simp -implicitDefEqProofs [-List.map_take, -List.map_drop, go_sem, h])
    | (refine And.intro (by first | omega | (simp only [maxLen]; omega) | (simp_all; done) | (simp_all; omega)) ?_; try simp -implicitDefEqProofs [-List.map_take, -List.map_drop, go_sem])
    | ((first | refine stp_ct (h1) (by simp [go_sem]) ?_ ?_ | refine cstp_ct (h1) (by simp [go_sem]) ?_ ?_ | refine stp_ct (eqExpr_ct x.body y.body) (by simp [go_sem]) ?_ ?_ | refine cstp_ct (eqExpr_ct x.body y.body) (by simp [go_sem]) ?_ ?_); (simp [go_sem]); simp -implicitDefEqProofs [-List.map_take, -List.map_drop, go_sem])
    | (refine run_dreg' (by decide) ?_; simp -implicitDefEqProofs [-List.map_take, -List.map_drop, go_sem])
    | ((first | refine end_tup _ (by simp) (by simp [go_sem]; rfl) (by simp [go_sem]) ?_); first | (simp [go_sem, *, sameDecl]; done) | grind [sameDecl] | (simp [go_sem, sameDecl]; grind [sameDecl]) | (simp_all [go_sem, sameDecl]; done) | (simp_all [go_sem, sameDecl]; omega))
def eqDeclS_L (x y : Sl LDecl) (i : Nat) (_ : Unit) : St := ⟨lk [(0, x.I LDecl.C), (1, y.I LDecl.C), (5, .int .i64 i)], [], []⟩
def mf_laws_eqDeclS : MF := ⟨27, [(.t 4)], (.seq (.reg [⟨(some 4), (.mov (.c (.bool false))), none⟩]) (.seq (.seq (.reg [⟨(some 6), (.mov (.t 0)), none⟩, ⟨(some 7), (.lenl (.t 6)), none⟩, ⟨(some 8), (.mov (.t 1)), none⟩, ⟨(some 9), (.lenl (.t 8)), none⟩, ⟨(some 10), (.bin .neq (.t 7) (.t 9)), none⟩]) (.cond (.t 10) (.seq (.reg [⟨(some 4), (.mov (.c (.bool false))), none⟩]) .ret) .skip)) (.seq (.seq (.reg [⟨(some 5), (.mov (.c (.int .i64 0))), none⟩]) (.blk 0 (.loop (.seq (.seq (.reg [⟨(some 11), (.mov (.t 5)), none⟩, ⟨(some 12), (.mov (.t 0)), none⟩, ⟨(some 13), (.lenl (.t 12)), none⟩, ⟨(some 14), (.bin .lss (.t 11) (.t 13)), none⟩]) (.cond (.t 14) .skip (.exit 0))) (.seq (.blk 1 (.seq (.dreg [(⟨(some 17), (.mov (.t 0)), none⟩, []), (⟨(some 18), (.mov (.t 5)), none⟩, []), (⟨(some 19), (.iadr 8 (.t 17) (.t 18)), none⟩, [0, 1]), (⟨(some 20), (.load true 8 (.t 19)), none⟩, [2]), (⟨(some 21), (.mov (.t 1)), none⟩, []), (⟨(some 22), (.mov (.t 5)), none⟩, []), (⟨(some 23), (.iadr 8 (.t 21) (.t 22)), none⟩, [4, 5]), (⟨(some 24), (.load true 8 (.t 23)), none⟩, [6]), (⟨(some 25), (.call (.c (.fn 243 [])) [(.t 20), (.t 24)]), none⟩, [3, 7]), (⟨(some 26), (.not (.t 25)), none⟩, [8])]) (.cond (.t 26) (.seq (.reg [⟨(some 4), (.mov (.c (.bool false))), none⟩]) .ret) .skip))) (.reg [⟨(some 15), (.mov (.t 5)), none⟩, ⟨(some 16), (.bin .add (.t 15) (.c (.int .i64 1))), none⟩, ⟨(some 5), (.mov (.t 16)), none⟩])))))) (.seq (.reg [⟨(some 4), (.mov (.c (.bool true))), none⟩]) .ret))))⟩
theorem fit_laws_eqDeclS : Fit Tryz.prog 177 Tryz.f177 mf_laws_eqDeclS := ⟨by kernel_rfl, Tryz.func177, by kernel_rfl, by kernel_rfl, by kernel_rfl, by kernel_rfl⟩
theorem eqDeclS_ct (x y : Sl LDecl) (p : LDecl → LDecl → Bool) (hg : ∀ a, a ∈ x.es → ∀ b, Ct Tryz.prog 243 [.agg a.C, .agg b.C] (.bool (p a b))) : Ct Tryz.prog 177 [x.I LDecl.C, y.I LDecl.C] (.bool (all2 p x.es y.es)) := by
  refine ct_of_run fit_laws_eqDeclS (by simp [mf_laws_eqDeclS]) (by simp [go_sem]) fun hd => ?_
  simp -implicitDefEqProofs [-List.map_take, -List.map_drop, go_sem, mf_laws_eqDeclS]
  have hm : x.es.length ≤ maxLen := sl_deep hd.1
  have hne := all2_ne p x.es y.es
  repeat' first
    | ((first | refine gv_split (fun h => ?_) (fun h => ?_) | refine cnd_split (fun h => ?_) (fun h => ?_) | refine cgv_split (fun h => ?_) (fun h => ?_)) <;> (try (have hp := h; simp at hp)) <;> simp -implicitDefEqProofs [-List.map_take, -List.map_drop, go_sem, h])
    | (refine And.intro (by first | omega | (simp only [maxLen]; omega) | (simp_all; done) | (simp_all; omega)) ?_; try simp -implicitDefEqProofs [-List.map_take, -List.map_drop, go_sem])
    | (refine run_dreg' (by decide) ?_; simp -implicitDefEqProofs [-List.map_take, -List.map_drop, go_sem])
    | ((first | refine end_tup _ (by simp) (by simp [go_sem]; rfl) (by simp [go_sem]) ?_); first | (simp [go_sem, *]; done) | grind | (simp [go_sem]; grind) | (simp_all [go_sem]; done) | (simp_all [go_sem]; omega))
  have hlen : x.es.length = y.es.length := by omega
  refine run_iter (x.es.length) (eqDeclS_L x y) (fun i a => all2 p (x.es.drop i) (y.es.drop i) = all2 p x.es y.es) () (gh_auto (by simp [go_sem, eqDeclS_L])) (by first | (simp; done) | (simp []; done) | (simp []; omega) | grind) ?_
  intro i a hi hj
  simp -implicitDefEqProofs [-List.map_take, -List.map_drop, go_sem, eqDeclS_L]
  refine cnd_split (fun hc => ?_) (fun hc => ?_)
  · have hlt : i < x.es.length := by first | (simpa using hc) | (simp at hc; omega)
    rw [List.drop_eq_getElem_cons (l := x.es) (by omega)] at hj
    have hlt_1 : i < y.es.length := by omega
    rw [List.drop_eq_getElem_cons (l := y.es) (by omega)] at hj
    simp only [List.map_cons, all2] at hj
    simp -implicitDefEqProofs [-List.map_take, -List.map_drop, go_sem, hlt, hlt_1]
    repeat' first
      | ((first | refine gv_split (fun h => ?_) (fun h => ?_) | refine cnd_split (fun h => ?_) (fun h => ?_) | refine cgv_split (fun h => ?_) (fun h => ?_)) <;> (try (have hp := h; simp at hp)) <;> simp -implicitDefEqProofs [-List.map_take, -List.map_drop, go_sem, h, hlt, hlt_1])
      | (refine And.intro (by first | omega | (simp only [maxLen]; omega) | (simp_all; done) | (simp_all; omega)) ?_; try simp -implicitDefEqProofs [-List.map_take, -List.map_drop, go_sem, hlt, hlt_1])
      | ((first | refine stp_ct (hg x.es[i] (List.getElem_mem hlt) y.es[i]) (by simp [go_sem, hlt, hlt_1]) ?_ ?_ | refine cstp_ct (hg x.es[i] (List.getElem_mem hlt) y.es[i]) (by simp [go_sem, hlt, hlt_1]) ?_ ?_); (simp [go_sem]); simp -implicitDefEqProofs [-List.map_take, -List.map_drop, go_sem, hlt, hlt_1])
      | (refine run_dreg' (by decide) ?_; simp -implicitDefEqProofs [-List.map_take, -List.map_drop, go_sem, hlt, hlt_1])
      | ((first | refine kx_next () hlt (gh_auto (by simp [go_sem, eqDeclS_L, wrap_succ hlt hm, hlt, hlt_1])) ?_ | refine end_tup _ (by simp) (by simp [go_sem]; rfl) (by simp [go_sem]) ?_); first | (simp [go_sem, *]; done) | grind | (simp [go_sem]; grind) | (simp_all [go_sem]; done) | (simp_all [go_sem]; omega))
  · have hge : x.es.length ≤ i := by first | (simpa using hc) | (simp at hc; omega)
    rw [List.drop_of_length_le (l := x.es) (by omega)] at hj
    rw [List.drop_of_length_le (l := y.es) (by omega)] at hj
    simp only [List.map_nil, all2] at hj
    try simp -implicitDefEqProofs [-List.map_take, -List.map_drop, go_sem]
    repeat' first
      | ((first | refine gv_split (fun h => ?_) (fun h => ?_) | refine cnd_split (fun h => ?_) (fun h => ?_) | refine cgv_split (fun h => ?_) (fun h => ?_)) <;> (try (have hp := h; simp at hp)) <;> simp -implicitDefEqProofs [-List.map_take, -List.map_drop, go_sem, h])
      | (refine And.intro (by first | omega | (simp only [maxLen]; omega) | (simp_all; done) | (simp_all; omega)) ?_; try simp -implicitDefEqProofs [-List.map_take, -List.map_drop, go_sem])
      | ((first | refine stp_ct (hg x.es[i] (List.getElem_mem hlt) y.es[i]) (by simp [go_sem]) ?_ ?_ | refine cstp_ct (hg x.es[i] (List.getElem_mem hlt) y.es[i]) (by simp [go_sem]) ?_ ?_); (simp [go_sem]); simp -implicitDefEqProofs [-List.map_take, -List.map_drop, go_sem])
      | (refine run_dreg' (by decide) ?_; simp -implicitDefEqProofs [-List.map_take, -List.map_drop, go_sem])
      | ((first | refine end_tup _ (by simp) (by simp [go_sem]; rfl) (by simp [go_sem]) ?_); first | (simp [go_sem, *]; done) | grind | (simp [go_sem]; grind) | (simp_all [go_sem]; done) | (simp_all [go_sem]; omega))
def mf_laws_eqModule : MF := ⟨22, [(.t 4)], (.seq (.reg [⟨(some 2), (.box 43 (.t 0)), none⟩, ⟨(some 3), (.box 43 (.t 1)), none⟩, ⟨(some 4), (.mov (.c (.bool false))), none⟩]) (.seq (.seq (.reg [⟨(some 5), (.fadr 0 (.t 2)), none⟩, ⟨(some 6), (.load false 1 (.t 5)), none⟩, ⟨(some 7), (.fadr 0 (.t 3)), none⟩, ⟨(some 8), (.load false 1 (.t 7)), none⟩, ⟨(some 9), (.seq true (.t 6) (.t 8)), none⟩]) (.cond (.t 9) (.seq (.reg [⟨(some 4), (.mov (.c (.bool false))), none⟩]) .ret) .skip)) (.seq (.seq (.reg [⟨(some 10), (.fadr 1 (.t 2)), none⟩, ⟨(some 11), (.load false 1 (.t 10)), none⟩, ⟨(some 12), (.fadr 1 (.t 3)), none⟩, ⟨(some 13), (.load false 1 (.t 12)), none⟩, ⟨(some 14), (.call (.c (.fn 176 [])) [(.t 11), (.t 13)]), none⟩, ⟨(some 15), (.not (.t 14)), none⟩]) (.cond (.t 15) (.seq (.reg [⟨(some 4), (.mov (.c (.bool false))), none⟩]) .ret) .skip)) (.seq (.seq (.reg [⟨(some 16), (.fadr 2 (.t 2)), none⟩, ⟨(some 17), (.load false 1 (.t 16)), none⟩, ⟨(some 18), (.fadr 2 (.t 3)), none⟩, ⟨(some 19), (.load false 1 (.t 18)), none⟩, ⟨(some 20), (.call (.c (.fn 177 [])) [(.t 17), (.t 19)]), none⟩, ⟨(some 21), (.not (.t 20)), none⟩]) (.cond (.t 21) (.seq (.reg [⟨(some 4), (.mov (.c (.bool false))), none⟩]) .ret) .skip)) (.seq (.reg [⟨(some 4), (.mov (.c (.bool true))), none⟩]) .ret)))))⟩
theorem fit_laws_eqModule : Fit Tryz.prog 95 Tryz.f95 mf_laws_eqModule := ⟨by kernel_rfl, Tryz.func95, by kernel_rfl, by kernel_rfl, by kernel_rfl, by kernel_rfl⟩
theorem eqModule_ct (x y : LModule) : Ct Tryz.prog 95 [.agg x.C, .agg y.C] (.bool (sameModule x.core y.core)) := by
  have h1 := eqUseS_ct x.uses y.uses (· == ·) (fun a _ b => eqUse_ct a b)
  have h2 := eqDeclS_ct x.decls y.decls (fun a b => sameDecl a.core b.core) (fun a _ b => eqDecl_ct a b)
  refine ct_of_run fit_laws_eqModule (by simp [mf_laws_eqModule]) (by simp [go_sem]) fun hd => ?_
  simp -implicitDefEqProofs [-List.map_take, -List.map_drop, go_sem, mf_laws_eqModule]
  repeat' first
    | ((first | refine gv_split (fun h => ?_) (fun h => ?_) | refine cnd_split (fun h => ?_) (fun h => ?_) | refine cgv_split (fun h => ?_) (fun h => ?_)) <;> (try (have hp := h; simp at hp)) <;> simp -implicitDefEqProofs [-List.map_take, -List.map_drop, go_sem, h])
    | (refine And.intro (by first | omega | (simp only [maxLen]; omega) | (simp_all; done) | (simp_all; omega)) ?_; try simp -implicitDefEqProofs [-List.map_take, -List.map_drop, go_sem])
    | ((first | refine stp_ct (h1) (by simp [go_sem]) ?_ ?_ | refine cstp_ct (h1) (by simp [go_sem]) ?_ ?_ | refine stp_ct (h2) (by simp [go_sem]) ?_ ?_ | refine cstp_ct (h2) (by simp [go_sem]) ?_ ?_); (simp [go_sem]); simp -implicitDefEqProofs [-List.map_take, -List.map_drop, go_sem])
    | (refine run_dreg' (by decide) ?_; simp -implicitDefEqProofs [-List.map_take, -List.map_drop, go_sem])
    | ((first | refine end_tup _ (by simp) (by simp [go_sem]; rfl) (by simp [go_sem]) ?_); first | (simp [go_sem, *, sameModule, all2_map']; done) | grind [sameModule, all2_map'] | (simp [go_sem, sameModule, all2_map']; grind [sameModule, all2_map']) | (simp_all [go_sem, sameModule, all2_map']; done) | (simp_all [go_sem, sameModule, all2_map']; omega))
def eqModuleS_L (x y : Sl LModule) (i : Nat) (_ : Unit) : St := ⟨lk [(0, x.I LModule.C), (1, y.I LModule.C), (5, .int .i64 i)], [], []⟩
def mf_laws_eqModuleS : MF := ⟨27, [(.t 4)], (.seq (.reg [⟨(some 4), (.mov (.c (.bool false))), none⟩]) (.seq (.seq (.reg [⟨(some 6), (.mov (.t 0)), none⟩, ⟨(some 7), (.lenl (.t 6)), none⟩, ⟨(some 8), (.mov (.t 1)), none⟩, ⟨(some 9), (.lenl (.t 8)), none⟩, ⟨(some 10), (.bin .neq (.t 7) (.t 9)), none⟩]) (.cond (.t 10) (.seq (.reg [⟨(some 4), (.mov (.c (.bool false))), none⟩]) .ret) .skip)) (.seq (.seq (.reg [⟨(some 5), (.mov (.c (.int .i64 0))), none⟩]) (.blk 0 (.loop (.seq (.seq (.reg [⟨(some 11), (.mov (.t 5)), none⟩, ⟨(some 12), (.mov (.t 0)), none⟩, ⟨(some 13), (.lenl (.t 12)), none⟩, ⟨(some 14), (.bin .lss (.t 11) (.t 13)), none⟩]) (.cond (.t 14) .skip (.exit 0))) (.seq (.blk 1 (.seq (.dreg [(⟨(some 17), (.mov (.t 0)), none⟩, []), (⟨(some 18), (.mov (.t 5)), none⟩, []), (⟨(some 19), (.iadr 3 (.t 17) (.t 18)), none⟩, [0, 1]), (⟨(some 20), (.load true 3 (.t 19)), none⟩, [2]), (⟨(some 21), (.mov (.t 1)), none⟩, []), (⟨(some 22), (.mov (.t 5)), none⟩, []), (⟨(some 23), (.iadr 3 (.t 21) (.t 22)), none⟩, [4, 5]), (⟨(some 24), (.load true 3 (.t 23)), none⟩, [6]), (⟨(some 25), (.call (.c (.fn 95 [])) [(.t 20), (.t 24)]), none⟩, [3, 7]), (⟨(some 26), (.not (.t 25)), none⟩, [8])]) (.cond (.t 26) (.seq (.reg [⟨(some 4), (.mov (.c (.bool false))), none⟩]) .ret) .skip))) (.reg [⟨(some 15), (.mov (.t 5)), none⟩, ⟨(some 16), (.bin .add (.t 15) (.c (.int .i64 1))), none⟩, ⟨(some 5), (.mov (.t 16)), none⟩])))))) (.seq (.reg [⟨(some 4), (.mov (.c (.bool true))), none⟩]) .ret))))⟩
theorem fit_laws_eqModuleS : Fit Tryz.prog 30 Tryz.f30 mf_laws_eqModuleS := ⟨by kernel_rfl, Tryz.func30, by kernel_rfl, by kernel_rfl, by kernel_rfl, by kernel_rfl⟩
theorem eqModuleS_ct (x y : Sl LModule) (p : LModule → LModule → Bool) (hg : ∀ a, a ∈ x.es → ∀ b, Ct Tryz.prog 95 [.agg a.C, .agg b.C] (.bool (p a b))) : Ct Tryz.prog 30 [x.I LModule.C, y.I LModule.C] (.bool (all2 p x.es y.es)) := by
  refine ct_of_run fit_laws_eqModuleS (by simp [mf_laws_eqModuleS]) (by simp [go_sem]) fun hd => ?_
  simp -implicitDefEqProofs [-List.map_take, -List.map_drop, go_sem, mf_laws_eqModuleS]
  have hm : x.es.length ≤ maxLen := sl_deep hd.1
  have hne := all2_ne p x.es y.es
  repeat' first
    | ((first | refine gv_split (fun h => ?_) (fun h => ?_) | refine cnd_split (fun h => ?_) (fun h => ?_) | refine cgv_split (fun h => ?_) (fun h => ?_)) <;> (try (have hp := h; simp at hp)) <;> simp -implicitDefEqProofs [-List.map_take, -List.map_drop, go_sem, h])
    | (refine And.intro (by first | omega | (simp only [maxLen]; omega) | (simp_all; done) | (simp_all; omega)) ?_; try simp -implicitDefEqProofs [-List.map_take, -List.map_drop, go_sem])
    | (refine run_dreg' (by decide) ?_; simp -implicitDefEqProofs [-List.map_take, -List.map_drop, go_sem])
    | ((first | refine end_tup _ (by simp) (by simp [go_sem]; rfl) (by simp [go_sem]) ?_); first | (simp [go_sem, *]; done) | grind | (simp [go_sem]; grind) | (simp_all [go_sem]; done) | (simp_all [go_sem]; omega))
  have hlen : x.es.length = y.es.length := by omega
  refine run_iter (x.es.length) (eqModuleS_L x y) (fun i a => all2 p (x.es.drop i) (y.es.drop i) = all2 p x.es y.es) () (gh_auto (by simp [go_sem, eqModuleS_L])) (by first | (simp; done) | (simp []; done) | (simp []; omega) | grind) ?_
  intro i a hi hj
  simp -implicitDefEqProofs [-List.map_take, -List.map_drop, go_sem, eqModuleS_L]
  refine cnd_split (fun hc => ?_) (fun hc => ?_)
  · have hlt : i < x.es.length := by first | (simpa using hc) | (simp at hc; omega)
    rw [List.drop_eq_getElem_cons (l := x.es) (by omega)] at hj
    have hlt_1 : i < y.es.length := by omega
    rw [List.drop_eq_getElem_cons (l := y.es) (by omega)] at hj
    simp only [List.map_cons, all2] at hj
    simp -implicitDefEqProofs [-List.map_take, -List.map_drop, go_sem, hlt, hlt_1]
    repeat' first
      | ((first | refine gv_split (fun h => ?_) (fun h => ?_) | refine cnd_split (fun h => ?_) (fun h => ?_) | refine cgv_split (fun h => ?_) (fun h => ?_)) <;> (try (have hp := h; simp at hp)) <;> simp -implicitDefEqProofs [-List.map_take, -List.map_drop, go_sem, h, hlt, hlt_1])
      | (refine And.intro (by first | omega | (simp only [maxLen]; omega) | (simp_all; done) | (simp_all; omega)) ?_; try simp -implicitDefEqProofs [-List.map_take, -List.map_drop, go_sem, hlt, hlt_1])
      | ((first | refine stp_ct (hg x.es[i] (List.getElem_mem hlt) y.es[i]) (by simp [go_sem, hlt, hlt_1]) ?_ ?_ | refine cstp_ct (hg x.es[i] (List.getElem_mem hlt) y.es[i]) (by simp [go_sem, hlt, hlt_1]) ?_ ?_); (simp [go_sem]); simp -implicitDefEqProofs [-List.map_take, -List.map_drop, go_sem, hlt, hlt_1])
      | (refine run_dreg' (by decide) ?_; simp -implicitDefEqProofs [-List.map_take, -List.map_drop, go_sem, hlt, hlt_1])
      | ((first | refine kx_next () hlt (gh_auto (by simp [go_sem, eqModuleS_L, wrap_succ hlt hm, hlt, hlt_1])) ?_ | refine end_tup _ (by simp) (by simp [go_sem]; rfl) (by simp [go_sem]) ?_); first | (simp [go_sem, *]; done) | grind | (simp [go_sem]; grind) | (simp_all [go_sem]; done) | (simp_all [go_sem]; omega))
  · have hge : x.es.length ≤ i := by first | (simpa using hc) | (simp at hc; omega)
    rw [List.drop_of_length_le (l := x.es) (by omega)] at hj
    rw [List.drop_of_length_le (l := y.es) (by omega)] at hj
    simp only [List.map_nil, all2] at hj
    try simp -implicitDefEqProofs [-List.map_take, -List.map_drop, go_sem]
    repeat' first
      | ((first | refine gv_split (fun h => ?_) (fun h => ?_) | refine cnd_split (fun h => ?_) (fun h => ?_) | refine cgv_split (fun h => ?_) (fun h => ?_)) <;> (try (have hp := h; simp at hp)) <;> simp -implicitDefEqProofs [-List.map_take, -List.map_drop, go_sem, h])
      | (refine And.intro (by first | omega | (simp only [maxLen]; omega) | (simp_all; done) | (simp_all; omega)) ?_; try simp -implicitDefEqProofs [-List.map_take, -List.map_drop, go_sem])
      | ((first | refine stp_ct (hg x.es[i] (List.getElem_mem hlt) y.es[i]) (by simp [go_sem]) ?_ ?_ | refine cstp_ct (hg x.es[i] (List.getElem_mem hlt) y.es[i]) (by simp [go_sem]) ?_ ?_); (simp [go_sem]); simp -implicitDefEqProofs [-List.map_take, -List.map_drop, go_sem])
      | (refine run_dreg' (by decide) ?_; simp -implicitDefEqProofs [-List.map_take, -List.map_drop, go_sem])
      | ((first | refine end_tup _ (by simp) (by simp [go_sem]; rfl) (by simp [go_sem]) ?_); first | (simp [go_sem, *]; done) | grind | (simp [go_sem]; grind) | (simp_all [go_sem]; done) | (simp_all [go_sem]; omega))
def mf_laws_intactUseS : MF := ⟨26, [(.t 4)], (.seq (.reg [⟨(some 4), (.mov (.c (.bool false))), none⟩]) (.seq (.reg [⟨(some 6), (.mov (.t 1)), none⟩, ⟨(some 7), (.lenl (.t 6)), none⟩, ⟨(some 8), (.mov (.t 1)), none⟩, ⟨(some 9), (.lenl (.t 8)), none⟩, ⟨(some 10), (.call (.c (.fn 47 [])) [(.t 9)]), none⟩, ⟨(some 11), (.bin .add (.t 7) (.t 10)), none⟩, ⟨(some 5), (.mov (.t 11)), none⟩]) (.seq (.dreg [(⟨(some 12), (.mov (.t 0)), none⟩, []), (⟨(some 13), (.lenl (.t 12)), none⟩, [0]), (⟨(some 14), (.mov (.t 1)), none⟩, []), (⟨(some 15), (.lenl (.t 14)), none⟩, [2]), (⟨(some 16), (.bin .eql (.t 13) (.t 15)), none⟩, [1, 3]), (⟨(some 17), (.mov (.t 16)), none⟩, [4]), (⟨(some 18), (.mov (.t 0)), (some (17, true))⟩, [5]), (⟨(some 19), (.mov (.t 5)), (some (17, true))⟩, [5]), (⟨(some 20), (.sl 2 (.t 18) none (some (.t 19)) none), (some (17, true))⟩, [6, 7, 5]), (⟨(some 21), (.mov (.t 1)), (some (17, true))⟩, [5]), (⟨(some 22), (.mov (.t 5)), (some (17, true))⟩, [5]), (⟨(some 23), (.sl 2 (.t 21) none (some (.t 22)) none), (some (17, true))⟩, [9, 10, 5]), (⟨(some 24), (.call (.c (.fn 176 [])) [(.t 20), (.t 23)]), (some (17, true))⟩, [8, 11, 5, 5]), (⟨(some 25), (.pick (.t 17) (.t 24) (.c (.bool false))), none⟩, [5, 12]), (⟨(some 4), (.mov (.t 25)), none⟩, [13, 12, 0, 1, 2, 3, 4, 5, 6, 7, 8, 9, 10, 11, 12, 13])]) .ret)))⟩
theorem fit_laws_intactUseS : Fit Tryz.prog 134 Tryz.f134 mf_laws_intactUseS := ⟨by kernel_rfl, Tryz.func134, by kernel_rfl, by kernel_rfl, by kernel_rfl, by kernel_rfl⟩
theorem intactUseS_ct (es : List Use) (hl : es.length ≤ 1000000) : Ct Tryz.prog 134 [(toS Use.C fillUse false es).I Use.C, (toS Use.C fillUse false es).I Use.C] (.bool true) := by
  have hY : (toS Use.C fillUse false es).I Use.C = .imm (es.map Use.C) ((List.replicate (room es.length) fillUse).map Use.C) true := by simp [toS, Sl.I]
  rw [hY]
  have hr := room_le es.length
  have hrm := room_ct es.length
  have hw : IntKind.i64.wrap ((es.length : Int) + (room es.length : Int)) = (es.length : Int) + (room es.length : Int) := wrap_small (by omega) (by omega)
  have hwsl := fun (σ : Heap) => slV_full (σ := σ) (k := .i64) (f := Use.C) (l := es) (s := List.replicate (room es.length) fillUse) (lim := true) (m := (es.length : Int) + (room es.length : Int)) (n := 2) (by simp) Use.C_len
  have h1 := eqUseS_ct ⟨es ++ List.replicate (room es.length) fillUse, [], true⟩ ⟨es ++ List.replicate (room es.length) fillUse, [], true⟩ (· == ·) (fun a _ b => eqUse_ct a b)
  rw [all2_refl (fun a => by simp)] at h1
  simp only [List.map_append, List.map_replicate] at hwsl
  simp only [Sl.I, List.map_append, List.map_replicate] at h1
  refine ct_of_run fit_laws_intactUseS (by simp [mf_laws_intactUseS]) (by simp [go_sem]) fun hd => ?_
  simp -implicitDefEqProofs [-List.map_take, -List.map_drop, go_sem, mf_laws_intactUseS]
  repeat' first
    | ((first | refine gv_split (fun h => ?_) (fun h => ?_) | refine cnd_split (fun h => ?_) (fun h => ?_) | refine cgv_split (fun h => ?_) (fun h => ?_)) <;> (try (have hp := h; simp at hp)) <;> simp -implicitDefEqProofs [-List.map_take, -List.map_drop, go_sem, h, hw, hwsl])
    | (refine And.intro (by first | omega | (simp only [maxLen]; omega) | (simp_all; done) | (simp_all; omega)) ?_; try simp -implicitDefEqProofs [-List.map_take, -List.map_drop, go_sem, hw, hwsl])
    | ((first | refine stp_ct (hrm) (by simp [go_sem, hw, hwsl]) ?_ ?_ | refine cstp_ct (hrm) (by simp [go_sem, hw, hwsl]) ?_ ?_ | refine stp_ct (h1) (by simp [go_sem, hw, hwsl]) ?_ ?_ | refine cstp_ct (h1) (by simp [go_sem, hw, hwsl]) ?_ ?_); (simp [go_sem]); simp -implicitDefEqProofs [-List.map_take, -List.map_drop, go_sem, hw, hwsl])
    | (refine run_dreg' (by decide) ?_; simp -implicitDefEqProofs [-List.map_take, -List.map_drop, go_sem, hw, hwsl])
    | ((first | refine end_tup _ (by simp) (by simp [go_sem]; rfl) (by simp [go_sem]) ?_); first | (simp [go_sem, *]; done) | grind | (simp [go_sem]; grind) | (simp_all [go_sem]; done) | (simp_all [go_sem]; omega))
def mf_laws_intactBindS : MF := ⟨26, [(.t 4)], (.seq (.reg [⟨(some 4), (.mov (.c (.bool false))), none⟩]) (.seq (.reg [⟨(some 6), (.mov (.t 1)), none⟩, ⟨(some 7), (.lenl (.t 6)), none⟩, ⟨(some 8), (.mov (.t 1)), none⟩, ⟨(some 9), (.lenl (.t 8)), none⟩, ⟨(some 10), (.call (.c (.fn 47 [])) [(.t 9)]), none⟩, ⟨(some 11), (.bin .add (.t 7) (.t 10)), none⟩, ⟨(some 5), (.mov (.t 11)), none⟩]) (.seq (.dreg [(⟨(some 12), (.mov (.t 0)), none⟩, []), (⟨(some 13), (.lenl (.t 12)), none⟩, [0]), (⟨(some 14), (.mov (.t 1)), none⟩, []), (⟨(some 15), (.lenl (.t 14)), none⟩, [2]), (⟨(some 16), (.bin .eql (.t 13) (.t 15)), none⟩, [1, 3]), (⟨(some 17), (.mov (.t 16)), none⟩, [4]), (⟨(some 18), (.mov (.t 0)), (some (17, true))⟩, [5]), (⟨(some 19), (.mov (.t 5)), (some (17, true))⟩, [5]), (⟨(some 20), (.sl 2 (.t 18) none (some (.t 19)) none), (some (17, true))⟩, [6, 7, 5]), (⟨(some 21), (.mov (.t 1)), (some (17, true))⟩, [5]), (⟨(some 22), (.mov (.t 5)), (some (17, true))⟩, [5]), (⟨(some 23), (.sl 2 (.t 21) none (some (.t 22)) none), (some (17, true))⟩, [9, 10, 5]), (⟨(some 24), (.call (.c (.fn 287 [])) [(.t 20), (.t 23)]), (some (17, true))⟩, [8, 11, 5, 5]), (⟨(some 25), (.pick (.t 17) (.t 24) (.c (.bool false))), none⟩, [5, 12]), (⟨(some 4), (.mov (.t 25)), none⟩, [13, 12, 0, 1, 2, 3, 4, 5, 6, 7, 8, 9, 10, 11, 12, 13])]) .ret)))⟩
theorem fit_laws_intactBindS : Fit Tryz.prog 264 Tryz.f264 mf_laws_intactBindS := ⟨by kernel_rfl, Tryz.func264, by kernel_rfl, by kernel_rfl, by kernel_rfl, by kernel_rfl⟩
theorem intactBindS_ct (es : List Bind) (hl : es.length ≤ 1000000) : Ct Tryz.prog 264 [(toS Bind.C fillBind false es).I Bind.C, (toS Bind.C fillBind false es).I Bind.C] (.bool true) := by
  have hY : (toS Bind.C fillBind false es).I Bind.C = .imm (es.map Bind.C) ((List.replicate (room es.length) fillBind).map Bind.C) true := by simp [toS, Sl.I]
  rw [hY]
  have hr := room_le es.length
  have hrm := room_ct es.length
  have hw : IntKind.i64.wrap ((es.length : Int) + (room es.length : Int)) = (es.length : Int) + (room es.length : Int) := wrap_small (by omega) (by omega)
  have hwsl := fun (σ : Heap) => slV_full (σ := σ) (k := .i64) (f := Bind.C) (l := es) (s := List.replicate (room es.length) fillBind) (lim := true) (m := (es.length : Int) + (room es.length : Int)) (n := 2) (by simp) Bind.C_len
  have h1 := eqBindS_ct ⟨es ++ List.replicate (room es.length) fillBind, [], true⟩ ⟨es ++ List.replicate (room es.length) fillBind, [], true⟩ (· == ·) (fun a _ b => eqBind_ct a b)
  rw [all2_refl (fun a => by simp)] at h1
  simp only [List.map_append, List.map_replicate] at hwsl
  simp only [Sl.I, List.map_append, List.map_replicate] at h1
  refine ct_of_run fit_laws_intactBindS (by simp [mf_laws_intactBindS]) (by simp [go_sem]) fun hd => ?_
  simp -implicitDefEqProofs [-List.map_take, -List.map_drop, go_sem, mf_laws_intactBindS]
  repeat' first
    | ((first | refine gv_split (fun h => ?_) (fun h => ?_) | refine cnd_split (fun h => ?_) (fun h => ?_) | refine cgv_split (fun h => ?_) (fun h => ?_)) <;> (try (have hp := h; simp at hp)) <;> simp -implicitDefEqProofs [-List.map_take, -List.map_drop, go_sem, h, hw, hwsl])
    | (refine And.intro (by first | omega | (simp only [maxLen]; omega) | (simp_all; done) | (simp_all; omega)) ?_; try simp -implicitDefEqProofs [-List.map_take, -List.map_drop, go_sem, hw, hwsl])
    | ((first | refine stp_ct (hrm) (by simp [go_sem, hw, hwsl]) ?_ ?_ | refine cstp_ct (hrm) (by simp [go_sem, hw, hwsl]) ?_ ?_ | refine stp_ct (h1) (by simp [go_sem, hw, hwsl]) ?_ ?_ | refine cstp_ct (h1) (by simp [go_sem, hw, hwsl]) ?_ ?_); (simp [go_sem]); simp -implicitDefEqProofs [-List.map_take, -List.map_drop, go_sem, hw, hwsl])
    | (refine run_dreg' (by decide) ?_; simp -implicitDefEqProofs [-List.map_take, -List.map_drop, go_sem, hw, hwsl])
    | ((first | refine end_tup _ (by simp) (by simp [go_sem]; rfl) (by simp [go_sem]) ?_); first | (simp [go_sem, *]; done) | grind | (simp [go_sem]; grind) | (simp_all [go_sem]; done) | (simp_all [go_sem]; omega))
end Go.Mach
