import Derived.Test.YtnkakbpefcoanaaGreatMh
import Derived.Test.YtnkakbpefcoanaaGreatWb
import Derived.Test.YtnkakbpefcoanaaGreatWk
import Derived.Test.YtnkakbpefcoanaaGreatDa
import Derived.Test.YtnkakbpefcoanaaGreatDb
/- The program's own functions, walked: modules, declarations. -/
set_option maxHeartbeats 4000000
namespace Go.Mach
open Go Go.Proofs
set_option linter.unusedVariables false
set_option linter.unusedSimpArgs false
attribute [local go_sem] Z.k Z.g Z.n Z.m Z.t Z.i Z.b Z.s Z.c Z.r Z.q run_seq run_skip run_reg run_blk run_exit run_ret run_cond cnd_true cnd_false kx_seq_normal kx_seq_exit kx_seq_ret kx_blk_normal kx_blk_same kx_blk_other kx_blk_ret kx_loop_exit kx_loop_ret kx_done ops_nil ops_plain ops_grd gv_tt gv_ff gv_tf gv_ft gv_tup stp_ok stp_ob stp_hp stp_bad stp_if get_t get_c putO_some putO_none put_same put_ne put_σ put_base withσ_τ withσ_σ withσ_base withσ_put withσ_withσ mk_τ mk_σ mk_base mk_withσ entry_τ entry_σ entry_base calm_nil calm_plain calm_grd cgv_tt cgv_ff cgv_tf cgv_ft cgv_tup cstp_ok cstp_ob cstp_if
attribute [local irreducible] Ct Co Cs
attribute [local go_sem] evalOp notV negV pickV binV intB seqV beqV catV lensV lenlV boxV_eq newV cellsOf cellV fadrV fldV fldC loadV loadC_ag loadC_one plainV isOwn iadrV storeV lk bdV bdL renO renL renV pureV pureL noOwnV noOwnL idxV slsV optI extV resL resV ret1 mmV cnviV cnvsV nilcV eqnV bslV bslGo appV elems okE appE getD_map okO_none okO_some strC intC Sl.I
attribute [local simp] Bind.eqa Use.eqa loadC_str loadC_int Bind.C_len Bind.C_pure Bind.C_noOwn Bind.C_cell Bind.C_bd Bind.C_bdL Bind.C_ren Bind.C_any Bind.C_any0 Bind.C_any1 Bind.C_anyt Bind.C_take Bind.C_load Bind.C_load0 Bind.C_load1 Bind.C_fld Bind.C_box Bind.C_fold Use.C_len Use.C_pure Use.C_noOwn Use.C_cell Use.C_bd Use.C_bdL Use.C_ren Use.C_any Use.C_any0 Use.C_any1 Use.C_anyt Use.C_take Use.C_load Use.C_load0 Use.C_load1 Use.C_fld Use.C_box Use.C_fold LExpr.C_len LExpr.C_pure LExpr.C_noOwn LExpr.C_cell LExpr.C_bd LExpr.C_bdL LExpr.C_ren LExpr.C_any LExpr.C_any0 LExpr.C_any1 LExpr.C_anyt LExpr.C_take LExpr.C_load LExpr.C_load0 LExpr.C_load1 LExpr.C_fld LExpr.C_box LExpr.C_fold LDecl.C_len LDecl.C_pure LDecl.C_noOwn LDecl.C_cell LDecl.C_bd LDecl.C_bdL LDecl.C_ren LDecl.C_any LDecl.C_any0 LDecl.C_any1 LDecl.C_anyt LDecl.C_take LDecl.C_load LDecl.C_load0 LDecl.C_load1 LDecl.C_fld LDecl.C_box LDecl.C_fold LModule.C_len LModule.C_pure LModule.C_noOwn LModule.C_cell LModule.C_bd LModule.C_bdL LModule.C_ren LModule.C_any LModule.C_any0 LModule.C_any1 LModule.C_anyt LModule.C_take LModule.C_load LModule.C_load0 LModule.C_load1 LModule.C_fld LModule.C_box LModule.C_fold

theorem idxFrom_map {α β : Type} (f : α → β) (p : β → Bool) : ∀ (l : List α) (i : Nat), idxFrom p (l.map f) i = idxFrom (fun x => p (f x)) l i
  | [], _ => rfl
  | x :: xs, i => by simp [idxFrom, idxFrom_map f p xs (i + 1)]
theorem all2_map {α β : Type} (f : α → β) (p : β → β → Bool) : ∀ (xs ys : List α), all2 (fun a b => p (f a) (f b)) xs ys = all2 p (xs.map f) (ys.map f)
  | [], [] => rfl
  | [], _ :: _ => rfl
  | _ :: _, [] => rfl
  | x :: xs, y :: ys => by simp [all2, all2_map f p xs ys]
open Z in
def mf_impl_place_1 : MF := ⟨8, [(.t 3)], q (r [k 2 (.box 61 (t 0)), k 3 (.mov (b false))]) (q (r [k 4 (.fadr 0 (t 2)), k 5 (.load false 1 (t 4)), k 6 (.load false 1 (t 1)), k 7 (.seq false (t 5) (t 6)), m 3 7]) .ret)⟩
theorem fit_impl_place_1 : Fit Tryz.prog 108 Tryz.f108 mf_impl_place_1 := ⟨by kernel_rfl, Tryz.func108, by kernel_rfl, by kernel_rfl, by kernel_rfl, by kernel_rfl⟩
theorem place1_ct (m : LModule) (name : Str) : Ct Tryz.prog 108 ([.agg m.C] ++ [.iptr [.str name]]) (.bool (m.name == name)) := by
  refine ct_of_run fit_impl_place_1 (by simp [mf_impl_place_1]) (by simp [go_sem]) fun hd => ?_
  simp -implicitDefEqProofs [-List.map_take, -List.map_drop, go_sem, mf_impl_place_1]
  have hy := hy0
  have hdf := hy0
  exact wk0
open Z in
def mf_impl_place : MF := ⟨8, [(.t 4)], q (r [k 3 (.box 9 (t 1)), k 4 (.mov (i 0))]) (q (r [m 5 0, k 6 (.mkf 108 [t 3]), k 7 (c 107 [t 5, t 6]), m 4 7]) .ret)⟩
theorem fit_impl_place : Fit Tryz.prog 54 Tryz.f54 mf_impl_place := ⟨by kernel_rfl, Tryz.func54, by kernel_rfl, by kernel_rfl, by kernel_rfl, by kernel_rfl⟩
theorem place_ct (p : Sl LModule) (name : Str) : Ct Tryz.prog 54 [p.I LModule.C, .str name] (.int .i64 (moduleAt (p.es.map LModule.core) name)) := by
  have h1 := idxF_Module_ct p 108 [.iptr [.str name]] rfl (fun m => m.name == name) (fun m _ => place1_ct m name)
  refine ct_of_run fit_impl_place (by simp [mf_impl_place]) (by simp [go_sem]) fun hd => ?_
  simp -implicitDefEqProofs [-List.map_take, -List.map_drop, go_sem, mf_impl_place]
  repeat' first
    | ((first | refine gv_split (fun h => ?_) (fun h => ?_) | refine cnd_split (fun h => ?_) (fun h => ?_) | refine cgv_split (fun h => ?_) (fun h => ?_)) <;> (try (have hp := h; simp at hp)) <;> simp -implicitDefEqProofs [-List.map_take, -List.map_drop, go_sem, h])
    | (refine And.intro (by first | omega | (simp only [maxLen]; omega) | (simp_all; done) | (simp_all; omega)) ?_; try simp -implicitDefEqProofs [-List.map_take, -List.map_drop, go_sem])
    | ((first | refine cstp_snap 3 (h1) (by simp [go_sem, snapL, snapV, snapE, snapSp, mapO, frzV]) ?_ ?_ ?_ | refine stp_snap 3 (h1) (by simp [go_sem, snapL, snapV, snapE, snapSp, mapO, frzV]) ?_ ?_ ?_); (simp [closedV]); (simp [go_sem]); simp -implicitDefEqProofs [-List.map_take, -List.map_drop, go_sem])
    | (refine run_dreg' (by decide) ?_; simp -implicitDefEqProofs [-List.map_take, -List.map_drop, go_sem])
    | ((first | refine end_tup _ (by simp) (by simp [go_sem]; rfl) (by simp [go_sem]) ?_); first | (simp [go_sem, *, moduleAt, idxFrom_map]; done) | grind [moduleAt, idxFrom_map] | (simp [go_sem, moduleAt, idxFrom_map]; grind [moduleAt, idxFrom_map]) | (simp_all [go_sem, moduleAt, idxFrom_map]; done) | (simp_all [go_sem, moduleAt, idxFrom_map]; omega))
open Z in
def mf_impl_Module_find_1 : MF := ⟨8, [(.t 3)], q (r [k 2 (.box 72 (t 0)), k 3 (.mov (b false))]) (q (r [k 4 (.fadr 1 (t 2)), k 5 (.load false 1 (t 4)), k 6 (.load false 1 (t 1)), k 7 (.seq false (t 5) (t 6)), m 3 7]) .ret)⟩
theorem fit_impl_Module_find_1 : Fit Tryz.prog 132 Tryz.f132 mf_impl_Module_find_1 := ⟨by kernel_rfl, Tryz.func132, by kernel_rfl, by kernel_rfl, by kernel_rfl, by kernel_rfl⟩
theorem find1_ct (m : LDecl) (name : Str) : Ct Tryz.prog 132 ([.agg m.C] ++ [.iptr [.str name]]) (.bool (m.name == name)) := by
  refine ct_of_run fit_impl_Module_find_1 (by simp [mf_impl_Module_find_1]) (by simp [go_sem]) fun hd => ?_
  simp -implicitDefEqProofs [-List.map_take, -List.map_drop, go_sem, mf_impl_Module_find_1]
  have hy := hy0
  have hdf := hy0
  exact wk0
open Z in
def mf_impl_Module_find : MF := ⟨9, [(.t 4)], q (r [k 2 (.box 61 (t 0)), k 3 (.box 9 (t 1)), k 4 (.mov (i 0))]) (q (r [k 5 (.fadr 2 (t 2)), k 6 (.load false 1 (t 5)), k 7 (.mkf 132 [t 3]), k 8 (c 131 [t 6, t 7]), m 4 8]) .ret)⟩
theorem fit_impl_Module_find : Fit Tryz.prog 72 Tryz.f72 mf_impl_Module_find := ⟨by kernel_rfl, Tryz.func72, by kernel_rfl, by kernel_rfl, by kernel_rfl, by kernel_rfl⟩
theorem find_ct (m : LModule) (name : Str) : Ct Tryz.prog 72 [.agg m.C, .str name] (.int .i64 (declAt m.core name)) := by
  have h1 := idxF_Decl_ct m.decls 132 [.iptr [.str name]] rfl (fun m => m.name == name) (fun m _ => find1_ct m name)
  refine ct_of_run fit_impl_Module_find (by simp [mf_impl_Module_find]) (by simp [go_sem]) fun hd => ?_
  simp -implicitDefEqProofs [-List.map_take, -List.map_drop, go_sem, mf_impl_Module_find]
  repeat' first
    | ((first | refine gv_split (fun h => ?_) (fun h => ?_) | refine cnd_split (fun h => ?_) (fun h => ?_) | refine cgv_split (fun h => ?_) (fun h => ?_)) <;> (try (have hp := h; simp at hp)) <;> simp -implicitDefEqProofs [-List.map_take, -List.map_drop, go_sem, h])
    | (refine And.intro (by first | omega | (simp only [maxLen]; omega) | (simp_all; done) | (simp_all; omega)) ?_; try simp -implicitDefEqProofs [-List.map_take, -List.map_drop, go_sem])
    | ((first | refine cstp_snap 3 (h1) (by simp [go_sem, snapL, snapV, snapE, snapSp, mapO, frzV]) ?_ ?_ ?_ | refine stp_snap 3 (h1) (by simp [go_sem, snapL, snapV, snapE, snapSp, mapO, frzV]) ?_ ?_ ?_); (simp [closedV]); (simp [go_sem]); simp -implicitDefEqProofs [-List.map_take, -List.map_drop, go_sem])
    | (refine run_dreg' (by decide) ?_; simp -implicitDefEqProofs [-List.map_take, -List.map_drop, go_sem])
    | ((first | refine end_tup _ (by simp) (by simp [go_sem]; rfl) (by simp [go_sem]) ?_); first | (simp [go_sem, *, declAt, idxFrom_map]; done) | grind [declAt, idxFrom_map] | (simp [go_sem, declAt, idxFrom_map]; grind [declAt, idxFrom_map]) | (simp_all [go_sem, declAt, idxFrom_map]; done) | (simp_all [go_sem, declAt, idxFrom_map]; omega))
open Z in
def mf_impl_Decl_fits_1 : MF := ⟨9, [(.t 3)], q (r [k 2 (.box 118 (t 0)), k 3 (.mov (b false))]) (q (r [k 4 (.fadr 0 (t 2)), k 5 (.load false 1 (t 4)), k 6 (.fadr 0 (t 1)), k 7 (.load false 1 (t 6)), k 8 (.seq false (t 5) (t 7)), m 3 8]) .ret)⟩
theorem fit_impl_Decl_fits_1 : Fit Tryz.prog 135 Tryz.f135 mf_impl_Decl_fits_1 := ⟨by kernel_rfl, Tryz.func135, by kernel_rfl, by kernel_rfl, by kernel_rfl, by kernel_rfl⟩
theorem fits1_ct (o : Bind) (b : Bind) : Ct Tryz.prog 135 ([.agg o.C] ++ [.iptr [.str b.name, .str b.type]]) (.bool (o.name == b.name)) := by
  refine ct_of_run fit_impl_Decl_fits_1 (by simp [mf_impl_Decl_fits_1]) (by simp [go_sem]) fun hd => ?_
  simp -implicitDefEqProofs [-List.map_take, -List.map_drop, go_sem, mf_impl_Decl_fits_1]
  have hy := hy0
  have hdf := hy0
  exact wk0
open Z in
def mf_slices_ContainsFunc_impl_Bind_impl_Bind : MF := ⟨9, [(.t 4)], q (r [k 4 (.mov (b false))]) (q (r [m 5 0, m 6 1, k 7 (c 177 [t 5, t 6]), k 8 (.bin .geq (t 7) (i 0)), m 4 8]) .ret)⟩
theorem fit_slices_ContainsFunc_impl_Bind_impl_Bind : Fit Tryz.prog 134 Tryz.f134 mf_slices_ContainsFunc_impl_Bind_impl_Bind := ⟨by kernel_rfl, Tryz.func134, by kernel_rfl, by kernel_rfl, by kernel_rfl, by kernel_rfl⟩
theorem containsF_Bind_ct (x : Sl Bind) (g : Nat) (cs : List PV) (hcs : pureL cs = true) (p : Bind → Bool) (hg : ∀ a, a ∈ x.es → Ct Tryz.prog g ([.agg a.C] ++ cs) (.bool (p a))) : Ct Tryz.prog 134 [x.I Bind.C, .fn g cs] (.bool (x.es.any p)) := by
  have hw1 : noOwnL cs = true := pureL_noOwn cs hcs
  refine ct_of_run fit_slices_ContainsFunc_impl_Bind_impl_Bind (by simp [mf_slices_ContainsFunc_impl_Bind_impl_Bind]) (by simp [go_sem, hw1]) fun hd => ?_
  simp -implicitDefEqProofs [-List.map_take, -List.map_drop, go_sem, mf_slices_ContainsFunc_impl_Bind_impl_Bind]
  have c1 := idxF_Bind_ct x g cs hcs p hg
  have hy := hcs
  have e1 := @idxFrom_nn
  have hdf := @e1
  exact wk1

def cntO (c : Nat) : AObj := ⟨[[.int .i64 c]], 1, 3, false, false⟩
def fitsQ (r : Option Nat) (y : PV) (ob' : AObj) : Prop := ∃ c' : Nat, ob' = cntO c' ∧ y = .bool r.isSome ∧ ∀ m, r = some m → c' = m
theorem fitsQ_plain {r : Option Nat} (y : PV) (ob' : AObj) (h : fitsQ r y ob') : noOwnV y = true := by obtain ⟨_, _, rfl, _⟩ := h; rfl
def fits_L (e : LExpr) (c tall : Nat) (i : Nat) (a : Nat) : St := ⟨lk [(1, .ptr 0 1 0 0), (2, .int .i64 tall), (28, .imm (e.kids.map LExpr.C) e.sp e.lim), (29, .int .i64 e.kids.length), (30, .int .i64 i)], [some (cntO a)], [some (cntO c)]⟩
theorem fitsNs_le : ∀ (l : List Expr) (c tall m : Nat), fitsNs l c tall = some m → c ≤ 40 → m ≤ 40
  | [], c, tall, m, h, hc => by simp [fitsNs] at h; omega
  | x :: xs, c, tall, m, h, hc => by
    cases x with
    | mk k n t ks =>
      cases hf : fitsN (.mk k n t ks) c tall with
      | none => simp [fitsNs, hf] at h
      | some c' =>
        simp only [fitsNs, hf] at h
        refine fitsNs_le xs c' tall m h ?_
        rw [fitsN_eq] at hf
        split at hf
        · cases hf
        · rename_i hn
          exact fitsNs_le ks (c + 1) (tall + 1) c' hf (by omega)
theorem fitsN_le (x : Expr) (c tall m : Nat) (h : fitsN x c tall = some m) (hc : c ≤ 40) : m ≤ 40 := by
  refine fitsNs_le [x] c tall m ?_ hc
  simp [fitsNs, h]
theorem end_fits {st : St} {e : MExit} {ob : AObj} {r : Option Nat} (b : Bool) (c' : Nat) (he : ∀ i, e ≠ .exit i) (hr : resL st [.t 6] = some [.bool b]) (hσ : st.σ[0]? = some (some (cntO c'))) (hb : r = if b then some c' else none) :
    endS [some ob] [.t 6] (fun y σ' => ∃ ob', σ' = [some ob'] ∧ fitsQ r y ob') e st := by
  refine end_cx1 [.bool b] (cntO c') he hr rfl hσ rfl ⟨c', rfl, ?_, fun m hm => ?_⟩
  · subst hb; cases b <;> rfl
  · subst hb; cases b <;> simp_all
open Z in
def mf_impl_Expr_fits : MF := ⟨41, [(.t 6)], q (r [k 3 (.box 48 (t 0)), k 6 (.mov (b false))]) (q (r [m 9 1, k 10 (.nilc (t 9)), k 11 (.load false 1 (t 10)), k 12 (.bin .add (t 11) (i 1)), k 13 (.nilc (t 9)), n (.store 1 (t 13) (t 12))]) (q (q (r [m 14 1, k 15 (.nilc (t 14)), k 16 (.load false 1 (t 15)), k 17 (.bin .gtr (t 16) (i 40)), m 18 17, g 19 (.mov (t 2)) 18 false, g 20 (.bin .gtr (t 19) (i 9)) 18 false, k 21 (.pick (t 18) (b true) (t 20)), m 22 21, g 23 (.load true 4 (t 3)) 22 false, g 24 (c 162 [t 23]) 22 false, g 25 (.not (t 24)) 22 false, k 26 (.pick (t 22) (b true) (t 25))]) (.cond (t 26) (q (r [k 6 (.mov (b false))]) .ret) .skip)) (q (q (r [k 27 (.fadr 3 (t 3)), k 28 (.load false 1 (t 27)), k 29 (.lenl (t 28)), k 30 (.mov (i 0))]) (.blk 0 (.loop (q (r [k 31 (.bin .lss (t 30) (t 29))]) (q (.cond (t 31) .skip (.exit 0)) (q (.blk 1 (q (r [k 32 (.iadr 4 (t 28) (t 30)), k 33 (.load true 4 (t 32)), k 8 (.alloc 48 [.int .i64 0, .int .i64 0, .str [], .imm [] [] true]), n (.store 4 (t 8) (t 33))]) (q (r [k 34 (.load true 4 (t 8)), m 35 1, m 36 2, k 37 (.bin .add (t 36) (i 1)), k 38 (c 106 [t 34, t 35, t 37]), k 39 (.not (t 38))]) (.cond (t 39) (q (r [k 6 (.mov (b false))]) .ret) .skip)))) (r [k 40 (.bin .add (t 30) (i 1)), m 30 40]))))))) (q (r [k 6 (.mov (b true))]) .ret))))⟩
theorem fit_impl_Expr_fits : Fit Tryz.prog 106 Tryz.f106 mf_impl_Expr_fits := ⟨by kernel_rfl, Tryz.func106, by kernel_rfl, by kernel_rfl, by kernel_rfl, by kernel_rfl⟩
theorem fits_cx (e : LExpr) (c tall : Nat) (hc : c ≤ 40) (ht : tall ≤ 1000) (hs : e.core.Sm) : Cx1 Tryz.prog 106 [.agg e.C, .ptr 0 1 0 0, .int .i64 tall] (cntO c) (fitsQ (fitsN e.core c tall)) := by
  have hst := Expr.Sm_text hs
  have hfe := fitsN_eq e.core c tall
  rw [LExpr.core_kind, LExpr.core_num, LExpr.core_text, LExpr.core_kids, List.length_map] at hfe
  refine cx1_of_run fit_impl_Expr_fits (by simp [mf_impl_Expr_fits]) (by simp [go_sem]) fun hd _ => ?_
  have hm : e.kids.length ≤ maxLen := by have := LExpr.deep hd.1; omega
  have hw1 : IntKind.i64.wrap ((c : Int) + 1) = (c : Int) + 1 := wrap_small (by omega) (by omega)
  simp -implicitDefEqProofs [-List.map_take, -List.map_drop, go_sem, mf_impl_Expr_fits, cntO, hw1]
  repeat' first
    | ((first | refine gv_split (fun h => ?_) (fun h => ?_) | refine cnd_split (fun h => ?_) (fun h => ?_) | refine cgv_split (fun h => ?_) (fun h => ?_)) <;> (try (have hp := h; simp at hp)) <;> simp -implicitDefEqProofs [-List.map_take, -List.map_drop, go_sem, h])
    | (refine And.intro (by first | omega | (simp only [maxLen]; omega) | (simp_all; done) | (simp_all; omega)) ?_; try simp -implicitDefEqProofs [-List.map_take, -List.map_drop, go_sem])
    | ((first | refine stp_ct (shape_ct e hst) (by simp [go_sem]) ?_ ?_ | refine cstp_ct (shape_ct e hst) (by simp [go_sem]) ?_ ?_); (simp [go_sem]); simp -implicitDefEqProofs [-List.map_take, -List.map_drop, go_sem])
    | (refine run_dreg' (by decide) ?_; simp -implicitDefEqProofs [-List.map_take, -List.map_drop, go_sem])
    | ((first | refine end_tup _ (by simp) (by simp [go_sem]; rfl) (by simp [go_sem]) ?_); first | (simp [go_sem, *]; done) | grind | (simp [go_sem]; grind) | (simp_all [go_sem]; done) | (simp_all [go_sem]; omega))
  · refine end_fits false (c + 1) (by simp) (by simp [go_sem]) (by simp [go_sem, cntO]) ?_
    rw [hfe, if_pos (.inl (by omega))]; rfl
  · refine end_fits false (c + 1) (by simp) (by simp [go_sem]) (by simp [go_sem, cntO]) ?_
    rw [hfe, if_pos (.inr (.inl (by omega)))]; rfl
  · refine end_fits false (c + 1) (by simp) (by simp [go_sem]) (by simp [go_sem, cntO]) ?_
    rw [hfe, if_pos (.inr (.inr (by simpa using hp)))]; rfl
  have hfe2 : fitsN e.core c tall = fitsNs (e.kids.map LExpr.core) (c + 1) (tall + 1) := by
    rw [hfe, if_neg]
    rintro (h1 | h1 | h1)
    · omega
    · omega
    · simp [h1] at hp
  have hw2 : IntKind.i64.wrap ((tall : Int) + 1) = (tall : Int) + 1 := wrap_small (by omega) (by omega)
  refine run_iter (e.kids.length) (fits_L e c tall) (fun i a => fitsNs ((e.kids.drop i).map LExpr.core) a (tall + 1) = fitsN e.core c tall ∧ a ≤ 40) (c + 1) (gh_auto (by simp [go_sem, fits_L, cntO])) (by first | (simp; done) | (simp [hfe2]; done) | (simp [hfe2]; omega) | grind) ?_
  intro i a hi hj
  simp -implicitDefEqProofs [-List.map_take, -List.map_drop, go_sem, fits_L, cntO]
  refine cnd_split (fun hc => ?_) (fun hc => ?_)
  · have hlt : i < e.kids.length := by first | (simpa using hc) | (simp at hc; omega)
    rw [List.drop_eq_getElem_cons hlt] at hj
    simp only [List.map_cons, fitsNs] at hj
    have ih := fits_cx e.kids[i] a (tall + 1) hj.2 (by omega) (Expr.Sm_kid hs hlt)
    simp -implicitDefEqProofs [-List.map_take, -List.map_drop, go_sem, hlt, cntO]
    refine stp_cx1 0 ih (by simp [go_sem, cntO]) (by simp [go_sem, rf, frzV, hw2]) (by simp [go_sem, cntO]) fitsQ_plain ?_
    rintro y ob' ⟨c', rfl, rfl, hm2⟩
    cases hf : fitsN e.kids[i].core a (tall + 1) with
    | none =>
      rw [hf] at hj
      simp -implicitDefEqProofs [-List.map_take, -List.map_drop, go_sem, hw2, cntO, hf]
      refine end_fits false c' (by simp) (by simp [go_sem]) (by simp [go_sem, cntO]) hj.1.symm
    | some m =>
      rw [hf] at hj
      have hcm := hm2 m hf
      subst hcm
      simp -implicitDefEqProofs [-List.map_take, -List.map_drop, go_sem, hw2, cntO, hf]
      exact kx_next c' hlt (gh_auto (by simp [go_sem, fits_L, wrap_succ hlt hm, cntO])) ⟨hj.1, fitsN_le _ _ _ _ hf hj.2⟩
  · have hge : e.kids.length ≤ i := by first | (simpa using hc) | (simp at hc; omega)
    try simp -implicitDefEqProofs [-List.map_take, -List.map_drop, go_sem, cntO]
    rw [List.drop_of_length_le hge] at hj
    refine end_fits true a (by simp) (by simp [go_sem]) (by simp [go_sem, cntO]) ?_
    rw [← hj.1]; rfl
termination_by SizeOf.sizeOf e
decreasing_by all_goals exact LExpr.kid_lt (List.getElem_mem hlt)
open Z in
def mf_impl_ExprOk : MF := ⟨6, [(.t 2)], q (r [k 1 (.box 48 (t 0)), k 2 (.mov (b false))]) (q (r [k 3 (.alloc 3 [.int .i64 0]), n (.store 1 (t 3) (i 0))]) (q (r [k 4 (.load true 4 (t 1)), k 5 (c 106 [t 4, t 3, i 1]), m 2 5]) .ret))⟩
theorem fit_impl_ExprOk : Fit Tryz.prog 53 Tryz.f53 mf_impl_ExprOk := ⟨by kernel_rfl, Tryz.func53, by kernel_rfl, by kernel_rfl, by kernel_rfl, by kernel_rfl⟩
theorem iexprOk_ct (e : LExpr) (hs : e.core.Sm) : Ct Tryz.prog 53 [.agg e.C] (.bool (exprOk e.core)) := by
  refine ct_of_run fit_impl_ExprOk (by simp [mf_impl_ExprOk]) (by simp [go_sem]) fun hd => ?_
  simp -implicitDefEqProofs [-List.map_take, -List.map_drop, go_sem, mf_impl_ExprOk]
  refine stp_cx1 1 (fits_cx e 0 1 (by decide) (by decide) hs) (by simp [go_sem, cntO]) (by simp [go_sem, rf, frzV]) (by simp [go_sem, cntO]) fitsQ_plain ?_
  rintro y ob' ⟨c', rfl, rfl, hm2⟩
  simp -implicitDefEqProofs [-List.map_take, -List.map_drop, go_sem]
  have hy := hy0
  have e1 := @fitsN_ok
  have hdf := @e1
  exact wk0

open Z in
def mf_impl_recordless : MF := ⟨15, [(.t 2)], q (r [k 2 (.mov (b false))]) (q (r [m 6 0, k 7 (c 90 [t 6]), m 5 7, k 8 (.ext (t 5) 0), k 9 (.ext (t 5) 1), m 3 8, m 4 9]) (q (r [m 10 4, m 11 10, g 12 (.mov (t 3)) 11 true, g 13 (c 149 [t 12]) 11 true, k 14 (.pick (t 11) (t 13) (b false)), m 2 14]) .ret))⟩
theorem fit_impl_recordless : Fit Tryz.prog 136 Tryz.f136 mf_impl_recordless := ⟨by kernel_rfl, Tryz.func136, by kernel_rfl, by kernel_rfl, by kernel_rfl, by kernel_rfl⟩
theorem recordless2_ct (t : Str) : Ct Tryz.prog 136 [.str t] (.bool (recordlessB t)) := by
  refine ct_of_run fit_impl_recordless (by simp [mf_impl_recordless]) (by simp [go_sem]) fun hd => ?_
  simp -implicitDefEqProofs [-List.map_take, -List.map_drop, go_sem, mf_impl_recordless]
  have d1 := fun a1 => typeBase_ct a1
  have d2 := fun a1 => plainType_ct a1
  have hy := hy0
  have e1 := @baseOk_eq
  have e2 := @recordlessB.eq_1
  have hdf := And.intro (@e1) (@e2)
  exact wk1
theorem fits1'_ct (o b : Bind) : Ct Tryz.prog 135 ([.agg o.C] ++ [.iptr b.C]) (.bool (o.name == b.name)) := fits1_ct o b
def dfits_L (d : LDecl) (i : Nat) (_ : Unit) : St := ⟨lk [(1, .ptr 0 1 0 0), (16, d.binds.I Bind.C), (17, .int .i64 d.binds.es.length), (18, .int .i64 i)], [some ⟨[[.int .i64 d.kind, .str d.name, .imm (d.binds.es.map Bind.C) d.binds.sp d.binds.lim, .str d.type, .int .i64 d.body.kind, .int .i64 d.body.num, .str d.body.text, .imm (d.body.kids.map LExpr.C) d.body.sp d.body.lim]], 8, 72, false, false⟩], []⟩
open Z in
def mf_impl_Decl_fits : MF := ⟨82, [(.t 2)], q (r [k 1 (.box 72 (t 0)), k 2 (.mov (b false))]) (q (q (r [k 5 (.fadr 1 (t 1)), k 6 (.load false 1 (t 5)), k 7 (c 71 [t 6]), k 8 (.not (t 7)), m 9 8, g 10 (.fadr 2 (t 1)) 9 false, g 11 (.load false 1 (t 10)) 9 false, g 12 (.lenl (t 11)) 9 false, g 13 (.bin .gtr (t 12) (i 4)) 9 false, k 14 (.pick (t 9) (b true) (t 13))]) (.cond (t 14) (q (r [k 2 (.mov (b false))]) .ret) .skip)) (q (q (r [k 15 (.fadr 2 (t 1)), k 16 (.load false 1 (t 15)), k 17 (.lenl (t 16)), k 18 (.mov (i 0))]) (.blk 0 (.loop (q (r [k 19 (.bin .lss (t 18) (t 17))]) (q (.cond (t 19) .skip (.exit 0)) (q (.blk 1 (q (r [m 20 18, k 21 (.iadr 2 (t 16) (t 18)), k 22 (.load true 2 (t 21)), k 4 (.alloc 118 [.str [], .str []]), m 3 20, n (.store 2 (t 4) (t 22))]) (q (q (r [k 23 (.fadr 0 (t 4)), k 24 (.load false 1 (t 23)), k 25 (c 71 [t 24]), k 26 (.not (t 25)), m 27 26, g 28 (.fadr 1 (t 4)) 27 false, g 29 (.load false 1 (t 28)) 27 false, g 30 (c 43 [t 29]) 27 false, g 31 (.not (t 30)) 27 false, k 32 (.pick (t 27) (b true) (t 31)), m 33 32, g 34 (.fadr 2 (t 1)) 33 false, g 35 (.load false 1 (t 34)) 33 false, g 36 (.mov (t 3)) 33 false, g 37 (.sl 2 (t 35) none (some (t 36)) none) 33 false, g 38 (.mkf 135 [t 4]) 33 false, g 39 (c 134 [t 37, t 38]) 33 false, k 40 (.pick (t 33) (b true) (t 39))]) (.cond (t 40) (q (r [k 2 (.mov (b false))]) .ret) .skip)) (q (r [k 41 (.fadr 0 (t 1)), k 42 (.load false 1 (t 41)), k 43 (.bin .eql (t 42) (i 1)), m 44 43, g 45 (.fadr 1 (t 4)) 44 true, g 46 (.load false 1 (t 45)) 44 true, g 47 (c 136 [t 46]) 44 true, g 48 (.not (t 47)) 44 true, k 49 (.pick (t 44) (t 48) (b false))]) (.cond (t 49) (q (r [k 2 (.mov (b false))]) .ret) .skip))))) (r [k 50 (.bin .add (t 18) (i 1)), m 18 50]))))))) (q (q (r [k 51 (.fadr 0 (t 1)), k 52 (.load false 1 (t 51)), k 53 (.bin .eql (t 52) (i 1))]) (.cond (t 53) (q (r [k 54 (.fadr 2 (t 1)), k 55 (.load false 1 (t 54)), k 56 (.lenl (t 55)), k 57 (.bin .gtr (t 56) (i 0)), m 58 57, g 59 (.fadr 3 (t 1)) 58 true, g 60 (.load false 1 (t 59)) 58 true, g 61 (.seq false (t 60) (s [])) 58 true, k 62 (.pick (t 58) (t 61) (b false)), m 63 62, g 64 (.fadr 4 (t 1)) 63 true, g 65 (.load true 4 (t 64)) 63 true, g 66 (.build [.int .i64 0, .int .i64 0, .str [], .imm [] [] true] []) 63 true, g 67 (c 137 [t 65, t 66]) 63 true, k 68 (.pick (t 63) (t 67) (b false)), m 2 68]) .ret) .skip)) (q (r [k 69 (.fadr 0 (t 1)), k 70 (.load false 1 (t 69)), k 71 (.bin .eql (t 70) (i 0)), m 72 71, g 73 (.fadr 3 (t 1)) 72 true, g 74 (.load false 1 (t 73)) 72 true, g 75 (c 43 [t 74]) 72 true, k 76 (.pick (t 72) (t 75) (b false)), m 77 76, g 78 (.fadr 4 (t 1)) 77 true, g 79 (.load true 4 (t 78)) 77 true, g 80 (c 53 [t 79]) 77 true, k 81 (.pick (t 77) (t 80) (b false)), m 2 81]) .ret))))⟩
theorem fit_impl_Decl_fits : Fit Tryz.prog 74 Tryz.f74 mf_impl_Decl_fits := ⟨by kernel_rfl, Tryz.func74, by kernel_rfl, by kernel_rfl, by kernel_rfl, by kernel_rfl⟩
theorem dfits_ct (d : LDecl) (hs : d.body.core.Sm) : Ct Tryz.prog 74 [.agg d.C] (.bool (validDecl d.core)) := by
  rw [← declFits_eq]
  refine ct_of_run fit_impl_Decl_fits (by simp [mf_impl_Decl_fits]) (by simp [go_sem]) fun hd => ?_
  simp -implicitDefEqProofs [-List.map_take, -List.map_drop, go_sem, mf_impl_Decl_fits]
  have hm : d.binds.es.length ≤ maxLen := binds_deep hd.1
  have hdb : deepV (.imm (d.binds.es.map Bind.C) d.binds.sp d.binds.lim) := by
    have := hd.1
    rw [LDecl.C_eq] at this
    exact this.2.2.1
  repeat' first
    | ((first | refine gv_split (fun h => ?_) (fun h => ?_) | refine cnd_split (fun h => ?_) (fun h => ?_) | refine cgv_split (fun h => ?_) (fun h => ?_)) <;> (try (have hp := h; simp at hp)) <;> simp -implicitDefEqProofs [-List.map_take, -List.map_drop, go_sem, h])
    | (refine And.intro (by first | omega | (simp only [maxLen]; omega) | (simp_all; done) | (simp_all; omega)) ?_; try simp -implicitDefEqProofs [-List.map_take, -List.map_drop, go_sem])
    | ((first | refine stp_ct (nameOk_ct _) (by simp [go_sem]) ?_ ?_ | refine cstp_ct (nameOk_ct _) (by simp [go_sem]) ?_ ?_); (simp [go_sem]); simp -implicitDefEqProofs [-List.map_take, -List.map_drop, go_sem])
    | (refine run_dreg' (by decide) ?_; simp -implicitDefEqProofs [-List.map_take, -List.map_drop, go_sem])
    | ((first | refine end_tup _ (by simp) (by simp [go_sem]; rfl) (by simp [go_sem]) ?_); first | (simp [go_sem, *, declFits, LDecl.core]; done) | grind [declFits, LDecl.core] | (simp [go_sem, declFits, LDecl.core]; grind [declFits, LDecl.core]) | (simp_all [go_sem, declFits, LDecl.core]; done) | (simp_all [go_sem, declFits, LDecl.core]; omega))
  refine run_iter (d.binds.es.length) (dfits_L d) (fun i a => fitsB d.kind (d.binds.es.take i) (d.binds.es.drop i) = fitsB d.kind [] d.binds.es) () (gh_auto (by simp [go_sem, dfits_L])) (by first | (simp; done) | (simp [declFits, LDecl.core, zeroL_core]; done) | (simp [declFits, LDecl.core, zeroL_core]; omega) | grind) ?_
  intro i a hi hj
  simp -implicitDefEqProofs [-List.map_take, -List.map_drop, go_sem, dfits_L]
  refine cnd_split (fun hc => ?_) (fun hc => ?_)
  · have hlt : i < d.binds.es.length := by first | (simpa using hc) | (simp at hc; omega)
    rw [List.drop_eq_getElem_cons (l := d.binds.es) (by omega)] at hj
    simp only [List.map_cons, fitsB] at hj
    have hww : ∀ e, e ∈ d.binds.sp → e.length = 2 := fun e he => wide_of_deep hdb _ (List.mem_map_of_mem (List.getElem_mem hlt)) (Bind.C_len _) e (.inr he)
    have hwsl := fun (σ : Heap) => slV_pre (σ := σ) (k := .i64) (f := Bind.C) (l := d.binds.es) (lim := d.binds.lim) (Nat.le_of_lt hlt) hww Bind.C_len
    rw [List.take_append_getElem hlt] at hj
    simp -implicitDefEqProofs [-List.map_take, -List.map_drop, go_sem, hlt, hww, hwsl]
    have d1 := fun a1 => nameOk_ct a1
    have d2 := fun a1 => itypeOk_ct a1
    have d3 := fun a1 => recordless2_ct a1
    have s1 := containsF_Bind_ct ⟨d.binds.es.take i, (d.binds.es.map Bind.C).drop i ++ d.binds.sp, d.binds.lim⟩ 135 [.iptr d.binds.es[i].C] (by simp [go_sem]) (fun o => o.name == d.binds.es[i].name) (fun o _ => fits1'_ct o d.binds.es[i])
    have hy := And.intro (hlt) (And.intro (hww) (hwsl))
    have e1 := @declFits.eq_1
    have e2 := @LDecl.core.eq_1
    have e3 := @zeroL_core
    have hdf := And.intro (@e1) (And.intro (@e2) (@e3))
    have eL := @dfits_L.eq_1
    have hm0 := hm
    have hlt0 := hlt
    exact wk2n
  · have hge : d.binds.es.length ≤ i := by first | (simpa using hc) | (simp at hc; omega)
    rw [List.drop_of_length_le (l := d.binds.es) (by omega)] at hj
    simp only [List.map_nil, fitsB] at hj
    try simp -implicitDefEqProofs [-List.map_take, -List.map_drop, go_sem]
    have c1 := isame_ct d.body zeroL
    have d1 := fun a1 => itypeOk_ct a1
    have c2 := iexprOk_ct d.body hs
    have hy := hy0
    have e1 := @declFits.eq_1
    have e2 := @LDecl.core.eq_1
    have e3 := @zeroL_core
    have hdf := And.intro (@e1) (And.intro (@e2) (@e3))
    exact wk1
  all_goals trace_state

theorem strsBd (l : List Str) (m : Nat) : (l.map strC).all (fun e => e.all (bdV m)) = true := by simp [strC, bdV]
def pOk_L1 (p : Sl LModule) (i : Nat) (a : List Str) : St := ⟨lk [(0, p.I LModule.C), (3, .ref 0 a.length 0 a.length none), (21, p.I LModule.C), (22, .int .i64 p.es.length), (23, .int .i64 i)], [some ⟨a.map strC, 1, 9, true, false⟩], []⟩
def pOk_L2 (p : Sl LModule) (i : Nat) (m : LModule) (a : List Str) (j : Nat) (b : List Str) : St := ⟨lk [(0, p.I LModule.C), (3, .ref 0 a.length 0 a.length none), (4, .int .i64 i), (5, .ptr 1 1 0 0), (6, .ref 2 b.length 0 b.length none), (21, p.I LModule.C), (22, .int .i64 p.es.length), (23, .int .i64 i), (55, m.uses.I Use.C), (56, .int .i64 m.uses.es.length), (57, .int .i64 j)],
  [some ⟨a.map strC, 1, 9, true, false⟩, some ⟨[m.C], 3, 61, false, false⟩, some ⟨b.map strC, 1, 9, true, false⟩], []⟩
def pOk_L3 (p : Sl LModule) (i : Nat) (m : LModule) (k : Nat) (c : List Str × List Str) : St := ⟨lk [(0, p.I LModule.C), (3, .ref 0 c.2.length 0 c.2.length none), (6, .ref 2 c.1.length 0 c.1.length none), (21, p.I LModule.C), (22, .int .i64 p.es.length), (23, .int .i64 i), (95, m.decls.I LDecl.C), (96, .int .i64 m.decls.es.length), (97, .int .i64 k)],
  [some ⟨c.2.map strC, 1, 9, true, false⟩, some ⟨[m.C], 3, 61, false, false⟩, some ⟨c.1.map strC, 1, 9, true, false⟩], []⟩
open Z in
def mf_impl_ProgramOk : MF := ⟨136, [(.t 2)], q (r [k 2 (.mov (b false))]) (q (q (r [m 12 0, k 13 (.lenl (t 12)), k 14 (.bin .lss (t 13) (i 1)), m 15 14, g 16 (.mov (t 0)) 15 false, g 17 (.lenl (t 16)) 15 false, g 18 (.bin .gtr (t 17) (i 3)) 15 false, k 19 (.pick (t 15) (b true) (t 18))]) (.cond (t 19) (q (r [k 2 (.mov (b false))]) .ret) .skip)) (q (r [k 20 (.bsl 9 1 0 [.str []] []), m 3 20]) (q (q (r [m 21 0, k 22 (.lenl (t 21)), k 23 (.mov (i 0))]) (.blk 0 (.loop (q (r [k 24 (.bin .lss (t 23) (t 22))]) (q (.cond (t 24) .skip (.exit 0)) (q (.blk 1 (q (r [m 25 23, k 26 (.iadr 3 (t 21) (t 23)), k 27 (.load true 3 (t 26)), k 5 (.alloc 61 [.str [], .imm [] [] true, .imm [] [] true]), m 4 25, n (.store 3 (t 5) (t 27))]) (q (q (.dreg [(k 28 (.fadr 0 (t 5)), []), (k 29 (.load false 1 (t 28)), [0]), (k 30 (c 71 [t 29]), [1]), (k 31 (.not (t 30)), [2]), (m 32 31, [3, 2]), (g 33 (.fadr 2 (t 5)) 32 false, [4]), (g 34 (.load false 1 (t 33)) 32 false, [5, 4]), (g 35 (.lenl (t 34)) 32 false, [6, 4]), (g 36 (.bin .gtr (t 35) (i 6)) 32 false, [7, 4]), (k 37 (.pick (t 32) (b true) (t 36)), [4, 8]), (m 38 37, [9, 4]), (g 39 (.fadr 1 (t 5)) 38 false, [10]), (g 40 (.load false 1 (t 39)) 38 false, [11, 10]), (g 41 (.lenl (t 40)) 38 false, [12, 10]), (g 42 (.bin .gtr (t 41) (i 4)) 38 false, [13, 10]), (k 43 (.pick (t 38) (b true) (t 42)), [10, 14]), (m 44 43, [15, 10]), (g 45 (.mov (t 0)) 44 false, [16]), (g 46 (.mov (t 4)) 44 false, [16]), (g 47 (.sl 3 (t 45) none (some (t 46)) none) 44 false, [17, 18, 16]), (g 48 (.fadr 0 (t 5)) 44 false, [16]), (g 49 (.load false 1 (t 48)) 44 false, [20, 16]), (g 50 (c 54 [t 47, t 49]) 44 false, [19, 21, 16, 16]), (g 51 (.bin .geq (t 50) (i 0)) 44 false, [22, 16]), (k 52 (.pick (t 44) (b true) (t 51)), [16, 23])]) (.cond (t 52) (q (r [k 2 (.mov (b false))]) .ret) .skip)) (q (r [k 53 (.bsl 9 1 0 [.str []] []), m 6 53]) (q (q (r [k 54 (.fadr 1 (t 5)), k 55 (.load false 1 (t 54)), k 56 (.lenl (t 55)), k 57 (.mov (i 0))]) (.blk 2 (.loop (q (r [k 58 (.bin .lss (t 57) (t 56))]) (q (.cond (t 58) .skip (.exit 2)) (q (.blk 3 (q (r [k 59 (.iadr 2 (t 55) (t 57)), k 60 (.load true 2 (t 59)), k 8 (.alloc 99 [.str [], .str []]), n (.store 2 (t 8) (t 60))]) (q (r [m 61 0, k 62 (.fadr 0 (t 8)), k 63 (.load false 1 (t 62)), k 64 (c 54 [t 61, t 63]), m 9 64]) (q (q (.dreg [(m 65 9, []), (k 66 (.bin .lss (t 65) (i 0)), [0]), (m 67 66, [1]), (g 68 (.mov (t 9)) 67 false, [2]), (g 69 (.mov (t 4)) 67 false, [2]), (g 70 (.bin .eql (t 68) (t 69)) 67 false, [3, 4, 2]), (k 71 (.pick (t 67) (b true) (t 70)), [2, 5]), (m 72 71, [6, 2]), (g 73 (.mov (t 0)) 72 false, [7]), (g 74 (.mov (t 9)) 72 false, [7]), (g 75 (.iadr 3 (t 73) (t 74)) 72 false, [8, 9, 7]), (g 76 (.load true 3 (t 75)) 72 false, [10, 7]), (g 77 (.fadr 1 (t 8)) 72 false, [7]), (g 78 (.load false 1 (t 77)) 72 false, [12, 7]), (g 79 (c 72 [t 76, t 78]) 72 false, [11, 13, 7, 7]), (g 80 (.bin .lss (t 79) (i 0)) 72 false, [14, 7]), (k 81 (.pick (t 72) (b true) (t 80)), [7, 15]), (m 82 81, [16, 14]), (g 83 (.mov (t 6)) 82 false, [17]), (g 84 (.fadr 1 (t 8)) 82 false, [17]), (g 85 (.load false 1 (t 84)) 82 false, [19, 17]), (g 86 (c 73 [t 83, t 85]) 82 false, [18, 20, 17, 17]), (k 87 (.pick (t 82) (b true) (t 86)), [17, 21])]) (.cond (t 87) (q (r [k 2 (.mov (b false))]) .ret) .skip)) (r [m 88 6, k 89 (.fadr 1 (t 8)), k 90 (.load false 1 (t 89)), k 91 (.bsl 9 1 1 [.str []] [(0, t 90)]), k 92 (.app 9 1 16 (t 88) (t 91)), m 6 92]))))) (r [k 93 (.bin .add (t 57) (i 1)), m 57 93]))))))) (q (r [k 94 (.fadr 2 (t 5)), k 95 (.load false 1 (t 94)), k 96 (.lenl (t 95)), k 97 (.mov (i 0))]) (.blk 4 (.loop (q (r [k 98 (.bin .lss (t 97) (t 96))]) (q (.cond (t 98) .skip (.exit 4)) (q (.blk 5 (q (r [k 99 (.iadr 8 (t 95) (t 97)), k 100 (.load true 8 (t 99)), k 11 (.alloc 72 [.int .i64 0, .str [], .imm [] [] true, .str [], .int .i64 0, .int .i64 0, .str [], .imm [] [] true]), n (.store 8 (t 11) (t 100))]) (q (q (r [k 101 (.load true 8 (t 11)), k 102 (c 74 [t 101]), k 103 (.not (t 102)), m 104 103, g 105 (.mov (t 6)) 104 false, g 106 (.fadr 1 (t 11)) 104 false, g 107 (.load false 1 (t 106)) 104 false, g 108 (c 73 [t 105, t 107]) 104 false, k 109 (.pick (t 104) (b true) (t 108)), m 110 109, g 111 (.fadr 0 (t 11)) 110 false, g 112 (.load false 1 (t 111)) 110 false, g 113 (.bin .eql (t 112) (i 1)) 110 false, g 114 (.mov (t 113)) 110 false, g 115 (.mov (t 3)) 114 true, g 116 (.fadr 1 (t 11)) 114 true, g 117 (.load false 1 (t 116)) 114 true, g 118 (c 73 [t 115, t 117]) 114 true, g 119 (.pick (t 114) (t 118) (b false)) 110 false, k 120 (.pick (t 110) (b true) (t 119))]) (.cond (t 120) (q (r [k 2 (.mov (b false))]) .ret) .skip)) (q (r [m 121 6, k 122 (.fadr 1 (t 11)), k 123 (.load false 1 (t 122)), k 124 (.bsl 9 1 1 [.str []] [(0, t 123)]), k 125 (.app 9 1 16 (t 121) (t 124)), m 6 125]) (q (r [k 126 (.fadr 0 (t 11)), k 127 (.load false 1 (t 126)), k 128 (.bin .eql (t 127) (i 1))]) (.cond (t 128) (r [m 129 3, k 130 (.fadr 1 (t 11)), k 131 (.load false 1 (t 130)), k 132 (.bsl 9 1 1 [.str []] [(0, t 131)]), k 133 (.app 9 1 16 (t 129) (t 132)), m 3 133]) .skip)))))) (r [k 134 (.bin .add (t 97) (i 1)), m 97 134])))))))))))) (r [k 135 (.bin .add (t 23) (i 1)), m 23 135]))))))) (q (r [k 2 (.mov (b true))]) .ret))))⟩
theorem fit_impl_ProgramOk : Fit Tryz.prog 33 Tryz.f33 mf_impl_ProgramOk := ⟨by kernel_rfl, Tryz.func33, by kernel_rfl, by kernel_rfl, by kernel_rfl, by kernel_rfl⟩
theorem iprogramOk_ct (p : Sl LModule) (hs : SmP (p.es.map LModule.core)) : Ct Tryz.prog 33 [p.I LModule.C] (.bool (iprogramOk (p.es.map LModule.core))) := by
  refine ct_of_run fit_impl_ProgramOk (by simp [mf_impl_ProgramOk]) (by simp [go_sem]) fun hd => ?_
  simp -implicitDefEqProofs [-List.map_take, -List.map_drop, go_sem, mf_impl_ProgramOk]
  have hm : p.es.length ≤ maxLen := sl_deep hd.1
  repeat' first
    | ((first | refine gv_split (fun h => ?_) (fun h => ?_) | refine cnd_split (fun h => ?_) (fun h => ?_) | refine cgv_split (fun h => ?_) (fun h => ?_)) <;> (try (have hp := h; simp at hp)) <;> simp -implicitDefEqProofs [-List.map_take, -List.map_drop, go_sem, h])
    | (refine And.intro (by first | omega | (simp only [maxLen]; omega) | (simp_all; done) | (simp_all; omega)) ?_; try simp -implicitDefEqProofs [-List.map_take, -List.map_drop, go_sem])
    | (refine run_dreg' (by decide) ?_; simp -implicitDefEqProofs [-List.map_take, -List.map_drop, go_sem])
    | ((first | refine end_tup _ (by simp) (by simp [go_sem]; rfl) (by simp [go_sem]) ?_); first | (simp [go_sem, *, iprogramOk]; done) | grind [iprogramOk] | (simp [go_sem, iprogramOk]; grind [iprogramOk]) | (simp_all [go_sem, iprogramOk]; done) | (simp_all [go_sem, iprogramOk]; omega))
  have hl3 : p.es.length ≤ 3 := by omega
  have hip : iprogramOk (p.es.map LModule.core) = modsI (p.es.map LModule.core) (p.es.map LModule.core) 0 [] := by rw [iprogramOk, if_neg]; simp; omega
  rw [hip]
  refine run_iter (p.es.length) (pOk_L1 p) (fun i a => modsI (p.es.map LModule.core) ((p.es.drop i).map LModule.core) i a = modsI (p.es.map LModule.core) (p.es.map LModule.core) 0 [] ∧ a.length ≤ 6 * i) [] (gh_auto (by simp [go_sem, pOk_L1])) (by first | (simp; done) | (simp []; done) | (simp []; omega) | grind) ?_
  intro i a hi hj
  simp -implicitDefEqProofs [-List.map_take, -List.map_drop, go_sem, pOk_L1]
  refine cnd_split (fun hc => ?_) (fun hc => ?_)
  · have hlt : i < p.es.length := by first | (simpa using hc) | (simp at hc; omega)
    rw [List.drop_eq_getElem_cons hlt] at hj
    simp only [List.map_cons, modsI] at hj
    have hsm := SmP_mod hs hlt
    have hww : ∀ e, e ∈ p.sp → e.length = 3 := fun e he => wide_of_deep hd.1 _ (List.mem_map_of_mem (List.getElem_mem hlt)) (LModule.C_len _) e (.inr he)
    have hwsl := fun (σ : Heap) => slV_pre (σ := σ) (k := .i64) (f := LModule.C) (l := p.es) (lim := p.lim) (Nat.le_of_lt hlt) hww LModule.C_len
    simp -implicitDefEqProofs [-List.map_take, -List.map_drop, go_sem, hlt, hww, hwsl]
    have hmb : modBad (p.es.map LModule.core) i p.es[i].core = (!isName p.es[i].name || (decide (6 < (p.es[i].decls.es.length : Int)) || (decide (4 < (p.es[i].uses.es.length : Int)) || decide (0 ≤ moduleAt ((p.es.take i).map LModule.core) p.es[i].name)))) := by
      rw [List.map_take]; unfold modBad; rw [LModule.core_decls, List.length_map]; rfl
    repeat' first
      | ((first | refine gv_split (fun h => ?_) (fun h => ?_) | refine cnd_split (fun h => ?_) (fun h => ?_) | refine cgv_split (fun h => ?_) (fun h => ?_)) <;> (try (have hp := h; simp at hp)) <;> simp -implicitDefEqProofs [-List.map_take, -List.map_drop, go_sem, h, hlt, hwsl])
      | (refine And.intro (by first | omega | (simp only [maxLen]; omega) | (simp_all; done) | (simp_all; omega)) ?_; try simp -implicitDefEqProofs [-List.map_take, -List.map_drop, go_sem, hlt, hwsl])
      | ((first | refine stp_ct (nameOk_ct _) (by simp [go_sem, hlt, hwsl]) ?_ ?_ | refine cstp_ct (nameOk_ct _) (by simp [go_sem, hlt, hwsl]) ?_ ?_ | refine stp_ct (place_ct ⟨p.es.take i, (p.es.map LModule.C).drop i ++ p.sp, p.lim⟩ _) (by simp [go_sem, hlt, hwsl]) ?_ ?_ | refine cstp_ct (place_ct ⟨p.es.take i, (p.es.map LModule.C).drop i ++ p.sp, p.lim⟩ _) (by simp [go_sem, hlt, hwsl]) ?_ ?_); (simp [go_sem]); simp -implicitDefEqProofs [-List.map_take, -List.map_drop, go_sem, hlt, hwsl])
      | (refine run_dreg' (by decide) ?_; simp -implicitDefEqProofs [-List.map_take, -List.map_drop, go_sem, hlt, hwsl])
      | ((first | refine end_tup _ (by simp) (by simp [go_sem]; rfl) (by simp [go_sem]) ?_); first | (simp [go_sem, *]; done) | grind | (simp [go_sem]; grind) | (simp_all [go_sem]; done) | (simp_all [go_sem]; omega))
    have hl6 : p.es[i].decls.es.length ≤ 6 := by omega
    have hl4 : p.es[i].uses.es.length ≤ 4 := by omega
    have hm2 : p.es[i].uses.es.length ≤ maxLen := Nat.le_trans hl4 (by decide)
    have hm3 : p.es[i].decls.es.length ≤ maxLen := Nat.le_trans hl6 (by decide)
    have hmb0 : modBad (p.es.map LModule.core) i p.es[i].core = false := by rw [hmb]; simp [*]
    rw [hmb0] at hj
    simp only [Bool.false_eq_true, if_false] at hj
    obtain ⟨hj, hja⟩ := hj
    simp only [LModule.core_uses, LModule.core_decls] at hj
    refine run_iter (p.es[i].uses.es.length) (pOk_L2 p i p.es[i] a) (fun i2 a2 => usesI (p.es.map LModule.core) i (p.es[i].uses.es.drop i2) a2 = usesI (p.es.map LModule.core) i p.es[i].uses.es [] ∧ a2.length ≤ i2) [] (gh_auto (by simp [go_sem, pOk_L2])) (by first | (simp; done) | (simp []; done) | (simp []; omega) | grind) ?_
    intro i2 a2 hi2 hj2
    simp -implicitDefEqProofs [-List.map_take, -List.map_drop, go_sem, pOk_L2]
    refine cnd_split (fun hc2 => ?_) (fun hc2 => ?_)
    · have hlt2 : i2 < p.es[i].uses.es.length := by first | (simpa using hc2) | (simp at hc2; omega)
      rw [List.drop_eq_getElem_cons hlt2] at hj2
      simp only [usesI] at hj2
      simp -implicitDefEqProofs [-List.map_take, -List.map_drop, go_sem, hlt2]
      have ha2 : a2.length ≤ 4 := by omega
      have hbad : useBadI (p.es.map LModule.core) i p.es[i].uses.es[i2] a2 = true → modsI (p.es.map LModule.core) (p.es.map LModule.core) 0 [] = false := fun hb => by
        rw [hb] at hj2
        rw [← hj2.1] at hj
        exact hj.symm
      have hgood : useBadI (p.es.map LModule.core) i p.es[i].uses.es[i2] a2 = false → usesI (p.es.map LModule.core) i (p.es[i].uses.es.drop (i2 + 1)) (a2 ++ [p.es[i].uses.es[i2].name]) = usesI (p.es.map LModule.core) i p.es[i].uses.es [] := fun hb => by
        rw [hb] at hj2
        exact hj2.1
      have hlen2 : a2.length ≤ i2 := hj2.2
      clear hj2
      rcases moduleAt_cases p.es p.es[i].uses.es[i2].module with h1 | ⟨k, hk, h1, h2⟩
      · have hub : useBadI (p.es.map LModule.core) i p.es[i].uses.es[i2] a2 = true := by simp [useBadI, at', h1]
        have d1 := fun a1 => place_ct p a1
        have hy := And.intro (hlt2) (h1)
        have hdf := hy0
        exact wk1
      · have hub : useBadI (p.es.map LModule.core) i p.es[i].uses.es[i2] a2 = ((k : Int) == i || (decide (declAt p.es[k].core p.es[i].uses.es[i2].name < 0) || a2.contains p.es[i].uses.es[i2].name)) := by
          rw [useBadI, h2, h1]
        repeat' first
          | ((first | refine gv_split (fun h => ?_) (fun h => ?_) | refine cnd_split (fun h => ?_) (fun h => ?_) | refine cgv_split (fun h => ?_) (fun h => ?_)) <;> (try (have hp := h; simp at hp)) <;> simp -implicitDefEqProofs [-List.map_take, -List.map_drop, go_sem, h, hlt2, h1, hk])
          | (refine And.intro (by first | omega | (simp only [maxLen]; omega) | (simp_all; done) | (simp_all; omega)) ?_; try simp -implicitDefEqProofs [-List.map_take, -List.map_drop, go_sem, hlt2, h1, hk])
          | ((first | refine stp_ct (place_ct p _) (by simp [go_sem, hlt2, h1, hk]) ?_ ?_ | refine cstp_ct (place_ct p _) (by simp [go_sem, hlt2, h1, hk]) ?_ ?_ | refine stp_ct (find_ct p.es[k] _) (by simp [go_sem, hlt2, h1, hk]) ?_ ?_ | refine cstp_ct (find_ct p.es[k] _) (by simp [go_sem, hlt2, h1, hk]) ?_ ?_); (simp [go_sem]); simp -implicitDefEqProofs [-List.map_take, -List.map_drop, go_sem, hlt2, h1, hk])
          | ((first | refine cstp_snap 3 (sContainsStr_ct ⟨a2, [], false⟩ p.es[i].uses.es[i2].name) (snap_whole (by first | rfl | (simp [go_sem]; rfl)) (by simp) (by simp [go_sem]) (by simp [go_sem])) ?_ ?_ ?_ | refine stp_snap 3 (sContainsStr_ct ⟨a2, [], false⟩ p.es[i].uses.es[i2].name) (snap_whole (by first | rfl | (simp [go_sem]; rfl)) (by simp) (by simp [go_sem]) (by simp [go_sem])) ?_ ?_ ?_); (simp [closedV]); (simp [go_sem]); simp -implicitDefEqProofs [-List.map_take, -List.map_drop, go_sem, hlt2, h1, hk])
          | (refine run_dreg' (by decide) ?_; simp -implicitDefEqProofs [-List.map_take, -List.map_drop, go_sem, hlt2, h1, hk])
          | ((first | refine kx_next (a2 ++ [p.es[i].uses.es[i2].name]) hlt2 (gh_auto (by simp [go_sem, pOk_L2, wrap_succ hlt2 hm2, hlt2, h1, hk])) ?_ | refine end_tup _ (by simp) (by simp [go_sem]; rfl) (by simp [go_sem]) ?_); first | (simp [go_sem, *]; done) | grind | (simp [go_sem]; grind) | (simp_all [go_sem]; done) | (simp_all [go_sem]; omega))
    · have hge2 : p.es[i].uses.es.length ≤ i2 := by first | (simpa using hc2) | (simp at hc2; omega)
      try simp -implicitDefEqProofs [-List.map_take, -List.map_drop, go_sem]
      rw [List.drop_of_length_le hge2] at hj2
      simp only [usesI] at hj2
      rw [← hj2.1] at hj
      simp only at hj
      have hb4 : a2.length ≤ 4 := by omega
      refine run_iter (p.es[i].decls.es.length) (pOk_L3 p i p.es[i]) (fun i3 a3 => declsI ((p.es[i].decls.es.drop i3).map LDecl.core) a3.1 a3.2 = declsI (p.es[i].decls.es.map LDecl.core) a2 a ∧ a3.1.length ≤ 4 + i3 ∧ a3.2.length ≤ 6 * i + i3) (a2, a) (gh_auto (by simp [go_sem, pOk_L3])) (by first | (simp; done) | (simp []; done) | (simp []; omega) | grind) ?_
      intro i3 a3 hi3 hj3
      simp -implicitDefEqProofs [-List.map_take, -List.map_drop, go_sem, pOk_L3]
      refine cnd_split (fun hc3 => ?_) (fun hc3 => ?_)
      · have hlt3 : i3 < p.es[i].decls.es.length := by first | (simpa using hc3) | (simp at hc3; omega)
        obtain ⟨b3, c3⟩ := a3
        simp only at hj3
        rw [List.drop_eq_getElem_cons hlt3] at hj3
        simp only [List.map_cons, declsI] at hj3
        simp -implicitDefEqProofs [-List.map_take, -List.map_drop, go_sem, hlt3]
        obtain ⟨hj3, hb3, hc3⟩ := hj3
        have hbad : declBad p.es[i].decls.es[i3].core b3 c3 = true → modsI (p.es.map LModule.core) (p.es.map LModule.core) 0 [] = false := fun hb => by
          rw [hb] at hj3
          rw [← hj3] at hj
          exact hj.symm
        have hgood : declBad p.es[i].decls.es[i3].core b3 c3 = false → declsI ((p.es[i].decls.es.drop (i3 + 1)).map LDecl.core) (b3 ++ [p.es[i].decls.es[i3].name]) (if p.es[i].decls.es[i3].kind == 1 then c3 ++ [p.es[i].decls.es[i3].name] else c3) = declsI (p.es[i].decls.es.map LDecl.core) a2 a := fun hb => by
          rw [hb] at hj3
          exact hj3
        have hub : declBad p.es[i].decls.es[i3].core b3 c3 = (!validDecl p.es[i].decls.es[i3].core || (b3.contains p.es[i].decls.es[i3].name || (p.es[i].decls.es[i3].kind == 1 && c3.contains p.es[i].decls.es[i3].name))) := rfl
        clear hj3 hj2
        cases hk : p.es[i].decls.es[i3].kind == 1
        · rw [hk] at hgood hub
          repeat' first
            | ((first | refine gv_split (fun h => ?_) (fun h => ?_) | refine cnd_split (fun h => ?_) (fun h => ?_) | refine cgv_split (fun h => ?_) (fun h => ?_)) <;> (try (have hp := h; simp at hp)) <;> simp -implicitDefEqProofs [-List.map_take, -List.map_drop, go_sem, h, hlt3, hk])
            | (refine And.intro (by first | omega | (simp only [maxLen]; omega) | (simp_all; done) | (simp_all; omega)) ?_; try simp -implicitDefEqProofs [-List.map_take, -List.map_drop, go_sem, hlt3, hk])
            | ((first | refine stp_ct (dfits_ct p.es[i].decls.es[i3] (Decl.Sm_body (Module.Sm_decl hsm hlt3))) (by simp [go_sem, hlt3, hk]) ?_ ?_ | refine cstp_ct (dfits_ct p.es[i].decls.es[i3] (Decl.Sm_body (Module.Sm_decl hsm hlt3))) (by simp [go_sem, hlt3, hk]) ?_ ?_); (simp [go_sem]); simp -implicitDefEqProofs [-List.map_take, -List.map_drop, go_sem, hlt3, hk])
            | ((first | refine cstp_snap 3 (sContainsStr_ct ⟨b3, [], false⟩ p.es[i].decls.es[i3].name) (snap_whole (by first | rfl | (simp [go_sem]; rfl)) (by simp) (by simp [go_sem]) (by simp [go_sem])) ?_ ?_ ?_ | refine stp_snap 3 (sContainsStr_ct ⟨b3, [], false⟩ p.es[i].decls.es[i3].name) (snap_whole (by first | rfl | (simp [go_sem]; rfl)) (by simp) (by simp [go_sem]) (by simp [go_sem])) ?_ ?_ ?_ | refine cstp_snap 3 (sContainsStr_ct ⟨c3, [], false⟩ p.es[i].decls.es[i3].name) (snap_whole (by first | rfl | (simp [go_sem]; rfl)) (by simp) (by simp [go_sem]) (by simp [go_sem])) ?_ ?_ ?_ | refine stp_snap 3 (sContainsStr_ct ⟨c3, [], false⟩ p.es[i].decls.es[i3].name) (snap_whole (by first | rfl | (simp [go_sem]; rfl)) (by simp) (by simp [go_sem]) (by simp [go_sem])) ?_ ?_ ?_); (simp [closedV]); (simp [go_sem]); simp -implicitDefEqProofs [-List.map_take, -List.map_drop, go_sem, hlt3, hk])
            | (refine run_dreg' (by decide) ?_; simp -implicitDefEqProofs [-List.map_take, -List.map_drop, go_sem, hlt3, hk])
            | ((first | refine kx_next (b3 ++ [p.es[i].decls.es[i3].name], c3) hlt3 (gh_auto (by simp [go_sem, pOk_L3, wrap_succ hlt3 hm3, hlt3, hk])) ?_ | refine end_tup _ (by simp) (by simp [go_sem]; rfl) (by simp [go_sem]) ?_); first | (simp [go_sem, *]; done) | grind | (simp [go_sem]; grind) | (simp_all [go_sem]; done) | (simp_all [go_sem]; omega))
        · rw [hk] at hgood hub
          repeat' first
            | ((first | refine gv_split (fun h => ?_) (fun h => ?_) | refine cnd_split (fun h => ?_) (fun h => ?_) | refine cgv_split (fun h => ?_) (fun h => ?_)) <;> (try (have hp := h; simp at hp)) <;> simp -implicitDefEqProofs [-List.map_take, -List.map_drop, go_sem, h, hlt3, hk])
            | (refine And.intro (by first | omega | (simp only [maxLen]; omega) | (simp_all; done) | (simp_all; omega)) ?_; try simp -implicitDefEqProofs [-List.map_take, -List.map_drop, go_sem, hlt3, hk])
            | ((first | refine stp_ct (dfits_ct p.es[i].decls.es[i3] (Decl.Sm_body (Module.Sm_decl hsm hlt3))) (by simp [go_sem, hlt3, hk]) ?_ ?_ | refine cstp_ct (dfits_ct p.es[i].decls.es[i3] (Decl.Sm_body (Module.Sm_decl hsm hlt3))) (by simp [go_sem, hlt3, hk]) ?_ ?_); (simp [go_sem]); simp -implicitDefEqProofs [-List.map_take, -List.map_drop, go_sem, hlt3, hk])
            | ((first | refine cstp_snap 3 (sContainsStr_ct ⟨b3, [], false⟩ p.es[i].decls.es[i3].name) (snap_whole (by first | rfl | (simp [go_sem]; rfl)) (by simp) (by simp [go_sem]) (by simp [go_sem])) ?_ ?_ ?_ | refine stp_snap 3 (sContainsStr_ct ⟨b3, [], false⟩ p.es[i].decls.es[i3].name) (snap_whole (by first | rfl | (simp [go_sem]; rfl)) (by simp) (by simp [go_sem]) (by simp [go_sem])) ?_ ?_ ?_ | refine cstp_snap 3 (sContainsStr_ct ⟨c3, [], false⟩ p.es[i].decls.es[i3].name) (snap_whole (by first | rfl | (simp [go_sem]; rfl)) (by simp) (by simp [go_sem]) (by simp [go_sem])) ?_ ?_ ?_ | refine stp_snap 3 (sContainsStr_ct ⟨c3, [], false⟩ p.es[i].decls.es[i3].name) (snap_whole (by first | rfl | (simp [go_sem]; rfl)) (by simp) (by simp [go_sem]) (by simp [go_sem])) ?_ ?_ ?_); (simp [closedV]); (simp [go_sem]); simp -implicitDefEqProofs [-List.map_take, -List.map_drop, go_sem, hlt3, hk])
            | (refine run_dreg' (by decide) ?_; simp -implicitDefEqProofs [-List.map_take, -List.map_drop, go_sem, hlt3, hk])
            | ((first | refine kx_next (b3 ++ [p.es[i].decls.es[i3].name], c3 ++ [p.es[i].decls.es[i3].name]) hlt3 (gh_auto (by simp [go_sem, pOk_L3, wrap_succ hlt3 hm3, hlt3, hk])) ?_ | refine end_tup _ (by simp) (by simp [go_sem]; rfl) (by simp [go_sem]) ?_); first | (simp [go_sem, *]; done) | grind | (simp [go_sem]; grind) | (simp_all [go_sem]; done) | (simp_all [go_sem]; omega))
      · have hge3 : p.es[i].decls.es.length ≤ i3 := by first | (simpa using hc3) | (simp at hc3; omega)
        try simp -implicitDefEqProofs [-List.map_take, -List.map_drop, go_sem]
        obtain ⟨b3, c3⟩ := a3
        simp only at hj3
        rw [List.drop_of_length_le hge3] at hj3
        obtain ⟨hj3, hb3, hc3⟩ := hj3
        simp only [List.map_nil, declsI] at hj3
        rw [← hj3] at hj
        simp only at hj
        repeat' first
          | ((first | refine gv_split (fun h => ?_) (fun h => ?_) | refine cnd_split (fun h => ?_) (fun h => ?_) | refine cgv_split (fun h => ?_) (fun h => ?_)) <;> (try (have hp := h; simp at hp)) <;> simp -implicitDefEqProofs [-List.map_take, -List.map_drop, go_sem, h])
          | (refine And.intro (by first | omega | (simp only [maxLen]; omega) | (simp_all; done) | (simp_all; omega)) ?_; try simp -implicitDefEqProofs [-List.map_take, -List.map_drop, go_sem])
          | (refine run_dreg' (by decide) ?_; simp -implicitDefEqProofs [-List.map_take, -List.map_drop, go_sem])
          | ((first | refine kx_next c3 hlt (gh_auto (by simp [go_sem, pOk_L1, wrap_succ hlt hm])) ?_ | refine end_tup _ (by simp) (by simp [go_sem]; rfl) (by simp [go_sem]) ?_); first | (simp [go_sem, *]; done) | grind | (simp [go_sem]; grind) | (simp_all [go_sem]; done) | (simp_all [go_sem]; omega))
  · have hge : p.es.length ≤ i := by first | (simpa using hc) | (simp at hc; omega)
    try simp -implicitDefEqProofs [-List.map_take, -List.map_drop, go_sem]
    rw [List.drop_of_length_le hge] at hj
    simp only [List.map_nil, modsI] at hj
    have hy := hy0
    have hdf := hy0
    exact wk0

theorem iprogramOk2_ct (p : Sl LModule) (hs : SmP (p.es.map LModule.core)) : Ct Tryz.prog 33 [p.I LModule.C] (.bool (programOk (p.es.map LModule.core))) := by
  rw [← iprogramOk_eq]; exact iprogramOk_ct p hs

open Z in
def mf_impl_Expr_binds : MF := ⟨11, [(.t 2)], q (r [k 1 (.box 48 (t 0)), k 2 (.mov (b false))]) (q (r [k 3 (.fadr 0 (t 1)), k 4 (.load false 1 (t 3)), k 5 (.bin .eql (t 4) (i 11)), m 6 5, g 7 (.fadr 0 (t 1)) 6 false, g 8 (.load false 1 (t 7)) 6 false, g 9 (.bin .eql (t 8) (i 12)) 6 false, k 10 (.pick (t 6) (b true) (t 9)), m 2 10]) .ret)⟩
theorem fit_impl_Expr_binds : Fit Tryz.prog 153 Tryz.f153 mf_impl_Expr_binds := ⟨by kernel_rfl, Tryz.func153, by kernel_rfl, by kernel_rfl, by kernel_rfl, by kernel_rfl⟩
theorem binds_ct (x : LExpr) : Ct Tryz.prog 153 [.agg x.C] (.bool (x.kind == 11 || x.kind == 12)) := by
  refine ct_of_run fit_impl_Expr_binds (by simp [mf_impl_Expr_binds]) (by simp [go_sem]) fun hd => ?_
  simp -implicitDefEqProofs [-List.map_take, -List.map_drop, go_sem, mf_impl_Expr_binds]
  have hy := hy0
  have hdf := hy0
  exact wk0
end Go.Mach
