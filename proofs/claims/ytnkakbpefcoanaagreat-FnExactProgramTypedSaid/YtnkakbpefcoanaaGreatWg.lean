import Derived.Test.YtnkakbpefcoanaaGreatMh
import Derived.Test.YtnkakbpefcoanaaGreatWf
/- Types of expressions, of the reference, walked: the whole. -/
set_option maxHeartbeats 4000000
namespace Go.Mach
open Go Go.Proofs
set_option linter.unusedVariables false
set_option linter.unusedSimpArgs false
attribute [local go_sem] Z.k Z.g Z.n Z.m Z.t Z.i Z.b Z.s Z.c Z.r Z.q run_seq run_skip run_reg run_blk run_exit run_ret run_cond cnd_true cnd_false kx_seq_normal kx_seq_exit kx_seq_ret kx_blk_normal kx_blk_same kx_blk_other kx_blk_ret kx_loop_exit kx_loop_ret kx_done ops_nil ops_plain ops_grd gv_tt gv_ff gv_tf gv_ft gv_tup stp_ok stp_ob stp_hp stp_bad stp_if get_t get_c putO_some putO_none put_same put_ne put_σ put_base withσ_τ withσ_σ withσ_base withσ_put withσ_withσ mk_τ mk_σ mk_base mk_withσ entry_τ entry_σ entry_base calm_nil calm_plain calm_grd cgv_tt cgv_ff cgv_tf cgv_ft cgv_tup cstp_ok cstp_ob cstp_if
attribute [local irreducible] Ct Co Cs
attribute [local go_sem] evalOp notV negV pickV binV intB seqV beqV catV lensV lenlV boxV_eq newV cellsOf cellV fadrV fldV fldC loadV loadC_ag loadC_one plainV isOwn iadrV storeV lk bdV bdL renO renL renV pureV pureL noOwnV noOwnL idxV slsV optI extV resL resV ret1 mmV cnviV cnvsV nilcV eqnV bslV bslGo appV elems okE appE getD_map okO_none okO_some strC intC Sl.I
attribute [local simp] Bind.eqa Use.eqa loadC_str loadC_int Bind.C_len Bind.C_pure Bind.C_noOwn Bind.C_cell Bind.C_bd Bind.C_bdL Bind.C_ren Bind.C_any Bind.C_any0 Bind.C_any1 Bind.C_anyt Bind.C_take Bind.C_load Bind.C_load0 Bind.C_load1 Bind.C_fld Bind.C_box Bind.C_fold Use.C_len Use.C_pure Use.C_noOwn Use.C_cell Use.C_bd Use.C_bdL Use.C_ren Use.C_any Use.C_any0 Use.C_any1 Use.C_anyt Use.C_take Use.C_load Use.C_load0 Use.C_load1 Use.C_fld Use.C_box Use.C_fold LExpr.C_len LExpr.C_pure LExpr.C_noOwn LExpr.C_cell LExpr.C_bd LExpr.C_bdL LExpr.C_ren LExpr.C_any LExpr.C_any0 LExpr.C_any1 LExpr.C_anyt LExpr.C_take LExpr.C_load LExpr.C_load0 LExpr.C_load1 LExpr.C_fld LExpr.C_box LExpr.C_fold LDecl.C_len LDecl.C_pure LDecl.C_noOwn LDecl.C_cell LDecl.C_bd LDecl.C_bdL LDecl.C_ren LDecl.C_any LDecl.C_any0 LDecl.C_any1 LDecl.C_anyt LDecl.C_take LDecl.C_load LDecl.C_load0 LDecl.C_load1 LDecl.C_fld LDecl.C_box LDecl.C_fold LModule.C_len LModule.C_pure LModule.C_noOwn LModule.C_cell LModule.C_bd LModule.C_bdL LModule.C_ren LModule.C_any LModule.C_any0 LModule.C_any1 LModule.C_anyt LModule.C_take LModule.C_load LModule.C_load0 LModule.C_load1 LModule.C_fld LModule.C_box LModule.C_fold
attribute [local go_sem] mix_nil mix_fplain mix_fgrd mix_oplain fg_tt fg_ff fg_tf fg_ft fg_tup fstp_ok fstp_ob fstp_if og_tt og_ff dstIn
attribute [local go_sem] mix_nilH mix_fplainH mix_fgrdH mix_oplainH fg_ttH fg_ffH fg_tfH fg_ftH fg_tupH fstp_okH fstp_obH fstp_ifH og_ttH og_ffH dstInS buildV fillC

def TY (p : Sl LModule) (mi : Nat) : PV := .agg [p.I LModule.C, .int .i64 mi]
theorem typedS_ok {p : List Module} {mi : Nat} {m : Module} (hp : programOk p = true) (hm : p[mi]? = some m) {e : Expr} {tall : Nat} (hv : validShape e tall = true) {list : List Bind} (hl : ∀ b, b ∈ list → typeOk b.type = true) :
    typedS p mi e list ≠ [] → typeOk (typedS p mi e list) = true := by
  obtain ⟨h1, h2⟩ := typed_eq hp hm e tall hv list hl
  rw [h1]
  exact (out_ok h2).2.2
def kids_L (p : Sl LModule) (mi : Nat) (e : LExpr) (l : Sl Bind) (i : Nat) (a : List Str) : St := ⟨lk [(2, l.I Bind.C), (3, .ptr 0 1 0 0), (4, .ptr 1 1 0 0), (7, .ref 2 a.length 0 a.length none), (8, .int .i64 i)],
  [some ⟨[[p.I LModule.C, .int .i64 mi]], 2, 191, false, false⟩, some ⟨[[.int .i64 e.kind, .int .i64 e.num, .str e.text, .imm (e.kids.map LExpr.C) e.sp e.lim]], 4, 48, false, false⟩, some ⟨a.map strC, 1, 9, true, false⟩], []⟩
open Z in
def mf_spec_typer_kids : MF := ⟨29, [(.t 6)], q (r [k 3 (.box 191 (t 0)), k 4 (.box 48 (t 1)), k 6 (.mov (.c (.imm [] [] true)))]) (q (r [k 9 (.bsl 9 1 0 [.str []] []), m 7 9]) (q (q (r [k 8 (.mov (i 0))]) (.blk 0 (.loop (q (q (r [m 10 8, k 11 (.fadr 3 (t 4)), k 12 (.load false 1 (t 11)), k 13 (.lenl (t 12)), k 14 (.bin .lss (t 10) (t 13))]) (.cond (t 14) .skip (.exit 0))) (q (.blk 1 (.dreg [(m 17 7, []), (k 18 (.load true 2 (t 3)), []), (k 19 (.fadr 3 (t 4)), []), (k 20 (.load false 1 (t 19)), [2]), (m 21 8, []), (k 22 (.iadr 4 (t 20) (t 21)), [3, 4]), (k 23 (.load true 4 (t 22)), [5]), (m 24 2, []), (k 25 (c 187 [t 18, t 23, t 24]), [1, 6, 7]), (k 26 (.bsl 9 1 1 [.str []] [(0, t 25)]), [8]), (k 27 (.app 9 1 16 (t 17) (t 26)), [0, 9, 8]), (m 7 27, [10, 10, 0, 1, 2, 3, 4, 5, 6, 7, 8, 9, 10])])) (r [m 15 8, k 16 (.bin .add (t 15) (i 1)), m 8 16])))))) (q (r [m 28 7, m 6 28]) .ret)))⟩
theorem fit_spec_typer_kids : Fit Tryz.prog 211 Tryz.f211 mf_spec_typer_kids := ⟨by kernel_rfl, Tryz.func211, by kernel_rfl, by kernel_rfl, by kernel_rfl, by kernel_rfl⟩
theorem kids_ct (p : Sl LModule) (mi : Nat) (e : LExpr) (l : Sl Bind) (hs : e.kids.length ≤ 1000)
    (ih : ∀ x, x ∈ e.kids → Ct Tryz.prog 187 [.agg [p.I LModule.C, .int .i64 mi], .agg x.C, l.I Bind.C] (.str (typedS (p.es.map LModule.core) mi x.core l.es))) :
    Ct Tryz.prog 211 [.agg [p.I LModule.C, .int .i64 mi], .agg e.C, l.I Bind.C] ((⟨typedSs (p.es.map LModule.core) mi (e.kids.map LExpr.core) l.es, [], false⟩ : Sl Str).I strC) := by
  refine ct_of_run fit_spec_typer_kids (by simp [mf_spec_typer_kids]) (by simp [go_sem]) fun hd => ?_
  simp -implicitDefEqProofs [-List.map_take, -List.map_drop, go_sem, mf_spec_typer_kids]
  have hm : e.kids.length ≤ maxLen := Nat.le_trans hs (by decide)
  refine run_iter (e.kids.length) (kids_L p mi e l) (fun i a => a ++ typedSs (p.es.map LModule.core) mi ((e.kids.drop i).map LExpr.core) l.es = typedSs (p.es.map LModule.core) mi (e.kids.map LExpr.core) l.es ∧ a.length ≤ i) [] (gh_auto (by simp [go_sem, kids_L])) (by first | (simp; done) | (simp []; done) | (simp []; omega) | grind) ?_
  intro i a hi hj
  simp -implicitDefEqProofs [-List.map_take, -List.map_drop, go_sem, kids_L]
  refine cnd_split (fun hc => ?_) (fun hc => ?_)
  · have hlt : i < e.kids.length := by first | (simpa using hc) | (simp at hc; omega)
    rw [List.drop_eq_getElem_cons (l := e.kids) (by omega)] at hj
    simp only [List.map_cons, List.map_cons, List.map_nil, typedSs] at hj
    simp -implicitDefEqProofs [-List.map_take, -List.map_drop, go_sem, hlt]
    obtain ⟨hj, hja⟩ := hj
    have hja2 : a.length ≤ 1000 := by omega
    repeat' first
      | ((first | refine gv_split (fun h => ?_) (fun h => ?_) | refine cnd_split (fun h => ?_) (fun h => ?_) | refine cgv_split (fun h => ?_) (fun h => ?_)) <;> (try (have hp := h; simp at hp)) <;> simp -implicitDefEqProofs [-List.map_take, -List.map_drop, go_sem, h, hlt])
      | (refine And.intro (by first | omega | (simp only [maxLen]; omega) | (simp_all; done) | (simp_all; omega)) ?_; try simp -implicitDefEqProofs [-List.map_take, -List.map_drop, go_sem, hlt])
      | ((first | refine stp_ct (ih e.kids[i] (List.getElem_mem hlt)) (by simp [go_sem, hlt]) ?_ ?_ | refine cstp_ct (ih e.kids[i] (List.getElem_mem hlt)) (by simp [go_sem, hlt]) ?_ ?_); (simp [go_sem]); simp -implicitDefEqProofs [-List.map_take, -List.map_drop, go_sem, hlt])
      | (refine run_mixS (X := List (List PV) × Heap) (fun x => [some ⟨[[p.I LModule.C, .int .i64 mi]], 2, 191, false, false⟩, some ⟨[[.int .i64 e.kind, .int .i64 e.num, .str e.text, .imm (e.kids.map LExpr.C) e.sp e.lim]], 4, 48, false, false⟩, some ⟨x.1, 1, 9, true, false⟩] ++ x.2) [26, 27] ⟨(_, []), rfl⟩ (by decide) ?_; simp -implicitDefEqProofs [-List.map_take, -List.map_drop, go_sem, hlt])
      | (refine fg_splitH (fun h => ?_) (fun h => ?_) <;> (try (have hp := h; simp at hp)) <;> simp -implicitDefEqProofs [-List.map_take, -List.map_drop, go_sem, h, hlt])
      | ((first | refine fstp_ctH (ih e.kids[i] (List.getElem_mem hlt)) (by simp [go_sem, hlt]) ?_ ?_); (simp [go_sem]); simp -implicitDefEqProofs [-List.map_take, -List.map_drop, go_sem, hlt])
      | (refine ostp_hpH ⟨(_, _), rfl⟩ ?_ ?_; (focus (first | trivial | omega | (simp [go_sem]; done) | (simp [go_sem]; omega) | (simp [go_sem, Bind.C]; omega))); simp -implicitDefEqProofs [-List.map_take, -List.map_drop, go_sem, hlt])
      | (refine ostp_okH ⟨(_, _), rfl⟩ ?_; simp -implicitDefEqProofs [-List.map_take, -List.map_drop, go_sem, hlt])
      | (refine mix_ogrdH ?_; simp -implicitDefEqProofs [-List.map_take, -List.map_drop, go_sem, hlt])
      | (refine run_dreg' (by decide) ?_; simp -implicitDefEqProofs [-List.map_take, -List.map_drop, go_sem, hlt])
      | ((first | refine kx_next (a ++ [typedS (p.es.map LModule.core) mi e.kids[i].core l.es]) hlt (gh_auto (by simp [go_sem, kids_L, wrap_succ hlt hm, hlt])) ?_ | refine end_tup _ (by simp) (by simp [go_sem]; rfl) (by simp [go_sem]) ?_); first | (simp [go_sem, *]; done) | grind | (simp [go_sem]; grind) | (simp_all [go_sem]; done) | (simp_all [go_sem]; omega))
  · have hge : e.kids.length ≤ i := by first | (simpa using hc) | (simp at hc; omega)
    rw [List.drop_of_length_le (l := e.kids) (by omega)] at hj
    simp only [List.map_nil, List.map_cons, List.map_nil, typedSs] at hj
    try simp -implicitDefEqProofs [-List.map_take, -List.map_drop, go_sem]
    obtain ⟨hj, hja⟩ := hj
    simp only [List.append_nil] at hj
    rw [← hj]
    refine end_whole (o := 2) (n := a.length) (es := a.map strC) (sz := 1) (ty := 9) (arr := true) (frz := false) (by simp) (by simp [go_sem]) (by simp [go_sem]) (by simp) strs_pure ?_
    simp [Sl.I]
open Z in
def mf_spec_typer_bound : MF := ⟨62, [(.t 6)], q (r [k 3 (.box 191 (t 0)), k 4 (.box 48 (t 1)), k 6 (.mov (s []))]) (q (.dreg [(k 13 (.load true 2 (t 3)), []), (k 14 (.fadr 3 (t 4)), []), (k 15 (.load false 1 (t 14)), [1]), (k 16 (.iadr 4 (t 15) (i 0)), [2]), (k 17 (.load true 4 (t 16)), [3]), (m 18 2, []), (k 19 (c 187 [t 13, t 17, t 18]), [0, 4, 5]), (m 7 19, [6, 6, 0, 1, 2, 3, 4, 5, 6])]) (q (q (r [m 20 7, k 21 (.seq false (t 20) (s []))]) (.cond (t 21) (q (r [k 6 (.mov (s []))]) .ret) .skip)) (q (q (r [k 22 (.fadr 0 (t 4)), k 23 (.load false 1 (t 22)), k 24 (.bin .eql (t 23) (i 12))]) (.cond (t 24) (q (r [m 26 7, k 27 (c 86 [t 26]), m 25 27, k 28 (.ext (t 25) 0), k 29 (.ext (t 25) 1), m 8 28, m 9 29]) (q (q (r [m 30 9, k 31 (.not (t 30))]) (.cond (t 31) (q (r [k 6 (.mov (s []))]) .ret) .skip)) (r [m 32 8, m 7 32]))) .skip)) (q (.dreg [(k 33 (.load true 2 (t 3)), []), (k 34 (.fadr 3 (t 4)), []), (k 35 (.load false 1 (t 34)), [1]), (k 36 (.iadr 4 (t 35) (i 1)), [2]), (k 37 (.load true 4 (t 36)), [3]), (k 38 (.bsl 118 2 0 [.str [], .str []] []), []), (m 39 2, []), (k 40 (.app 118 2 32 (t 38) (t 39)), [5, 6]), (k 41 (.fadr 2 (t 4)), []), (k 42 (.load false 1 (t 41)), [8]), (m 43 7, []), (k 44 (.build [.str [], .str []] [(0, (1, t 42)), (1, (1, t 43))]), [9, 10]), (k 45 (.bsl 118 2 1 [.str [], .str []] [(0, t 44)]), [11]), (k 46 (.app 118 2 32 (t 40) (t 45)), [7, 12, 7]), (k 47 (c 187 [t 33, t 37, t 46]), [0, 4, 13, 13]), (m 10 47, [14, 14, 0, 1, 2, 3, 4, 5, 6, 7, 8, 9, 10, 11, 12, 13, 14])]) (q (q (r [k 48 (.fadr 0 (t 4)), k 49 (.load false 1 (t 48)), k 50 (.bin .eql (t 49) (i 11)), m 51 50, g 52 (.mov (t 10)) 51 false, g 53 (.seq false (t 52) (s [])) 51 false, k 54 (.pick (t 51) (b true) (t 53))]) (.cond (t 54) (q (r [m 55 10, m 6 55]) .ret) .skip)) (q (r [m 57 10, k 58 (c 219 [t 57]), m 56 58, k 59 (.ext (t 56) 0), k 60 (.ext (t 56) 1), m 11 59, m 12 60]) (q (r [m 61 11, m 6 61]) .ret)))))))⟩
theorem fit_spec_typer_bound : Fit Tryz.prog 209 Tryz.f209 mf_spec_typer_bound := ⟨by kernel_rfl, Tryz.func209, by kernel_rfl, by kernel_rfl, by kernel_rfl, by kernel_rfl⟩
theorem bound_ct (p : Sl LModule) (mi : Nat) (e : LExpr) (l : Sl Bind) (hk : e.kind = 11 ∨ e.kind = 12) (x0 x1 : LExpr) (hx : e.kids = [x0, x1]) (hl : l.es.length ≤ 1000)
    (h0 : Ct Tryz.prog 187 [.agg [p.I LModule.C, .int .i64 mi], .agg x0.C, l.I Bind.C] (.str (typedS (p.es.map LModule.core) mi x0.core l.es)))
    (h1 : ∀ t, typeOk t = true → Ct Tryz.prog 187 [.agg [p.I LModule.C, .int .i64 mi], .agg x1.C, (⟨l.es ++ [⟨e.text, t⟩], [], false⟩ : Sl Bind).I Bind.C] (.str (typedS (p.es.map LModule.core) mi x1.core (l.es ++ [⟨e.text, t⟩]))))
    (ht0 : typedS (p.es.map LModule.core) mi x0.core l.es ≠ [] → typeOk (typedS (p.es.map LModule.core) mi x0.core l.es) = true) :
    Ct Tryz.prog 209 [.agg [p.I LModule.C, .int .i64 mi], .agg e.C, l.I Bind.C] (.str (boundS (p.es.map LModule.core) mi e.kind e.text (e.kids.map LExpr.core) l.es)) := by
  refine ct_of_run fit_spec_typer_bound (by simp [mf_spec_typer_bound]) (by simp [go_sem]) fun hd => ?_
  simp -implicitDefEqProofs [-List.map_take, -List.map_drop, go_sem, mf_spec_typer_bound]
  rw [hx, List.map_cons, List.map_cons, List.map_nil, boundS]
  obtain ⟨t, ht⟩ : ∃ t, t = typedS (p.es.map LModule.core) mi x0.core l.es := ⟨_, rfl⟩
  rw [← ht] at h0 ht0 ⊢
  cases hn : t == [] with
  | true =>
    have c1 := h0
    have hy := And.intro (hx) (hn)
    have hdf := hy0
    exact wk1
  | false =>
    have hto := ht0 (by simpa using hn)
    rcases hk with hk | hk
    · have h1' := h1 t hto
      simp only [Sl.I, List.map_append, List.map_cons, List.map_nil, Bind.C] at h1'
      have hb1 : (e.kind == 11) = true := by simpa using hk
      have hb2 : (e.kind == 12) = false := by simp [hk]
      repeat' first
        | ((first | refine gv_split (fun h => ?_) (fun h => ?_) | refine cnd_split (fun h => ?_) (fun h => ?_) | refine cgv_split (fun h => ?_) (fun h => ?_)) <;> (try (have hp := h; simp at hp)) <;> simp -implicitDefEqProofs [-List.map_take, -List.map_drop, go_sem, h, hx, hn, hb1, hb2])
        | (refine And.intro (by first | omega | (simp only [maxLen]; omega) | (simp_all; done) | (simp_all; omega)) ?_; try simp -implicitDefEqProofs [-List.map_take, -List.map_drop, go_sem, hx, hn, hb1, hb2])
        | ((first | refine stp_ct (h0) (by simp [go_sem, hx, hn, hb1, hb2]) ?_ ?_ | refine cstp_ct (h0) (by simp [go_sem, hx, hn, hb1, hb2]) ?_ ?_); (simp [go_sem]); simp -implicitDefEqProofs [-List.map_take, -List.map_drop, go_sem, hx, hn, hb1, hb2])
        | (refine run_mixD [38, 40, 46, 47] (by decide) ?_; simp -implicitDefEqProofs [-List.map_take, -List.map_drop, go_sem, hx, hn, hb1, hb2])
        | (refine fg_split (fun h => ?_) (fun h => ?_) <;> (try (have hp := h; simp at hp)) <;> simp -implicitDefEqProofs [-List.map_take, -List.map_drop, go_sem, h, hx, hn, hb1, hb2])
        | ((first | refine fstp_ct (h0) (by simp [go_sem, hx, hn, hb1, hb2]) ?_ ?_); (simp [go_sem]); simp -implicitDefEqProofs [-List.map_take, -List.map_drop, go_sem, hx, hn, hb1, hb2])
        | (refine fstp_imm (fun ext => rfl) ?_ ?_ ?_ ?_; (focus (first | rfl | (simp; done))); (simp [go_sem]); (focus (first | trivial | omega | (simp [go_sem]; done) | (simp [go_sem]; omega) | (simp [go_sem, Bind.C]; omega))); simp -implicitDefEqProofs [-List.map_take, -List.map_drop, go_sem, hx, hn, hb1, hb2])
        | (refine ostp_hp ⟨_, rfl⟩ ?_ ?_; (focus (first | trivial | omega | (simp [go_sem]; done) | (simp [go_sem]; omega) | (simp [go_sem, Bind.C]; omega))); simp -implicitDefEqProofs [-List.map_take, -List.map_drop, go_sem, hx, hn, hb1, hb2])
        | ((first | refine ostp_snap 3 (h1') (by repeat' first | exact snapW_nil | (refine snapW_pure (by simp [go_sem]) ?_) | (refine snapW_ref (by first | rfl | (simp [go_sem]; rfl)) (by simp) (by simp [go_sem]) (by simp [go_sem]) ?_)) ⟨_, rfl⟩ ?_ ?_ ?_); (simp [closedV]); (simp [go_sem]); simp -implicitDefEqProofs [-List.map_take, -List.map_drop, go_sem, hx, hn, hb1, hb2])
        | (refine ostp_ok ⟨_, rfl⟩ ?_; simp -implicitDefEqProofs [-List.map_take, -List.map_drop, go_sem, hx, hn, hb1, hb2])
        | (refine mix_ogrd ?_; simp -implicitDefEqProofs [-List.map_take, -List.map_drop, go_sem, hx, hn, hb1, hb2])
        | ((first | refine og_tf ⟨_, rfl⟩ ?_ | refine og_ft ⟨_, rfl⟩ ?_ | refine og_tup ⟨_, rfl⟩ ?_); simp -implicitDefEqProofs [-List.map_take, -List.map_drop, go_sem, hx, hn, hb1, hb2])
        | ((first | refine end_tup _ (by simp) (by simp [go_sem]; rfl) (by simp [go_sem]) ?_); first | (simp [go_sem, *]; done) | grind | (simp [go_sem]; grind) | (simp_all [go_sem]; done) | (simp_all [go_sem]; omega))
    · have hb1 : (e.kind == 11) = false := by simp [hk]
      have hb2 : (e.kind == 12) = true := by simpa using hk
      have hi := typeItem_ct t
      cases hI : itemOk t with
      | false =>
        rw [hI] at hi
        have c1 := h0
        have c2 := hi
        have hy := And.intro (hx) (And.intro (hn) (And.intro (hb1) (hb2)))
        have hdf := hy0
        exact wk1
      | true =>
        have hS : itemS t = mid t := by rw [itemS, hI]; rfl
        rw [hI, hS] at hi
        have h1' := h1 (mid t) (item_typeOk hI)
        obtain ⟨u, hu⟩ : ∃ u, u = typedS (p.es.map LModule.core) mi x1.core (l.es ++ [⟨e.text, mid t⟩]) := ⟨_, rfl⟩
        rw [← hu] at h1' ⊢
        simp only [Sl.I, List.map_append, List.map_cons, List.map_nil, Bind.C] at h1'
        repeat' first
          | ((first | refine gv_split (fun h => ?_) (fun h => ?_) | refine cnd_split (fun h => ?_) (fun h => ?_) | refine cgv_split (fun h => ?_) (fun h => ?_)) <;> (try (have hp := h; simp at hp)) <;> simp -implicitDefEqProofs [-List.map_take, -List.map_drop, go_sem, h, hx, hn, hb1, hb2])
          | (refine And.intro (by first | omega | (simp only [maxLen]; omega) | (simp_all; done) | (simp_all; omega)) ?_; try simp -implicitDefEqProofs [-List.map_take, -List.map_drop, go_sem, hx, hn, hb1, hb2])
          | ((first | refine stp_ct (h0) (by simp [go_sem, hx, hn, hb1, hb2]) ?_ ?_ | refine cstp_ct (h0) (by simp [go_sem, hx, hn, hb1, hb2]) ?_ ?_ | refine stp_ct (hi) (by simp [go_sem, hx, hn, hb1, hb2]) ?_ ?_ | refine cstp_ct (hi) (by simp [go_sem, hx, hn, hb1, hb2]) ?_ ?_ | refine stp_ct (typeList_ct u) (by simp [go_sem, hx, hn, hb1, hb2]) ?_ ?_ | refine cstp_ct (typeList_ct u) (by simp [go_sem, hx, hn, hb1, hb2]) ?_ ?_); (simp [go_sem]); simp -implicitDefEqProofs [-List.map_take, -List.map_drop, go_sem, hx, hn, hb1, hb2])
          | (refine run_mixD [38, 40, 46, 47] (by decide) ?_; simp -implicitDefEqProofs [-List.map_take, -List.map_drop, go_sem, hx, hn, hb1, hb2])
          | (refine fg_split (fun h => ?_) (fun h => ?_) <;> (try (have hp := h; simp at hp)) <;> simp -implicitDefEqProofs [-List.map_take, -List.map_drop, go_sem, h, hx, hn, hb1, hb2])
          | ((first | refine fstp_ct (h0) (by simp [go_sem, hx, hn, hb1, hb2]) ?_ ?_ | refine fstp_ct (hi) (by simp [go_sem, hx, hn, hb1, hb2]) ?_ ?_ | refine fstp_ct (typeList_ct u) (by simp [go_sem, hx, hn, hb1, hb2]) ?_ ?_); (simp [go_sem]); simp -implicitDefEqProofs [-List.map_take, -List.map_drop, go_sem, hx, hn, hb1, hb2])
          | (refine fstp_imm (fun ext => rfl) ?_ ?_ ?_ ?_; (focus (first | rfl | (simp; done))); (simp [go_sem]); (focus (first | trivial | omega | (simp [go_sem]; done) | (simp [go_sem]; omega) | (simp [go_sem, Bind.C]; omega))); simp -implicitDefEqProofs [-List.map_take, -List.map_drop, go_sem, hx, hn, hb1, hb2])
          | (refine ostp_hp ⟨_, rfl⟩ ?_ ?_; (focus (first | trivial | omega | (simp [go_sem]; done) | (simp [go_sem]; omega) | (simp [go_sem, Bind.C]; omega))); simp -implicitDefEqProofs [-List.map_take, -List.map_drop, go_sem, hx, hn, hb1, hb2])
          | ((first | refine ostp_snap 3 (h1') (by repeat' first | exact snapW_nil | (refine snapW_pure (by simp [go_sem]) ?_) | (refine snapW_ref (by first | rfl | (simp [go_sem]; rfl)) (by simp) (by simp [go_sem]) (by simp [go_sem]) ?_)) ⟨_, rfl⟩ ?_ ?_ ?_); (simp [closedV]); (simp [go_sem]); simp -implicitDefEqProofs [-List.map_take, -List.map_drop, go_sem, hx, hn, hb1, hb2])
          | (refine ostp_ok ⟨_, rfl⟩ ?_; simp -implicitDefEqProofs [-List.map_take, -List.map_drop, go_sem, hx, hn, hb1, hb2])
          | (refine mix_ogrd ?_; simp -implicitDefEqProofs [-List.map_take, -List.map_drop, go_sem, hx, hn, hb1, hb2])
          | ((first | refine og_tf ⟨_, rfl⟩ ?_ | refine og_ft ⟨_, rfl⟩ ?_ | refine og_tup ⟨_, rfl⟩ ?_); simp -implicitDefEqProofs [-List.map_take, -List.map_drop, go_sem, hx, hn, hb1, hb2])
          | ((first | refine end_tup _ (by simp) (by simp [go_sem]; rfl) (by simp [go_sem]) ?_); first | (simp [go_sem, *]; done) | grind | (simp [go_sem]; grind) | (simp_all [go_sem]; done) | (simp_all [go_sem]; omega))

open Z in
def mf_spec_typer_typed : MF := ⟨43, [(.t 6)], q (r [k 3 (.box 191 (t 0)), k 4 (.box 48 (t 1)), k 6 (.mov (s []))]) (q (q (r [k 8 (.fadr 0 (t 4)), k 9 (.load false 1 (t 8))]) (.blk 0 (q (r [k 11 (.bin .eql (t 9) (i 0)), m 10 11]) (.cond (t 10) (q (r [k 6 (.mov (s [105, 110, 116]))]) .ret) (q (r [k 13 (.bin .eql (t 9) (i 1)), m 12 13]) (.cond (t 12) (q (r [k 6 (.mov (s [98, 111, 111, 108]))]) .ret) (q (r [k 15 (.bin .eql (t 9) (i 2)), m 14 15]) (.cond (t 14) (q (r [k 6 (.mov (s [116, 101, 120, 116]))]) .ret) (q (r [k 17 (.bin .eql (t 9) (i 3)), m 16 17]) (.cond (t 16) (q (q (r [m 18 2, k 19 (.fadr 2 (t 4)), k 20 (.load false 1 (t 19)), k 21 (c 204 [t 18, t 20]), m 7 21]) (q (r [m 22 7, k 23 (.bin .geq (t 22) (i 0))]) (.cond (t 23) (q (r [m 24 2, m 25 7, k 26 (.iadr 2 (t 24) (t 25)), k 27 (.fadr 1 (t 26)), k 28 (.load false 1 (t 27)), m 6 28]) .ret) .skip))) (q (r [k 6 (.mov (s []))]) .ret)) (q (q (r [k 30 (.bin .eql (t 9) (i 11)), m 29 30]) (.cond (t 29) .skip (r [k 31 (.bin .eql (t 9) (i 12)), m 29 31]))) (.cond (t 29) (q (r [k 32 (.load true 2 (t 3)), k 33 (.load true 4 (t 4)), m 34 2, k 35 (c 209 [t 32, t 33, t 34]), m 6 35]) .ret) .skip)))))))))))) (q (.dreg [(k 36 (.load true 2 (t 3)), []), (k 37 (.load true 4 (t 4)), []), (k 38 (.load true 2 (t 3)), []), (k 39 (.load true 4 (t 4)), []), (m 40 2, []), (k 41 (c 211 [t 38, t 39, t 40]), [2, 3, 4]), (k 42 (c 210 [t 36, t 37, t 41]), [0, 1, 5, 5]), (m 6 42, [6, 6, 0, 1, 2, 3, 4, 5, 6])]) .ret))⟩
theorem fit_spec_typer_typed : Fit Tryz.prog 187 Tryz.f187 mf_spec_typer_typed := ⟨by kernel_rfl, Tryz.func187, by kernel_rfl, by kernel_rfl, by kernel_rfl, by kernel_rfl⟩
theorem typed_ct (p : Sl LModule) (mi : Nat) (hpo : programOk (p.es.map LModule.core) = true) (hmi : mi < p.es.length) (e : LExpr) (tall : Nat) (hv : validShape e.core tall = true) (l : Sl Bind)
    (hl : ∀ b, b ∈ l.es → typeOk b.type = true) (hlen : l.es.length + tall ≤ 1000) :
    Ct Tryz.prog 187 [.agg [p.I LModule.C, .int .i64 mi], .agg e.C, l.I Bind.C] (.str (typedS (p.es.map LModule.core) mi e.core l.es)) := by
  have h0 : (p.es.map LModule.core)[mi]? = some (p.es[mi]).core := by rw [List.getElem?_map, List.getElem?_eq_getElem hmi]; rfl
  have hvk : ∀ x, x ∈ e.kids → validShape x.core (tall - 1) = true := fun x hx => validShapes_mem (shape_facts hv).2.2.2 x.core (by rw [LExpr.core_kids]; exact List.mem_map_of_mem hx)
  have ht1 : 1 ≤ tall := by
    rw [validShape_eq] at hv
    simp only [Bool.and_eq_true, bne_iff_ne] at hv
    omega
  have ihk : ∀ x, x ∈ e.kids → ∀ (l2 : Sl Bind), (∀ b, b ∈ l2.es → typeOk b.type = true) → l2.es.length ≤ l.es.length + 1 → Ct Tryz.prog 187 [.agg [p.I LModule.C, .int .i64 mi], .agg x.C, l2.I Bind.C] (.str (typedS (p.es.map LModule.core) mi x.core l2.es)) := fun x hx l2 h2 h3 =>
    typed_ct p mi hpo hmi x (tall - 1) (hvk x hx) l2 h2 (by omega)
  have hkl : e.kids.length ≤ 4 := by
    have h1 := (shape_facts hv).2.2.1
    rw [LExpr.core_kind, LExpr.core_kids, List.length_map] at h1
    simp only [inR, Bool.and_eq_true, decide_eq_true_eq] at h1
    have h2 : (kidsOf e.kind).2 ≤ 4 := by simp only [kidsOf]; repeat' split <;> try decide
    omega
  have hkb : e.kind = 11 ∨ e.kind = 12 → e.kids.length = 2 := fun hb => by
    have h1 := (shape_facts hv).2.2.1
    rw [LExpr.core_kind, LExpr.core_kids, List.length_map] at h1
    rcases hb with hb | hb <;> (rw [hb] at h1; simp [inR, kidsOf] at h1; omega)
  obtain ⟨Y, hY⟩ : ∃ Y, Y = typedS (p.es.map LModule.core) mi e.core l.es := ⟨_, rfl⟩
  rw [← hY]
  rw [typedS_eq, LExpr.core_kind, LExpr.core_text, LExpr.core_kids] at hY
  refine ct_of_run fit_spec_typer_typed (by simp [mf_spec_typer_typed]) (by simp [go_sem]) fun hd => ?_
  simp -implicitDefEqProofs [-List.map_take, -List.map_drop, go_sem, mf_spec_typer_typed]
  by_cases hb : e.kind = 11 ∨ e.kind = 12
  · obtain ⟨x0, x1, hx⟩ := two_of (hkb hb)
    have hbd := bound_ct p mi e l hb x0 x1 hx (by omega) (ihk x0 (by rw [hx]; simp) l hl (by omega)) (fun t ht => ihk x1 (by rw [hx]; simp) _ (by
      intro b hbm
      rcases List.mem_append.1 hbm with h | h
      · exact hl b h
      · rw [List.mem_singleton.1 h]; exact ht) (by simp)) (typedS_ok hpo h0 (hvk x0 (by rw [hx]; simp)) hl)
    have n0 : (e.kind == 0) = false := by simp; omega
    have n1 : (e.kind == 1) = false := by simp; omega
    have n2 : (e.kind == 2) = false := by simp; omega
    have n3 : (e.kind == 3) = false := by simp; omega
    have nb : (e.kind == 11 || e.kind == 12) = true := by simp; omega
    rw [n0, n1, n2, n3, nb] at hY; simp only [Bool.false_eq_true, if_false, if_true, Bool.or_self] at hY; subst hY
    simp -implicitDefEqProofs [-List.map_take, -List.map_drop, go_sem, n0, n1, n2, n3]
    rcases hb with hb | hb
    · have nb1 : (e.kind == 11) = true := by simpa using hb
      simp -implicitDefEqProofs [-List.map_take, -List.map_drop, go_sem, nb1]
      have c1 := hbd
      have hy := And.intro (n0) (And.intro (n1) (And.intro (n2) (And.intro (n3) (nb1))))
      have hdf := hy0
      exact wk1
    · have nb1 : (e.kind == 11) = false := by simp [hb]
      have nb2 : (e.kind == 12) = true := by simpa using hb
      simp -implicitDefEqProofs [-List.map_take, -List.map_drop, go_sem, nb1, nb2]
      have c1 := hbd
      have hy := And.intro (n0) (And.intro (n1) (And.intro (n2) (And.intro (n3) (And.intro (nb1) (nb2)))))
      have hdf := hy0
      exact wk1
  · have nb1 : (e.kind == 11) = false := by simp; omega
    have nb2 : (e.kind == 12) = false := by simp; omega
    have hkd := kids_ct p mi e l (by omega) (fun x hx => ihk x hx l hl (by omega))
    rw [nb1, nb2] at hY
    have hb4 := bindAt_ct l e.text
    by_cases k3 : e.kind = 3
    · have n0 : (e.kind == 0) = false := by simp; omega
      have n1 : (e.kind == 1) = false := by simp; omega
      have n2 : (e.kind == 2) = false := by simp; omega
      have n3 : (e.kind == 3) = true := by simpa using k3
      rcases bindAt_cases l.es e.text with ⟨h1, h2⟩ | ⟨j, hj, h1, h2⟩
      · rw [h1] at hb4
        rw [h2, n0, n1, n2, n3] at hY; simp only [Bool.false_eq_true, if_false, if_true, Bool.or_self] at hY; subst hY
        simp -implicitDefEqProofs [-List.map_take, -List.map_drop, go_sem, n0, n1, n2, n3]
        have c1 := hb4
        have hy := And.intro (n0) (And.intro (n1) (And.intro (n2) (n3)))
        have hdf := hy0
        exact wk1
      · rw [h1] at hb4
        rw [h2, n0, n1, n2, n3] at hY; simp only [Bool.false_eq_true, if_false, if_true, Bool.or_self] at hY; subst hY
        simp -implicitDefEqProofs [-List.map_take, -List.map_drop, go_sem, n0, n1, n2, n3]
        have c1 := hb4
        have hy := And.intro (n0) (And.intro (n1) (And.intro (n2) (And.intro (n3) (hj))))
        have hdf := hy0
        exact wk1
    · have n3 : (e.kind == 3) = false := by simpa using k3
      rw [n3] at hY
      by_cases k012 : e.kind = 0 ∨ e.kind = 1 ∨ e.kind = 2
      · rcases k012 with hk | hk | hk
        · rw [hk] at hY
          simp at hY
          subst hY
          have n0 : (e.kind == 0) = true := by simp [hk]
          simp -implicitDefEqProofs [-List.map_take, -List.map_drop, go_sem, n0]
          have hy := n0
          have hdf := hy0
          exact wk0
        · rw [hk] at hY
          simp at hY
          subst hY
          have n0 : (e.kind == 0) = false := by simp [hk]
          have n1 : (e.kind == 1) = true := by simp [hk]
          simp -implicitDefEqProofs [-List.map_take, -List.map_drop, go_sem, n0, n1]
          have hy := And.intro (n0) (n1)
          have hdf := hy0
          exact wk0
        · rw [hk] at hY
          simp at hY
          subst hY
          have n0 : (e.kind == 0) = false := by simp [hk]
          have n1 : (e.kind == 1) = false := by simp [hk]
          have n2 : (e.kind == 2) = true := by simp [hk]
          simp -implicitDefEqProofs [-List.map_take, -List.map_drop, go_sem, n0, n1, n2]
          have hy := And.intro (n0) (And.intro (n1) (n2))
          have hdf := hy0
          exact wk0
      · have n0 : (e.kind == 0) = false := by simp; omega
        have n1 : (e.kind == 1) = false := by simp; omega
        have n2 : (e.kind == 2) = false := by simp; omega
        have hpl := plain_ct p mi e (typedSs (p.es.map LModule.core) mi (e.kids.map LExpr.core) l.es) [] false hpo hmi tall hv (by rw [typedSs_map]; simp) (by
          intro t ht hne
          rw [typedSs_map] at ht
          obtain ⟨c, hc, rfl⟩ := List.mem_map.1 ht
          obtain ⟨x, hx, rfl⟩ := List.mem_map.1 hc
          exact typedS_ok hpo h0 (hvk x hx) hl hne) (by omega)
        rw [n0, n1, n2] at hY; simp only [Bool.false_eq_true, if_false, if_true, Bool.or_self] at hY; subst hY
        simp -implicitDefEqProofs [-List.map_take, -List.map_drop, go_sem, n0, n1, n2, n3, nb1, nb2]
        have c1 := hkd
        have c2 := hpl
        have hy := And.intro (n0) (And.intro (n1) (And.intro (n2) (And.intro (n3) (And.intro (nb1) (nb2)))))
        have hdf := hy0
        exact wk1
termination_by SizeOf.sizeOf e
decreasing_by exact LExpr.kid_lt hx
def bindsSeen_L (p : Sl LModule) (mi : Nat) (l : Sl Bind) (i : Nat) (_ : Unit) : St := ⟨lk [(0, p.I LModule.C), (1, .int .i64 mi), (2, l.I Bind.C), (7, .int .i64 i)], [], []⟩
open Z in
def mf_spec_bindsSeen : MF := ⟨23, [(.t 6)], q (r [k 6 (.mov (b false))]) (q (q (r [k 7 (.mov (i 0))]) (.blk 0 (.loop (q (q (r [m 8 7, m 9 2, k 10 (.lenl (t 9)), k 11 (.bin .lss (t 8) (t 10))]) (.cond (t 11) .skip (.exit 0))) (q (.blk 1 (q (r [m 14 0, m 15 1, m 16 2, m 17 7, k 18 (.iadr 2 (t 16) (t 17)), k 19 (.fadr 1 (t 18)), k 20 (.load false 1 (t 19)), k 21 (c 186 [t 14, t 15, t 20]), k 22 (.not (t 21))]) (.cond (t 22) (q (r [k 6 (.mov (b false))]) .ret) .skip))) (r [m 12 7, k 13 (.bin .add (t 12) (i 1)), m 7 13])))))) (q (r [k 6 (.mov (b true))]) .ret))⟩
theorem fit_spec_bindsSeen : Fit Tryz.prog 185 Tryz.f185 mf_spec_bindsSeen := ⟨by kernel_rfl, Tryz.func185, by kernel_rfl, by kernel_rfl, by kernel_rfl, by kernel_rfl⟩
theorem bindsSeen_ct (p : Sl LModule) (mi : Nat) (hpo : programOk (p.es.map LModule.core) = true) (hmi : mi < p.es.length) (l : Sl Bind) :
    Ct Tryz.prog 185 [p.I LModule.C, .int .i64 mi, l.I Bind.C] (.bool (l.es.all fun b => seenP (p.es.map LModule.core) mi b.type)) := by
  refine ct_of_run fit_spec_bindsSeen (by simp [mf_spec_bindsSeen]) (by simp [go_sem]) fun hd => ?_
  simp -implicitDefEqProofs [-List.map_take, -List.map_drop, go_sem, mf_spec_bindsSeen]
  have hm : l.es.length ≤ maxLen := sl_deep hd.2.2.1
  refine run_iter (l.es.length) (bindsSeen_L p mi l) (fun i a => ((l.es.drop i).all fun b => seenP (p.es.map LModule.core) mi b.type) = l.es.all fun b => seenP (p.es.map LModule.core) mi b.type) () (gh_auto (by simp [go_sem, bindsSeen_L])) (by first | (simp; done) | (simp []; done) | (simp []; omega) | grind) ?_
  intro i a hi hj
  simp -implicitDefEqProofs [-List.map_take, -List.map_drop, go_sem, bindsSeen_L]
  refine cnd_split (fun hc => ?_) (fun hc => ?_)
  · have hlt : i < l.es.length := by first | (simpa using hc) | (simp at hc; omega)
    rw [List.drop_eq_getElem_cons (l := l.es) (by omega)] at hj
    simp only [List.map_cons, List.all_cons, List.all_nil] at hj
    simp -implicitDefEqProofs [-List.map_take, -List.map_drop, go_sem, hlt]
    have d1 := fun a1 => seen_ct p mi a1 hpo hmi
    have hy := hlt
    have hdf := hy0
    have eL := @bindsSeen_L.eq_1
    have hm0 := hm
    have hlt0 := hlt
    exact wk1n
  · have hge : l.es.length ≤ i := by first | (simpa using hc) | (simp at hc; omega)
    rw [List.drop_of_length_le (l := l.es) (by omega)] at hj
    simp only [List.map_nil, List.all_cons, List.all_nil] at hj
    try simp -implicitDefEqProofs [-List.map_take, -List.map_drop, go_sem]
    have d1 := fun a1 => seen_ct p mi a1 hpo hmi
    have hy := hy0
    have hdf := hy0
    exact wk1
open Z in
def mf_spec_declTyped : MF := ⟨35, [(.t 6)], q (r [k 5 (.box 72 (t 2)), k 6 (.mov (b false))]) (q (q (r [k 7 (.fadr 0 (t 5)), k 8 (.load false 1 (t 7)), k 9 (.bin .eql (t 8) (i 1))]) (.cond (t 9) (q (r [k 6 (.mov (b true))]) .ret) .skip)) (q (.dreg [(m 10 0, []), (m 11 1, []), (k 12 (.fadr 2 (t 5)), []), (k 13 (.load false 1 (t 12)), [2]), (k 14 (c 185 [t 10, t 11, t 13]), [0, 1, 3]), (m 15 14, [4, 4]), (g 16 (.mov (t 0)) 15 true, [5]), (g 17 (.mov (t 1)) 15 true, [5]), (g 18 (.fadr 3 (t 5)) 15 true, [5]), (g 19 (.load false 1 (t 18)) 15 true, [8, 5]), (g 20 (c 186 [t 16, t 17, t 19]) 15 true, [6, 7, 9, 5, 5]), (k 21 (.pick (t 15) (t 20) (b false)), [5, 10]), (m 22 21, [11, 10]), (g 23 (.mov (t 0)) 22 true, [12]), (g 24 (.mov (t 1)) 22 true, [12]), (g 25 (.build [.imm [] [] true, .int .i64 0] [(0, (1, t 23)), (1, (1, t 24))]) 22 true, [13, 14, 12]), (g 26 (.fadr 4 (t 5)) 22 true, [12]), (g 27 (.load true 4 (t 26)) 22 true, [16, 12]), (g 28 (.fadr 2 (t 5)) 22 true, [12]), (g 29 (.load false 1 (t 28)) 22 true, [18, 12]), (g 30 (c 187 [t 25, t 27, t 29]) 22 true, [15, 17, 19, 12, 12]), (g 31 (.fadr 3 (t 5)) 22 true, [12]), (g 32 (.load false 1 (t 31)) 22 true, [21, 12]), (g 33 (.seq false (t 30) (t 32)) 22 true, [20, 22, 12]), (k 34 (.pick (t 22) (t 33) (b false)), [12, 23]), (m 6 34, [24, 20, 0, 1, 2, 3, 4, 5, 6, 7, 8, 9, 10, 11, 12, 13, 14, 15, 16, 17, 18, 19, 20, 21, 22, 23, 24])]) .ret))⟩
theorem fit_spec_declTyped : Fit Tryz.prog 152 Tryz.f152 mf_spec_declTyped := ⟨by kernel_rfl, Tryz.func152, by kernel_rfl, by kernel_rfl, by kernel_rfl, by kernel_rfl⟩
theorem declTyped_ct (p : Sl LModule) (mi : Nat) (hpo : programOk (p.es.map LModule.core) = true) (hmi : mi < p.es.length) (d : LDecl) (hd0 : validDecl d.core = true) :
    Ct Tryz.prog 152 [p.I LModule.C, .int .i64 mi, .agg d.C] (.bool (declTypedS (p.es.map LModule.core) mi d.core)) := by
  obtain ⟨_, hb, _, hk, h0⟩ := decl_facts hd0
  rw [LDecl.core_kind] at hk h0
  have hc : declTypedS (p.es.map LModule.core) mi d.core = (d.kind == 1 || ((d.binds.es.all fun b => seenP (p.es.map LModule.core) mi b.type) && (seenP (p.es.map LModule.core) mi d.type && typedS (p.es.map LModule.core) mi d.body.core d.binds.es == d.type))) := rfl
  rw [hc]
  refine ct_of_run fit_spec_declTyped (by simp [mf_spec_declTyped]) (by simp [go_sem]) fun hd => ?_
  simp -implicitDefEqProofs [-List.map_take, -List.map_drop, go_sem, mf_spec_declTyped]
  rcases hk with hk | hk
  · have hbl : d.binds.es.length ≤ 4 := by
      simp only [validDecl, validBinds, Bool.and_eq_true, decide_eq_true_eq] at hd0
      have := hd0.2.1.2
      have h2 : d.core.binds = d.binds.es := rfl
      rw [h2] at this
      omega
    have he : validShape d.body.core 9 = true := by
      have := (h0 hk).2
      simp only [exprOk, Bool.and_eq_true] at this
      exact this.1
    have ht := typed_ct p mi hpo hmi d.body 9 he d.binds hb (by omega)
    have hk' : (d.kind == 1) = false := by simp [hk]
    simp -implicitDefEqProofs [-List.map_take, -List.map_drop, go_sem, hk']
    have c1 := bindsSeen_ct p mi hpo hmi d.binds
    have c2 := seen_ct p mi d.type hpo hmi
    have c3 := ht
    have hy := hk'
    have hdf := hy0
    exact wk1
  · have hk' : (d.kind == 1) = true := by simpa using hk
    simp -implicitDefEqProofs [-List.map_take, -List.map_drop, go_sem, hk']
    have hy := hk'
    have hdf := hy0
    exact wk0
theorem modsTyped_cons (f : Nat → Decl → Bool) (m : Module) (r : List Module) (i : Nat) : modsTyped f (m :: r) i = (m.decls.all (f i) && modsTyped f r (i + 1)) := rfl
theorem modsTyped_nil (f : Nat → Decl → Bool) (i : Nat) : modsTyped f [] i = true := rfl
def wellTyped_L (p : Sl LModule) (i : Nat) (_ : Unit) : St := ⟨lk [(0, p.I LModule.C), (3, .int .i64 i)], [], []⟩
def wellTyped_L2 (p : Sl LModule) (i : Nat) (k : Nat) (_ : Unit) : St := ⟨lk [(0, p.I LModule.C), (3, .int .i64 i), (4, .int .i64 k)], [], []⟩
open Z in
def mf_spec_wellTyped : MF := ⟨33, [(.t 2)], q (r [k 2 (.mov (b false))]) (q (q (r [k 3 (.mov (i 0))]) (.blk 0 (.loop (q (q (r [m 5 3, m 6 0, k 7 (.lenl (t 6)), k 8 (.bin .lss (t 5) (t 7))]) (.cond (t 8) .skip (.exit 0))) (q (.blk 1 (q (r [k 4 (.mov (i 0))]) (.blk 2 (.loop (q (q (r [m 11 4, m 12 0, m 13 3, k 14 (.iadr 3 (t 12) (t 13)), k 15 (.fadr 2 (t 14)), k 16 (.load false 1 (t 15)), k 17 (.lenl (t 16)), k 18 (.bin .lss (t 11) (t 17))]) (.cond (t 18) .skip (.exit 2))) (q (.blk 3 (q (r [m 21 0, m 22 3, m 23 0, m 24 3, k 25 (.iadr 3 (t 23) (t 24)), k 26 (.fadr 2 (t 25)), k 27 (.load false 1 (t 26)), m 28 4, k 29 (.iadr 8 (t 27) (t 28)), k 30 (.load true 8 (t 29)), k 31 (c 152 [t 21, t 22, t 30]), k 32 (.not (t 31))]) (.cond (t 32) (q (r [k 2 (.mov (b false))]) .ret) .skip))) (r [m 19 4, k 20 (.bin .add (t 19) (i 1)), m 4 20]))))))) (r [m 9 3, k 10 (.bin .add (t 9) (i 1)), m 3 10])))))) (q (r [k 2 (.mov (b true))]) .ret))⟩
theorem fit_spec_wellTyped : Fit Tryz.prog 96 Tryz.f96 mf_spec_wellTyped := ⟨by kernel_rfl, Tryz.func96, by kernel_rfl, by kernel_rfl, by kernel_rfl, by kernel_rfl⟩
theorem wellTyped_ct (p : Sl LModule) (hpo : programOk (p.es.map LModule.core) = true) :
    Ct Tryz.prog 96 [p.I LModule.C] (.bool (modsTyped (declTypedS (p.es.map LModule.core)) (p.es.map LModule.core) 0)) := by
  have hvd : ∀ {i k : Nat} (hi : i < p.es.length) (hk : k < (p.es[i]).decls.es.length), validDecl ((p.es[i]).decls.es[k]).core = true := fun hi hk =>
    decl_valid hpo (List.mem_map_of_mem (List.getElem_mem hi)) (by rw [LModule.core_decls]; exact List.mem_map_of_mem (List.getElem_mem hk))
  refine ct_of_run fit_spec_wellTyped (by simp [mf_spec_wellTyped]) (by simp [go_sem]) fun hd => ?_
  simp -implicitDefEqProofs [-List.map_take, -List.map_drop, go_sem, mf_spec_wellTyped]
  have hm : p.es.length ≤ maxLen := sl_deep hd.1
  refine run_iter (p.es.length) (wellTyped_L p) (fun i a => modsTyped (declTypedS (p.es.map LModule.core)) ((p.es.drop i).map LModule.core) i = modsTyped (declTypedS (p.es.map LModule.core)) (p.es.map LModule.core) 0) () (gh_auto (by simp [go_sem, wellTyped_L])) (by first | (simp; done) | (simp []; done) | (simp []; omega) | grind) ?_
  intro i a hi hj
  simp -implicitDefEqProofs [-List.map_take, -List.map_drop, go_sem, wellTyped_L]
  refine cnd_split (fun hc => ?_) (fun hc => ?_)
  · have hlt : i < p.es.length := by first | (simpa using hc) | (simp at hc; omega)
    rw [List.drop_eq_getElem_cons (l := p.es) (by omega)] at hj
    simp only [List.map_cons, List.map_cons, List.map_nil, modsTyped_cons, modsTyped_nil, LModule.core_decls] at hj
    simp -implicitDefEqProofs [-List.map_take, -List.map_drop, go_sem, hlt]
    have hm2 : p.es[i].decls.es.length ≤ maxLen := by
      have h1 := (programOk_iff _).1 hpo
      have h2 := (h1.2.1 (p.es[i]).core (List.mem_map_of_mem (List.getElem_mem hlt))).2.1
      rw [LModule.core_decls, List.length_map] at h2
      exact Nat.le_trans h2 (by decide)
    refine run_iter (p.es[i].decls.es.length) (wellTyped_L2 p i) (fun i2 a2 => ((p.es[i].decls.es.drop i2).map LDecl.core).all (declTypedS (p.es.map LModule.core) i) = (p.es[i].decls.es.map LDecl.core).all (declTypedS (p.es.map LModule.core) i)) () (gh_auto (by simp [go_sem, wellTyped_L2, hlt])) (by first | (simp; done) | (simp []; done) | (simp []; omega) | grind) ?_
    intro i2 a2 hi2 hj2
    simp -implicitDefEqProofs [-List.map_take, -List.map_drop, go_sem, wellTyped_L2, hlt]
    refine cnd_split (fun hc2 => ?_) (fun hc2 => ?_)
    · have hlt2 : i2 < p.es[i].decls.es.length := by first | (simpa using hc2) | (simp at hc2; omega)
      rw [List.drop_eq_getElem_cons (l := p.es[i].decls.es) (by omega)] at hj2
      simp only [List.map_cons, List.map_cons, List.all_cons, List.map_nil, List.all_nil] at hj2
      simp -implicitDefEqProofs [-List.map_take, -List.map_drop, go_sem, hlt2, hlt]
      have c1 := declTyped_ct p i hpo hlt p.es[i].decls.es[i2] (hvd hlt hlt2)
      have hy := And.intro (hlt) (hlt2)
      have hdf := hy0
      have eL := @wellTyped_L2.eq_1
      have hm0 := hm2
      have hlt0 := hlt2
      exact wk1n
    · have hge2 : p.es[i].decls.es.length ≤ i2 := by first | (simpa using hc2) | (simp at hc2; omega)
      rw [List.drop_of_length_le (l := p.es[i].decls.es) (by omega)] at hj2
      simp only [List.map_nil, List.map_cons, List.all_cons, List.map_nil, List.all_nil] at hj2
      try simp -implicitDefEqProofs [-List.map_take, -List.map_drop, go_sem, hlt]
      have hy := hlt
      have hdf := hy0
      have eL := @wellTyped_L.eq_1
      have hm0 := hm
      have hlt0 := hlt
      exact wk0n
  · have hge : p.es.length ≤ i := by first | (simpa using hc) | (simp at hc; omega)
    rw [List.drop_of_length_le (l := p.es) (by omega)] at hj
    simp only [List.map_nil, List.map_cons, List.map_nil, modsTyped_cons, modsTyped_nil, LModule.core_decls] at hj
    try simp -implicitDefEqProofs [-List.map_take, -List.map_drop, go_sem]
    have hy := hy0
    have hdf := hy0
    exact wk0
open Z in
def mf_spec_right : MF := ⟨9, [(.t 2)], q (r [k 2 (.mov (b false))]) (q (r [m 3 0, k 4 (c 28 [t 3]), m 5 4, g 6 (.mov (t 0)) 5 true, g 7 (c 96 [t 6]) 5 true, k 8 (.pick (t 5) (t 7) (b false)), m 2 8]) .ret)⟩
theorem fit_spec_right : Fit Tryz.prog 46 Tryz.f46 mf_spec_right := ⟨by kernel_rfl, Tryz.func46, by kernel_rfl, by kernel_rfl, by kernel_rfl, by kernel_rfl⟩
theorem right_ct (p : Sl LModule) (hs : SmP (p.es.map LModule.core)) : Ct Tryz.prog 46 [p.I LModule.C] (.bool (progTyped (p.es.map LModule.core))) := by
  refine ct_of_run fit_spec_right (by simp [mf_spec_right]) (by simp [go_sem]) fun hd => ?_
  simp -implicitDefEqProofs [-List.map_take, -List.map_drop, go_sem, mf_spec_right]
  have h1 := programOk_ct p hs
  cases hpo : programOk (p.es.map LModule.core) with
  | false =>
    rw [hpo] at h1
    have c1 := h1
    have hy := hpo
    have e1 := @progTyped.eq_1
    have hdf := @e1
    exact wk1
  | true =>
    rw [hpo] at h1
    have c1 := h1
    have c2 := wellTyped_ct p hpo
    have hy := hpo
    have e1 := @progTyped.eq_1
    have hdf := @e1
    exact wk1
open Z in
def mf_spec_ProgramTyped : MF := ⟨5, [(.t 2)], q (r [k 2 (.mov (b false))]) (q (r [m 3 0, k 4 (c 46 [t 3]), m 2 4]) .ret)⟩
theorem fit_spec_ProgramTyped : Fit Tryz.prog 18 Tryz.f18 mf_spec_ProgramTyped := ⟨by kernel_rfl, Tryz.func18, by kernel_rfl, by kernel_rfl, by kernel_rfl, by kernel_rfl⟩
theorem programTyped_ct (p : Sl LModule) (hs : SmP (p.es.map LModule.core)) : Ct Tryz.prog 18 [p.I LModule.C] (.bool (progTyped (p.es.map LModule.core))) := by
  refine ct_of_run fit_spec_ProgramTyped (by simp [mf_spec_ProgramTyped]) (by simp [go_sem]) fun hd => ?_
  simp -implicitDefEqProofs [-List.map_take, -List.map_drop, go_sem, mf_spec_ProgramTyped]
  have c1 := right_ct p hs
  have hy := hy0
  have hdf := hy0
  exact wk1
end Go.Mach
