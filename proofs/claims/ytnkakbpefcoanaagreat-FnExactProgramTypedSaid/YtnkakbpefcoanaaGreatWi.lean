import Derived.Test.YtnkakbpefcoanaaGreatMh
import Derived.Test.YtnkakbpefcoanaaGreatWh
import Derived.Test.YtnkakbpefcoanaaGreatWg
import Derived.Test.YtnkakbpefcoanaaGreatWe
import Derived.Test.YtnkakbpefcoanaaGreatWd
/- Types of expressions, of the program, walked: the whole. -/
set_option maxHeartbeats 4000000
namespace Go.Mach
open Go Go.Proofs
set_option linter.unusedVariables false
set_option linter.unusedSimpArgs false
attribute [local go_sem] Z.k Z.g Z.n Z.m Z.t Z.i Z.b Z.s Z.c Z.r Z.q run_seq run_skip run_reg run_blk run_exit run_ret run_cond cnd_true cnd_false kx_seq_normal kx_seq_exit kx_seq_ret kx_blk_normal kx_blk_same kx_blk_other kx_blk_ret kx_loop_exit kx_loop_ret kx_done ops_nil ops_plain ops_grd gv_tt gv_ff gv_tf gv_ft gv_tup stp_ok stp_ob stp_hp stp_bad stp_if get_t get_c putO_some putO_none put_same put_ne put_σ put_base withσ_τ withσ_σ withσ_base withσ_put withσ_withσ mk_τ mk_σ mk_base mk_withσ entry_τ entry_σ entry_base calm_nil calm_plain calm_grd cgv_tt cgv_ff cgv_tf cgv_ft cgv_tup cstp_ok cstp_ob cstp_if
attribute [local irreducible] Ct Co Cs
attribute [local go_sem] evalOp notV negV pickV binV intB seqV beqV catV lensV lenlV boxV_eq newV cellsOf cellV fadrV fldV fldC loadV loadC_ag loadC_one plainV isOwn iadrV storeV lk bdV bdL renO renL renV pureV pureL noOwnV noOwnL idxV slsV optI extV resL resV ret1 mmV cnviV cnvsV nilcV eqnV bslV bslGo appV elems okE appE getD_map okO_none okO_some strC intC Sl.I
attribute [local simp] Bind.eqa Use.eqa loadC_str loadC_int Bind.C_len Bind.C_pure Bind.C_noOwn Bind.C_cell Bind.C_bd Bind.C_bdL Bind.C_ren Bind.C_any Bind.C_any0 Bind.C_any1 Bind.C_anyt Bind.C_take Bind.C_load Bind.C_load0 Bind.C_load1 Bind.C_fld Bind.C_box Bind.C_fold Use.C_len Use.C_pure Use.C_noOwn Use.C_cell Use.C_bd Use.C_bdL Use.C_ren Use.C_any Use.C_any0 Use.C_any1 Use.C_anyt Use.C_take Use.C_load Use.C_load0 Use.C_load1 Use.C_fld Use.C_box Use.C_fold LExpr.C_len LExpr.C_pure LExpr.C_noOwn LExpr.C_cell LExpr.C_bd LExpr.C_bdL LExpr.C_ren LExpr.C_any LExpr.C_any0 LExpr.C_any1 LExpr.C_anyt LExpr.C_take LExpr.C_load LExpr.C_load0 LExpr.C_load1 LExpr.C_fld LExpr.C_box LExpr.C_fold LDecl.C_len LDecl.C_pure LDecl.C_noOwn LDecl.C_cell LDecl.C_bd LDecl.C_bdL LDecl.C_ren LDecl.C_any LDecl.C_any0 LDecl.C_any1 LDecl.C_anyt LDecl.C_take LDecl.C_load LDecl.C_load0 LDecl.C_load1 LDecl.C_fld LDecl.C_box LDecl.C_fold LModule.C_len LModule.C_pure LModule.C_noOwn LModule.C_cell LModule.C_bd LModule.C_bdL LModule.C_ren LModule.C_any LModule.C_any0 LModule.C_any1 LModule.C_anyt LModule.C_take LModule.C_load LModule.C_load0 LModule.C_load1 LModule.C_fld LModule.C_box LModule.C_fold
attribute [local go_sem] mix_nil mix_fplain mix_fgrd mix_oplain fg_tt fg_ff fg_tf fg_ft fg_tup fstp_ok fstp_ob fstp_if og_tt og_ff dstIn
attribute [local go_sem] mix_nilH mix_fplainH mix_fgrdH mix_oplainH fg_ttH fg_ffH fg_tfH fg_ftH fg_tupH fstp_okH fstp_obH fstp_ifH og_ttH og_ffH dstInS buildV fillC

theorem slV_clipB {l : List Bind} {sp : List (List PV)} {lim : Bool} {σ : Heap} {k : IntKind} (hw : ∀ e, e ∈ sp → e.length = 2) : slV σ 2 (.imm (l.map Bind.C) sp lim) none (some (.int k l.length)) (some (.int k l.length)) = .ob True (.imm (l.map Bind.C) [] true) := by
  simp only [slV, optI, Int.toNat_zero, List.drop_zero, Int.toNat_natCast, List.length_map]
  have h4 : (0 ≤ (0 : Int) ∧ (0 : Int) ≤ (l.length : Int) ∧ (l.length : Int) ≤ (l.length : Int) ∧ (l.length : Int) ≤ (l.length : Int) + (sp.length : Int) ∧ ∀ e, e ∈ l.map Bind.C ++ sp → e.length = 2) = True := by
    refine eq_true ⟨by omega, by omega, by omega, by omega, fun e he => ?_⟩
    rcases List.mem_append.1 he with he | he
    · obtain ⟨x, _, rfl⟩ := List.mem_map.1 he
      exact Bind.C_len x
    · exact hw e he
  simp only [h4]
  have h5 : (l.map Bind.C ++ sp).take l.length = l.map Bind.C := by rw [List.take_append_of_le_length (by simp), List.take_of_length_le (by simp)]
  rw [h5]
  have h6 : (l.map Bind.C).drop l.length = [] := List.drop_of_length_le (by simp)
  rw [h6]
  simp
open Z in
def mf_slices_Clip_impl_Bind_impl_Bind : MF := ⟨9, [(.t 2)], q (r [k 2 (.mov (.c (.imm [] [] true)))]) (q (r [m 3 0, m 4 0, k 5 (.lenl (t 4)), m 6 0, k 7 (.lenl (t 6)), k 8 (.sl 2 (t 3) none (some (t 5)) (some (t 7))), m 2 8]) .ret)⟩
theorem fit_slices_Clip_impl_Bind_impl_Bind : Fit Tryz.prog 188 Tryz.f188 mf_slices_Clip_impl_Bind_impl_Bind := ⟨by kernel_rfl, Tryz.func188, by kernel_rfl, by kernel_rfl, by kernel_rfl, by kernel_rfl⟩
theorem clipB_ct (l : Sl Bind) (hw : ∀ e, e ∈ l.sp → e.length = 2) : Ct Tryz.prog 188 [l.I Bind.C] ((⟨l.es, [], true⟩ : Sl Bind).I Bind.C) := by
  have hsl := fun (σ : Heap) => slV_clipB (l := l.es) (sp := l.sp) (lim := l.lim) (σ := σ) (k := .i64) hw
  refine ct_of_run fit_slices_Clip_impl_Bind_impl_Bind (by simp [mf_slices_Clip_impl_Bind_impl_Bind]) (by simp [go_sem]) fun hd => ?_
  simp -implicitDefEqProofs [-List.map_take, -List.map_drop, go_sem, mf_slices_Clip_impl_Bind_impl_Bind]
  simp -implicitDefEqProofs [-List.map_take, -List.map_drop, go_sem, hsl]
  have hy := hy0
  have hdf := hy0
  exact wk0
open Z in
def mf_impl_with : MF := ⟨14, [(.t 6)], q (r [k 6 (.mov (.c (.imm [] [] true)))]) (q (r [m 7 0, k 8 (c 188 [t 7]), m 9 1, m 10 2, k 11 (.build [.str [], .str []] [(0, (1, t 9)), (1, (1, t 10))]), k 12 (.bsl 118 2 1 [.str [], .str []] [(0, t 11)]), k 13 (.app 118 2 32 (t 8) (t 12)), m 6 13]) .ret)⟩
theorem fit_impl_with : Fit Tryz.prog 154 Tryz.f154 mf_impl_with := ⟨by kernel_rfl, Tryz.func154, by kernel_rfl, by kernel_rfl, by kernel_rfl, by kernel_rfl⟩
theorem with_ct (l : Sl Bind) (n t : Str) (hw : ∀ e, e ∈ l.sp → e.length = 2) (hl : l.es.length ≤ 1000) : Ct Tryz.prog 154 [l.I Bind.C, .str n, .str t] ((⟨l.es ++ [⟨n, t⟩], [], false⟩ : Sl Bind).I Bind.C) := by
  have hcl := clipB_ct l hw
  refine ct_of_run fit_impl_with (by simp [mf_impl_with]) (by simp [go_sem]) fun hd => ?_
  simp -implicitDefEqProofs [-List.map_take, -List.map_drop, go_sem, mf_impl_with]
  repeat' first
    | ((first | refine gv_split (fun h => ?_) (fun h => ?_) | refine cnd_split (fun h => ?_) (fun h => ?_) | refine cgv_split (fun h => ?_) (fun h => ?_)) <;> (try (have hp := h; simp at hp)) <;> simp -implicitDefEqProofs [-List.map_take, -List.map_drop, go_sem, h])
    | (refine And.intro (by first | omega | (simp only [maxLen]; omega) | (simp_all; done) | (simp_all; omega)) ?_; try simp -implicitDefEqProofs [-List.map_take, -List.map_drop, go_sem])
    | ((first | refine stp_ct (hcl) (by simp [go_sem]) ?_ ?_ | refine cstp_ct (hcl) (by simp [go_sem]) ?_ ?_); (simp [go_sem]); simp -implicitDefEqProofs [-List.map_take, -List.map_drop, go_sem])
    | (refine run_dreg' (by decide) ?_; simp -implicitDefEqProofs [-List.map_take, -List.map_drop, go_sem])
    | ((first | refine end_tup _ (by simp) (by simp [go_sem]; rfl) (by simp [go_sem]) ?_); first | (simp [go_sem, *]; done) | grind | (simp [go_sem]; grind) | (simp_all [go_sem]; done) | (simp_all [go_sem]; omega))
  have hb : ∀ (a : Bind), a ∈ l.es → ∀ x, x ∈ a.C → cellV x = true := fun a _ x hx => by
    simp [Bind.C] at hx
    rcases hx with rfl | rfl <;> rfl
  simp -implicitDefEqProofs [-List.map_take, -List.map_drop, go_sem, appNew]
  refine ⟨by first | trivial | omega | (simp [Bind.C]; omega), ?_⟩
  refine end_whole (o := 1) (n := l.es.length + 1) (es := l.es.map Bind.C ++ [[.str n, .str t]]) (sz := 2) (ty := 118) (arr := true) (frz := false) (by simp) (by simp [go_sem]) (by simp [go_sem]) (by simp) ?_ ?_
  · intro e he
    rcases List.mem_append.1 he with he | he
    · obtain ⟨x, _, rfl⟩ := List.mem_map.1 he
      exact Bind.C_pure x
    · rw [List.mem_singleton.1 he]; rfl
  · rfl
theorem typesI_none {p : List Module} {mi : Nat} {kind : Int} {text : Str} {x : Expr} {xs : List Expr} {i : Nat} {list : List Bind} {acc : List Str} (h : innerB kind text i list acc = none) :
    typesI p mi kind text (x :: xs) i list acc = none := by rw [typesI, h]
theorem typesI_some {p : List Module} {mi : Nat} {kind : Int} {text : Str} {x : Expr} {xs : List Expr} {i : Nat} {list l2 : List Bind} {acc : List Str} (h : innerB kind text i list acc = some l2) :
    typesI p mi kind text (x :: xs) i list acc = if (typeI p mi x l2).2 then typesI p mi kind text xs (i + 1) list (acc ++ [(typeI p mi x l2).1]) else none := by rw [typesI, h]
theorem typesI_nil {p : List Module} {mi : Nat} {kind : Int} {text : Str} {i : Nat} {list : List Bind} {acc : List Str} : typesI p mi kind text [] i list acc = some acc := by rw [typesI]
theorem typeI_none {p : List Module} {mi : Nat} {e : Expr} {list : List Bind} (hk : (e.kind == 3) = false) (h : typesI p mi e.kind e.text e.kids 0 list [] = none) : typeI p mi e list = ([], false) := by
  rw [typeI_eq, hk, h]; rfl
theorem typeI_some {p : List Module} {mi : Nat} {e : Expr} {list : List Bind} {ts : List Str} (hk : (e.kind == 3) = false) (h : typesI p mi e.kind e.text e.kids 0 list [] = some ts) : typeI p mi e list = fitI p mi e.kind e.text ts := by
  rw [typeI_eq, hk, h]; rfl
def tyl_L (e : LExpr) (l : Sl Bind) (a : Nat) : St := ⟨lk [(2, l.I Bind.C), (7, .ptr 0 1 0 0), (10, .int .i64 ((a : Int) - 1))], [some ⟨[[.int .i64 e.kind, .int .i64 e.num, .str e.text, .imm (e.kids.map LExpr.C) e.sp e.lim]], 4, 48, false, false⟩], []⟩
def ty_L (p : Sl LModule) (nm : Str) (e : LExpr) (l : Sl Bind) (i : Nat) (a : List Str) : St := ⟨lk [(0, p.I LModule.C), (1, .str nm), (2, l.I Bind.C), (7, .ptr 0 1 0 0), (11, .ref 1 a.length 0 a.length none), (51, .imm (e.kids.map LExpr.C) e.sp e.lim), (52, .int .i64 e.kids.length), (53, .int .i64 i)],
  [some ⟨[[.int .i64 e.kind, .int .i64 e.num, .str e.text, .imm (e.kids.map LExpr.C) e.sp e.lim]], 4, 48, false, false⟩, some ⟨a.map strC, 1, 9, true, false⟩], []⟩
open Z in
def mf_impl_typeOf : MF := ⟨106, [(.t 8), (.t 9)], q (r [k 7 (.box 48 (t 3)), k 8 (.mov (s [])), k 9 (.mov (b false))]) (q (q (r [k 20 (.fadr 0 (t 7)), k 21 (.load false 1 (t 20)), k 22 (.bin .eql (t 21) (i 3))]) (.cond (t 22) (q (q (r [m 23 2, k 24 (.lenl (t 23)), k 25 (.bin .sub (t 24) (i 1)), m 10 25]) (.blk 0 (.loop (q (q (r [m 26 10, k 27 (.bin .geq (t 26) (i 0))]) (.cond (t 27) .skip (.exit 0))) (q (.blk 1 (q (.dreg [(m 30 2, []), (m 31 10, []), (k 32 (.iadr 2 (t 30) (t 31)), [0, 1]), (k 33 (.fadr 0 (t 32)), [2]), (k 34 (.load false 1 (t 33)), [3]), (k 35 (.fadr 2 (t 7)), []), (k 36 (.load false 1 (t 35)), [5]), (k 37 (.seq false (t 34) (t 36)), [4, 6])]) (.cond (t 37) (q (.dreg [(m 38 2, []), (m 39 10, []), (k 40 (.iadr 2 (t 38) (t 39)), [0, 1]), (k 41 (.fadr 1 (t 40)), [2]), (k 42 (.load false 1 (t 41)), [3]), (m 43 2, []), (m 44 10, []), (k 45 (.iadr 2 (t 43) (t 44)), [5, 6]), (k 46 (.fadr 1 (t 45)), [7]), (k 47 (.load false 1 (t 46)), [8]), (k 48 (.seq true (t 47) (s [])), [9]), (m 8 42, [4, 0, 1, 2, 3, 4]), (m 9 48, [10, 11, 0, 1, 2, 3, 4, 5, 6, 7, 8, 9, 10, 11])]) .ret) .skip))) (r [m 28 10, k 29 (.bin .sub (t 28) (i 1)), m 10 29])))))) (q (r [k 8 (.mov (s [])), k 9 (.mov (b false))]) .ret)) .skip)) (q (r [k 49 (.bsl 9 1 0 [.str []] []), m 11 49]) (q (q (r [k 50 (.fadr 3 (t 7)), k 51 (.load false 1 (t 50)), k 52 (.lenl (t 51)), k 53 (.mov (i 0))]) (.blk 2 (.loop (q (r [k 54 (.bin .lss (t 53) (t 52))]) (q (.cond (t 54) .skip (.exit 2)) (q (.blk 3 (q (r [m 55 53, k 56 (.iadr 4 (t 51) (t 53)), k 57 (.load true 4 (t 56)), k 13 (.alloc 48 [.int .i64 0, .int .i64 0, .str [], .imm [] [] true]), m 12 55, n (.store 4 (t 13) (t 57))]) (q (r [m 58 2, m 14 58]) (q (q (r [k 59 (.load true 4 (t 7)), k 60 (c 153 [t 59]), m 61 60, g 62 (.mov (t 12)) 61 true, g 63 (.bin .eql (t 62) (i 1)) 61 true, k 64 (.pick (t 61) (t 63) (b false))]) (.cond (t 64) (q (r [m 65 11, k 66 (.iadr 1 (t 65) (i 0)), k 67 (.load false 1 (t 66)), m 15 67]) (q (q (r [k 68 (.fadr 0 (t 7)), k 69 (.load false 1 (t 68)), k 70 (.bin .eql (t 69) (i 12))]) (.cond (t 70) (q (r [m 72 15, k 73 (c 91 [t 72]), m 71 73, k 74 (.ext (t 71) 0), k 75 (.ext (t 71) 1), m 16 74, m 17 75]) (q (q (r [m 76 17, k 77 (.not (t 76))]) (.cond (t 77) (q (r [k 8 (.mov (s [])), k 9 (.mov (b false))]) .ret) .skip)) (r [m 78 16, m 15 78]))) .skip)) (r [m 79 2, k 80 (.fadr 2 (t 7)), k 81 (.load false 1 (t 80)), m 82 15, k 83 (c 154 [t 79, t 81, t 82]), m 14 83]))) .skip)) (q (r [m 85 0, m 86 1, m 87 14, k 88 (.load true 4 (t 13)), k 89 (c 98 [t 85, t 86, t 87, t 88]), m 84 89, k 90 (.ext (t 84) 0), k 91 (.ext (t 84) 1), m 18 90, m 19 91]) (q (q (r [m 92 19, k 93 (.not (t 92))]) (.cond (t 93) (q (r [k 8 (.mov (s [])), k 9 (.mov (b false))]) .ret) .skip)) (r [m 94 11, m 95 18, k 96 (.bsl 9 1 1 [.str []] [(0, t 95)]), k 97 (.app 9 1 16 (t 94) (t 96)), m 11 97]))))))) (r [k 98 (.bin .add (t 53) (i 1)), m 53 98]))))))) (q (r [m 99 0, m 100 1, k 101 (.load true 4 (t 7)), m 102 11, k 103 (c 155 [t 99, t 100, t 101, t 102]), k 104 (.ext (t 103) 0), k 105 (.ext (t 103) 1), m 8 104, m 9 105]) .ret))))⟩
theorem fit_impl_typeOf : Fit Tryz.prog 98 Tryz.f98 mf_impl_typeOf := ⟨by kernel_rfl, Tryz.func98, by kernel_rfl, by kernel_rfl, by kernel_rfl, by kernel_rfl⟩
theorem itypeOf_ct (p : Sl LModule) (mi : Nat) (hpo : programOk (p.es.map LModule.core) = true) (hmi : mi < p.es.length) (e : LExpr) (tall : Nat) (hv : validShape e.core tall = true) (l : Sl Bind)
    (hl : ∀ b, b ∈ l.es → typeOk b.type = true) (hwl : ∀ x, x ∈ l.sp → x.length = 2) (hlen : l.es.length + tall ≤ 1000) :
    Ct Tryz.prog 98 [p.I LModule.C, .str p.es[mi].name, l.I Bind.C, .agg e.C] (.tup [.str (typeI (p.es.map LModule.core) mi e.core l.es).1, .bool (typeI (p.es.map LModule.core) mi e.core l.es).2]) := by
  have h0 : (p.es.map LModule.core)[mi]? = some (p.es[mi]).core := by rw [List.getElem?_map, List.getElem?_eq_getElem hmi]; rfl
  have hvk : ∀ x, x ∈ e.kids → validShape x.core (tall - 1) = true := fun x hx => validShapes_mem (shape_facts hv).2.2.2 x.core (by rw [LExpr.core_kids]; exact List.mem_map_of_mem hx)
  have ht1 : 1 ≤ tall := by
    rw [validShape_eq] at hv
    simp only [Bool.and_eq_true, bne_iff_ne] at hv
    omega
  have ihk : ∀ x, x ∈ e.kids → ∀ (l2 : Sl Bind), (∀ b, b ∈ l2.es → typeOk b.type = true) → (∀ x, x ∈ l2.sp → x.length = 2) → l2.es.length ≤ l.es.length + 1 →
      Ct Tryz.prog 98 [p.I LModule.C, .str p.es[mi].name, l2.I Bind.C, .agg x.C] (.tup [.str (typeI (p.es.map LModule.core) mi x.core l2.es).1, .bool (typeI (p.es.map LModule.core) mi x.core l2.es).2]) := fun x hx l2 h2 h3 h4 =>
    itypeOf_ct p mi hpo hmi x (tall - 1) (hvk x hx) l2 h2 h3 (by omega)
  have hty : ∀ x, x ∈ e.kids → ∀ (l2 : List Bind), (∀ b, b ∈ l2 → typeOk b.type = true) → (typeI (p.es.map LModule.core) mi x.core l2).2 = true → typeOk (typeI (p.es.map LModule.core) mi x.core l2).1 = true := fun x hx l2 h2 =>
    (typed_eq hpo h0 x.core (tall - 1) (hvk x hx) l2 h2).2
  have hm4 : e.kids.length ≤ 4 := by
    have h1 := (shape_facts hv).2.2.1
    rw [LExpr.core_kind, LExpr.core_kids, List.length_map] at h1
    simp only [inR, Bool.and_eq_true, decide_eq_true_eq] at h1
    have h2 : (kidsOf e.kind).2 ≤ 4 := by simp only [kidsOf]; repeat' split <;> try decide
    omega
  obtain ⟨Y, hYe⟩ : ∃ Y, Y = typeI (p.es.map LModule.core) mi e.core l.es := ⟨_, rfl⟩
  rw [← hYe]
  refine ct_of_run fit_impl_typeOf (by simp [mf_impl_typeOf]) (by simp [go_sem]) fun hd => ?_
  simp -implicitDefEqProofs [-List.map_take, -List.map_drop, go_sem, mf_impl_typeOf]
  cases n3 : e.kind == 3 with
  | true =>
    have hY0 : Y = lookI l.es e.text := by rw [hYe, typeI_eq, LExpr.core_kind, n3, LExpr.core_text]; rfl
    clear hYe ihk hty hvk
    have hm : l.es.length ≤ 1000 := by omega
    have hw0 : IntKind.i64.wrap ((l.es.length : Int) - 1) = (l.es.length : Int) - 1 := wrap_small (by omega) (by omega)
    simp -implicitDefEqProofs [-List.map_take, -List.map_drop, go_sem, n3, hw0]
    refine run_while (tyl_L e l) (fun a => a) (fun a => bindAtTo e.text l.es a = bindAt l.es e.text ∧ a ≤ l.es.length) l.es.length (gh_auto (by simp [go_sem, tyl_L, hw0])) ⟨rfl, Nat.le_refl _⟩ ?_
    rintro j ⟨hj, hjl⟩
    simp -implicitDefEqProofs [-List.map_take, -List.map_drop, go_sem, tyl_L]
    cases j with
    | zero =>
      simp only [bindAtTo] at hj
      have hY : Y = ([], false) := by rw [hY0]; simp [lookI, ← hj, at']
      subst hY
      simp -implicitDefEqProofs [-List.map_take, -List.map_drop, go_sem]
      have hy := hy0
      have hdf := hy0
      exact wk0
    | succ j =>
      have hlt : j < l.es.length := hjl
      have hlt' : ((j + 1 : Nat) : Int) - 1 = j := by omega
      have hw : IntKind.i64.wrap ((j : Int) - 1) = (j : Int) - 1 := wrap_small (by omega) (by omega)
      simp only [bindAtTo, nameIs, List.getElem?_eq_getElem hlt] at hj
      rw [hlt']
      cases hq : l.es[j].name == e.text with
      | true =>
        rw [hq] at hj
        simp only [if_true] at hj
        have hY : Y = (l.es[j].type, l.es[j].type != []) := by rw [hY0]; simp [lookI, ← hj, at_nat, List.getElem?_eq_getElem hlt]
        subst hY
        simp -implicitDefEqProofs [-List.map_take, -List.map_drop, go_sem, hlt]
        have hy := And.intro (hlt) (hq)
        have hdf := hy0
        exact wk0
      | false =>
        rw [hq] at hj
        simp only [Bool.false_eq_true, if_false] at hj
        simp -implicitDefEqProofs [-List.map_take, -List.map_drop, go_sem, hlt]
        repeat' first
          | ((first | refine gv_split (fun h => ?_) (fun h => ?_) | refine cnd_split (fun h => ?_) (fun h => ?_) | refine cgv_split (fun h => ?_) (fun h => ?_)) <;> (try (have hp := h; simp at hp)) <;> simp -implicitDefEqProofs [-List.map_take, -List.map_drop, go_sem, h, hlt, hq])
          | (refine And.intro (by first | omega | (simp only [maxLen]; omega) | (simp_all; done) | (simp_all; omega)) ?_; try simp -implicitDefEqProofs [-List.map_take, -List.map_drop, go_sem, hlt, hq])
          | (refine run_dreg' (by decide) ?_; simp -implicitDefEqProofs [-List.map_take, -List.map_drop, go_sem, hlt, hq])
          | ((first | refine end_tup _ (by simp) (by simp [go_sem]; rfl) (by simp [go_sem]) ?_); first | (simp [go_sem, *]; done) | grind | (simp [go_sem]; grind) | (simp_all [go_sem]; done) | (simp_all [go_sem]; omega))
        refine kx_more j (by simp) (gh_auto (by simp [go_sem, tyl_L, hw])) ?_
        exact ⟨hj, by omega⟩
  | false =>
    have hYn : typesI (p.es.map LModule.core) mi e.kind e.text (e.kids.map LExpr.core) 0 l.es [] = none → Y = ([], false) := fun h => by
      rw [hYe]; exact typeI_none (by rw [LExpr.core_kind]; exact n3) (by rw [LExpr.core_kind, LExpr.core_text, LExpr.core_kids]; exact h)
    have hYs : ∀ ts, typesI (p.es.map LModule.core) mi e.kind e.text (e.kids.map LExpr.core) 0 l.es [] = some ts → Y = fitI (p.es.map LModule.core) mi e.kind e.text ts := fun ts h => by
      rw [hYe, ← LExpr.core_kind, ← LExpr.core_text]; exact typeI_some (by rw [LExpr.core_kind]; exact n3) (by rw [LExpr.core_kind, LExpr.core_text, LExpr.core_kids]; exact h)
    clear hYe
    obtain ⟨T, hT⟩ : ∃ T, T = typesI (p.es.map LModule.core) mi e.kind e.text (e.kids.map LExpr.core) 0 l.es [] := ⟨_, rfl⟩
    rw [← hT] at hYn hYs
    simp -implicitDefEqProofs [-List.map_take, -List.map_drop, go_sem, n3]
    have hm : e.kids.length ≤ maxLen := Nat.le_trans hm4 (by decide)
    have hbc := binds_ct e
    refine run_iter (e.kids.length) (ty_L p p.es[mi].name e l) (fun i a => typesI (p.es.map LModule.core) mi e.kind e.text ((e.kids.drop i).map LExpr.core) i l.es a = T ∧ a.length = i ∧ ∀ t, t ∈ a → typeOk t = true) [] (gh_auto (by simp [go_sem, ty_L])) (by first | (simp; done) | (simp [hT]; done) | (simp [hT]; omega) | grind) ?_
    intro i a hi hj
    simp -implicitDefEqProofs [-List.map_take, -List.map_drop, go_sem, ty_L]
    refine cnd_split (fun hc => ?_) (fun hc => ?_)
    · have hlt : i < e.kids.length := by first | (simpa using hc) | (simp at hc; omega)
      rw [List.drop_eq_getElem_cons (l := e.kids) (by omega)] at hj
      simp only [List.map_cons, List.map_cons, List.map_nil] at hj
      simp -implicitDefEqProofs [-List.map_take, -List.map_drop, go_sem, hlt]
      obtain ⟨hj, hja, hjo⟩ := hj
      have hmem : e.kids[i] ∈ e.kids := List.getElem_mem hlt
      have hja2 : a.length ≤ 4 := by omega
      cases hbk : (e.kind == 11 || e.kind == 12) && i == 1 with
      | false =>
        have hib : innerB e.kind e.text i l.es a = some l.es := by rw [innerB, hbk]; rfl
        rw [typesI_some hib] at hj
        have hcall := ihk e.kids[i] hmem l hl hwl (by omega)
        obtain ⟨r, hr⟩ : ∃ r, r = typeI (p.es.map LModule.core) mi e.kids[i].core l.es := ⟨_, rfl⟩
        have hro := hty e.kids[i] hmem l.es hl
        rw [← hr] at hj hcall hro
        obtain ⟨r1, r2⟩ := r
        have hni : (e.kind == 11 || e.kind == 12) = true → ((i : Int) == 1) = false := fun h => by
          rw [h] at hbk
          simp at hbk ⊢
          omega
        cases r2 with
        | false =>
          have hYf := hYn (by rw [← hj]; rfl)
          subst hYf
          repeat' first
            | ((first | refine gv_split (fun h => ?_) (fun h => ?_) | refine cnd_split (fun h => ?_) (fun h => ?_) | refine cgv_split (fun h => ?_) (fun h => ?_)) <;> (try (have hp := h; simp at hp)) <;> simp -implicitDefEqProofs [-List.map_take, -List.map_drop, go_sem, h, hlt, hni])
            | (refine And.intro (by first | omega | (simp only [maxLen]; omega) | (simp_all; done) | (simp_all; omega)) ?_; try simp -implicitDefEqProofs [-List.map_take, -List.map_drop, go_sem, hlt, hni])
            | ((first | refine stp_ct (hbc) (by simp [go_sem, hlt, hni]) ?_ ?_ | refine cstp_ct (hbc) (by simp [go_sem, hlt, hni]) ?_ ?_ | refine stp_ct (hcall) (by simp [go_sem, hlt, hni]) ?_ ?_ | refine cstp_ct (hcall) (by simp [go_sem, hlt, hni]) ?_ ?_); (simp [go_sem]); simp -implicitDefEqProofs [-List.map_take, -List.map_drop, go_sem, hlt, hni])
            | (refine run_dreg' (by decide) ?_; simp -implicitDefEqProofs [-List.map_take, -List.map_drop, go_sem, hlt, hni])
            | ((first | refine kx_next a hlt (gh_auto (by simp [go_sem, ty_L, wrap_succ hlt hm, hlt, hni])) ?_ | refine end_tup _ (by simp) (by simp [go_sem]; rfl) (by simp [go_sem]) ?_); first | (simp [go_sem, *]; done) | grind | (simp [go_sem]; grind) | (simp_all [go_sem]; done) | (simp_all [go_sem]; omega))
        | true =>
          have hnx : typesI (p.es.map LModule.core) mi e.kind e.text ((e.kids.drop (i + 1)).map LExpr.core) (i + 1) l.es (a ++ [r1]) = T := hj
          have hnl : (a ++ [r1]).length = i + 1 := by simp [hja]
          have hno : ∀ t, t ∈ a ++ [r1] → typeOk t = true := fun t ht => by
            rcases List.mem_append.1 ht with h | h
            · exact hjo t h
            · rw [List.mem_singleton.1 h]; exact hro rfl
          clear hj hYn hYs hT
          repeat' first
            | ((first | refine gv_split (fun h => ?_) (fun h => ?_) | refine cnd_split (fun h => ?_) (fun h => ?_) | refine cgv_split (fun h => ?_) (fun h => ?_)) <;> (try (have hp := h; simp at hp)) <;> simp -implicitDefEqProofs [-List.map_take, -List.map_drop, go_sem, h, hlt, hni])
            | (refine And.intro (by first | omega | (simp only [maxLen]; omega) | (simp_all; done) | (simp_all; omega)) ?_; try simp -implicitDefEqProofs [-List.map_take, -List.map_drop, go_sem, hlt, hni])
            | ((first | refine stp_ct (hbc) (by simp [go_sem, hlt, hni]) ?_ ?_ | refine cstp_ct (hbc) (by simp [go_sem, hlt, hni]) ?_ ?_ | refine stp_ct (hcall) (by simp [go_sem, hlt, hni]) ?_ ?_ | refine cstp_ct (hcall) (by simp [go_sem, hlt, hni]) ?_ ?_); (simp [go_sem]); simp -implicitDefEqProofs [-List.map_take, -List.map_drop, go_sem, hlt, hni])
            | (refine run_dreg' (by decide) ?_; simp -implicitDefEqProofs [-List.map_take, -List.map_drop, go_sem, hlt, hni])
            | ((first | refine kx_next (a ++ [r1]) hlt (gh_auto (by simp [go_sem, ty_L, wrap_succ hlt hm, hlt, hni])) ?_ | refine end_tup _ (by simp) (by simp [go_sem]; rfl) (by simp [go_sem]) ?_); first | (simp [go_sem, *]; done) | grind | (simp [go_sem]; grind) | (simp_all [go_sem]; done) | (simp_all [go_sem]; omega))
      | true =>
        simp only [Bool.and_eq_true, beq_iff_eq] at hbk
        obtain ⟨hbk, hi1⟩ := hbk
        subst hi1
        have hw2 : IntKind.i64.wrap 2 = 2 := wrap_small (by decide) (by decide)
        obtain ⟨t0, ht0⟩ := one_of hja
        subst ht0
        have hto := hjo t0 (by simp)
        rw [hbk] at hbc
        cases n12 : e.kind == 12 with
        | true =>
          have hit := itypeItem_ct t0
          cases hI : itemOk t0 with
          | false =>
            have hib : innerB e.kind e.text 1 l.es [t0] = none := by rw [innerB, hbk, n12]; simp [hI]
            rw [typesI_none hib] at hj
            have hYf := hYn hj.symm
            subst hYf
            rw [hI] at hit
            repeat' first
              | ((first | refine gv_split (fun h => ?_) (fun h => ?_) | refine cnd_split (fun h => ?_) (fun h => ?_) | refine cgv_split (fun h => ?_) (fun h => ?_)) <;> (try (have hp := h; simp at hp)) <;> simp -implicitDefEqProofs [-List.map_take, -List.map_drop, go_sem, h, hlt, n12])
              | (refine And.intro (by first | omega | (simp only [maxLen]; omega) | (simp_all; done) | (simp_all; omega)) ?_; try simp -implicitDefEqProofs [-List.map_take, -List.map_drop, go_sem, hlt, n12])
              | ((first | refine stp_ct (hbc) (by simp [go_sem, hlt, n12]) ?_ ?_ | refine cstp_ct (hbc) (by simp [go_sem, hlt, n12]) ?_ ?_ | refine stp_ct (hit) (by simp [go_sem, hlt, n12]) ?_ ?_ | refine cstp_ct (hit) (by simp [go_sem, hlt, n12]) ?_ ?_); (simp [go_sem]); simp -implicitDefEqProofs [-List.map_take, -List.map_drop, go_sem, hlt, n12])
              | (refine run_dreg' (by decide) ?_; simp -implicitDefEqProofs [-List.map_take, -List.map_drop, go_sem, hlt, n12])
              | ((first | refine kx_next [t0] hlt (gh_auto (by simp [go_sem, ty_L, wrap_succ hlt hm, hlt, n12])) ?_ | refine end_tup _ (by simp) (by simp [go_sem]; rfl) (by simp [go_sem]) ?_); first | (simp [go_sem, *]; done) | grind | (simp [go_sem]; grind) | (simp_all [go_sem]; done) | (simp_all [go_sem]; omega))
          | true =>
            have hS : itemS t0 = mid t0 := by rw [itemS, hI]; rfl
            rw [hI, hS] at hit
            have hib : innerB e.kind e.text 1 l.es [t0] = some (l.es ++ [⟨e.text, mid t0⟩]) := by rw [innerB, hbk, n12]; simp [hI]
            rw [typesI_some hib] at hj
            have hl2 : ∀ b, b ∈ l.es ++ [(⟨e.text, mid t0⟩ : Bind)] → typeOk b.type = true := fun b hb => by
              rcases List.mem_append.1 hb with h | h
              · exact hl b h
              · rw [List.mem_singleton.1 h]; exact item_typeOk hI
            have hwith := with_ct l e.text (mid t0) hwl (by omega)
            have hcall := ihk e.kids[1] hmem ⟨l.es ++ [⟨e.text, mid t0⟩], [], false⟩ hl2 (by simp) (by simp)
            obtain ⟨r, hr⟩ : ∃ r, r = typeI (p.es.map LModule.core) mi e.kids[1].core (l.es ++ [⟨e.text, mid t0⟩]) := ⟨_, rfl⟩
            have hro := hty e.kids[1] hmem _ hl2
            simp only [← hr] at hj hcall hro
            simp only [Sl.I, List.map_append, List.map_cons, List.map_nil] at hcall
            obtain ⟨r1, r2⟩ := r
            cases r2 with
            | false =>
              have hYf := hYn (by rw [← hj]; rfl)
              subst hYf
              repeat' first
                | ((first | refine gv_split (fun h => ?_) (fun h => ?_) | refine cnd_split (fun h => ?_) (fun h => ?_) | refine cgv_split (fun h => ?_) (fun h => ?_)) <;> (try (have hp := h; simp at hp)) <;> simp -implicitDefEqProofs [-List.map_take, -List.map_drop, go_sem, h, hlt, n12])
                | (refine And.intro (by first | omega | (simp only [maxLen]; omega) | (simp_all; done) | (simp_all; omega)) ?_; try simp -implicitDefEqProofs [-List.map_take, -List.map_drop, go_sem, hlt, n12])
                | ((first | refine stp_ct (hbc) (by simp [go_sem, hlt, n12]) ?_ ?_ | refine cstp_ct (hbc) (by simp [go_sem, hlt, n12]) ?_ ?_ | refine stp_ct (hit) (by simp [go_sem, hlt, n12]) ?_ ?_ | refine cstp_ct (hit) (by simp [go_sem, hlt, n12]) ?_ ?_ | refine stp_ct (hwith) (by simp [go_sem, hlt, n12]) ?_ ?_ | refine cstp_ct (hwith) (by simp [go_sem, hlt, n12]) ?_ ?_ | refine stp_ct (hcall) (by simp [go_sem, hlt, n12]) ?_ ?_ | refine cstp_ct (hcall) (by simp [go_sem, hlt, n12]) ?_ ?_); (simp [go_sem]); simp -implicitDefEqProofs [-List.map_take, -List.map_drop, go_sem, hlt, n12])
                | (refine run_dreg' (by decide) ?_; simp -implicitDefEqProofs [-List.map_take, -List.map_drop, go_sem, hlt, n12])
                | ((first | refine kx_next [t0] hlt (gh_auto (by simp [go_sem, ty_L, wrap_succ hlt hm, hlt, n12])) ?_ | refine end_tup _ (by simp) (by simp [go_sem]; rfl) (by simp [go_sem]) ?_); first | (simp [go_sem, *]; done) | grind | (simp [go_sem]; grind) | (simp_all [go_sem]; done) | (simp_all [go_sem]; omega))
            | true =>
              have hnx : typesI (p.es.map LModule.core) mi e.kind e.text ((e.kids.drop 2).map LExpr.core) 2 l.es [t0, r1] = T := hj
              have hr1 : typeOk r1 = true := hro rfl
              clear hj hYn hYs hT
              repeat' first
                | ((first | refine gv_split (fun h => ?_) (fun h => ?_) | refine cnd_split (fun h => ?_) (fun h => ?_) | refine cgv_split (fun h => ?_) (fun h => ?_)) <;> (try (have hp := h; simp at hp)) <;> simp -implicitDefEqProofs [-List.map_take, -List.map_drop, go_sem, h, hlt, n12, hw2])
                | (refine And.intro (by first | omega | (simp only [maxLen]; omega) | (simp_all; done) | (simp_all; omega)) ?_; try simp -implicitDefEqProofs [-List.map_take, -List.map_drop, go_sem, hlt, n12, hw2])
                | ((first | refine stp_ct (hbc) (by simp [go_sem, hlt, n12, hw2]) ?_ ?_ | refine cstp_ct (hbc) (by simp [go_sem, hlt, n12, hw2]) ?_ ?_ | refine stp_ct (hit) (by simp [go_sem, hlt, n12, hw2]) ?_ ?_ | refine cstp_ct (hit) (by simp [go_sem, hlt, n12, hw2]) ?_ ?_ | refine stp_ct (hwith) (by simp [go_sem, hlt, n12, hw2]) ?_ ?_ | refine cstp_ct (hwith) (by simp [go_sem, hlt, n12, hw2]) ?_ ?_ | refine stp_ct (hcall) (by simp [go_sem, hlt, n12, hw2]) ?_ ?_ | refine cstp_ct (hcall) (by simp [go_sem, hlt, n12, hw2]) ?_ ?_); (simp [go_sem]); simp -implicitDefEqProofs [-List.map_take, -List.map_drop, go_sem, hlt, n12, hw2])
                | (refine run_dreg' (by decide) ?_; simp -implicitDefEqProofs [-List.map_take, -List.map_drop, go_sem, hlt, n12, hw2])
                | ((first | refine kx_next [t0, r1] hlt (gh_auto (by simp [go_sem, ty_L, wrap_succ hlt hm, hlt, n12, hw2])) ?_ | refine end_tup _ (by simp) (by simp [go_sem]; rfl) (by simp [go_sem]) ?_); first | (simp [go_sem, *]; done) | grind | (simp [go_sem]; grind) | (simp_all [go_sem]; done) | (simp_all [go_sem]; omega))
        | false =>
          have hib : innerB e.kind e.text 1 l.es [t0] = some (l.es ++ [⟨e.text, t0⟩]) := by rw [innerB, hbk, n12]; rfl
          rw [typesI_some hib] at hj
          have hl2 : ∀ b, b ∈ l.es ++ [(⟨e.text, t0⟩ : Bind)] → typeOk b.type = true := fun b hb => by
            rcases List.mem_append.1 hb with h | h
            · exact hl b h
            · rw [List.mem_singleton.1 h]; exact hto
          have hwith := with_ct l e.text t0 hwl (by omega)
          have hcall := ihk e.kids[1] hmem ⟨l.es ++ [⟨e.text, t0⟩], [], false⟩ hl2 (by simp) (by simp)
          obtain ⟨r, hr⟩ : ∃ r, r = typeI (p.es.map LModule.core) mi e.kids[1].core (l.es ++ [⟨e.text, t0⟩]) := ⟨_, rfl⟩
          have hro := hty e.kids[1] hmem _ hl2
          simp only [← hr] at hj hcall hro
          simp only [Sl.I, List.map_append, List.map_cons, List.map_nil] at hcall
          obtain ⟨r1, r2⟩ := r
          cases r2 with
          | false =>
            have hYf := hYn (by rw [← hj]; rfl)
            subst hYf
            repeat' first
              | ((first | refine gv_split (fun h => ?_) (fun h => ?_) | refine cnd_split (fun h => ?_) (fun h => ?_) | refine cgv_split (fun h => ?_) (fun h => ?_)) <;> (try (have hp := h; simp at hp)) <;> simp -implicitDefEqProofs [-List.map_take, -List.map_drop, go_sem, h, hlt, n12])
              | (refine And.intro (by first | omega | (simp only [maxLen]; omega) | (simp_all; done) | (simp_all; omega)) ?_; try simp -implicitDefEqProofs [-List.map_take, -List.map_drop, go_sem, hlt, n12])
              | ((first | refine stp_ct (hbc) (by simp [go_sem, hlt, n12]) ?_ ?_ | refine cstp_ct (hbc) (by simp [go_sem, hlt, n12]) ?_ ?_ | refine stp_ct (hwith) (by simp [go_sem, hlt, n12]) ?_ ?_ | refine cstp_ct (hwith) (by simp [go_sem, hlt, n12]) ?_ ?_ | refine stp_ct (hcall) (by simp [go_sem, hlt, n12]) ?_ ?_ | refine cstp_ct (hcall) (by simp [go_sem, hlt, n12]) ?_ ?_); (simp [go_sem]); simp -implicitDefEqProofs [-List.map_take, -List.map_drop, go_sem, hlt, n12])
              | (refine run_dreg' (by decide) ?_; simp -implicitDefEqProofs [-List.map_take, -List.map_drop, go_sem, hlt, n12])
              | ((first | refine kx_next [t0] hlt (gh_auto (by simp [go_sem, ty_L, wrap_succ hlt hm, hlt, n12])) ?_ | refine end_tup _ (by simp) (by simp [go_sem]; rfl) (by simp [go_sem]) ?_); first | (simp [go_sem, *]; done) | grind | (simp [go_sem]; grind) | (simp_all [go_sem]; done) | (simp_all [go_sem]; omega))
          | true =>
            have hnx : typesI (p.es.map LModule.core) mi e.kind e.text ((e.kids.drop 2).map LExpr.core) 2 l.es [t0, r1] = T := hj
            have hr1 : typeOk r1 = true := hro rfl
            clear hj hYn hYs hT
            repeat' first
              | ((first | refine gv_split (fun h => ?_) (fun h => ?_) | refine cnd_split (fun h => ?_) (fun h => ?_) | refine cgv_split (fun h => ?_) (fun h => ?_)) <;> (try (have hp := h; simp at hp)) <;> simp -implicitDefEqProofs [-List.map_take, -List.map_drop, go_sem, h, hlt, n12, hw2])
              | (refine And.intro (by first | omega | (simp only [maxLen]; omega) | (simp_all; done) | (simp_all; omega)) ?_; try simp -implicitDefEqProofs [-List.map_take, -List.map_drop, go_sem, hlt, n12, hw2])
              | ((first | refine stp_ct (hbc) (by simp [go_sem, hlt, n12, hw2]) ?_ ?_ | refine cstp_ct (hbc) (by simp [go_sem, hlt, n12, hw2]) ?_ ?_ | refine stp_ct (hwith) (by simp [go_sem, hlt, n12, hw2]) ?_ ?_ | refine cstp_ct (hwith) (by simp [go_sem, hlt, n12, hw2]) ?_ ?_ | refine stp_ct (hcall) (by simp [go_sem, hlt, n12, hw2]) ?_ ?_ | refine cstp_ct (hcall) (by simp [go_sem, hlt, n12, hw2]) ?_ ?_); (simp [go_sem]); simp -implicitDefEqProofs [-List.map_take, -List.map_drop, go_sem, hlt, n12, hw2])
              | (refine run_dreg' (by decide) ?_; simp -implicitDefEqProofs [-List.map_take, -List.map_drop, go_sem, hlt, n12, hw2])
              | ((first | refine kx_next [t0, r1] hlt (gh_auto (by simp [go_sem, ty_L, wrap_succ hlt hm, hlt, n12, hw2])) ?_ | refine end_tup _ (by simp) (by simp [go_sem]; rfl) (by simp [go_sem]) ?_); first | (simp [go_sem, *]; done) | grind | (simp [go_sem]; grind) | (simp_all [go_sem]; done) | (simp_all [go_sem]; omega))
    · have hge : e.kids.length ≤ i := by first | (simpa using hc) | (simp at hc; omega)
      rw [List.drop_of_length_le (l := e.kids) (by omega)] at hj
      simp only [List.map_nil, List.map_cons, List.map_nil] at hj
      try simp -implicitDefEqProofs [-List.map_take, -List.map_drop, go_sem]
      obtain ⟨hj, hja, hjo⟩ := hj
      rw [typesI_nil] at hj
      have hYf := hYs a hj.symm
      subst hYf
      have hft := fitting_ct p mi hpo hmi e tall hv (by simpa using n3) a [] false (by omega) hjo
      simp only [Sl.I] at hft
      repeat' first
        | ((first | refine gv_split (fun h => ?_) (fun h => ?_) | refine cnd_split (fun h => ?_) (fun h => ?_) | refine cgv_split (fun h => ?_) (fun h => ?_)) <;> (try (have hp := h; simp at hp)) <;> simp -implicitDefEqProofs [-List.map_take, -List.map_drop, go_sem, h])
        | (refine And.intro (by first | omega | (simp only [maxLen]; omega) | (simp_all; done) | (simp_all; omega)) ?_; try simp -implicitDefEqProofs [-List.map_take, -List.map_drop, go_sem])
        | ((first | refine cstp_snap 3 (hft) (by repeat' first | exact snapW_nil | (refine snapW_pure (by simp [go_sem]) ?_) | (refine snapW_ref (by first | rfl | (simp [go_sem]; rfl)) (by simp) (by simp [go_sem]) (by simp [go_sem]) ?_)) ?_ ?_ ?_ | refine stp_snap 3 (hft) (by repeat' first | exact snapW_nil | (refine snapW_pure (by simp [go_sem]) ?_) | (refine snapW_ref (by first | rfl | (simp [go_sem]; rfl)) (by simp) (by simp [go_sem]) (by simp [go_sem]) ?_)) ?_ ?_ ?_); (simp [closedV, closedL]); (simp [go_sem]); simp -implicitDefEqProofs [-List.map_take, -List.map_drop, go_sem])
        | (refine run_dreg' (by decide) ?_; simp -implicitDefEqProofs [-List.map_take, -List.map_drop, go_sem])
        | ((first | refine end_tup _ (by simp) (by simp [go_sem]; rfl) (by simp [go_sem]) ?_); first | (simp [go_sem, *]; done) | grind | (simp [go_sem]; grind) | (simp_all [go_sem]; done) | (simp_all [go_sem]; omega))
termination_by SizeOf.sizeOf e
decreasing_by exact LExpr.kid_lt hx

def ideclTyped_L (p : Sl LModule) (nm : Str) (d : LDecl) (i : Nat) (_ : Unit) : St := ⟨lk [(0, p.I LModule.C), (1, .str nm), (5, .ptr 0 1 0 0), (15, d.binds.I Bind.C), (16, .int .i64 d.binds.es.length), (17, .int .i64 i)], [some ⟨[[.int .i64 d.kind, .str d.name, .imm (d.binds.es.map Bind.C) d.binds.sp d.binds.lim, .str d.type, .int .i64 d.body.kind, .int .i64 d.body.num, .str d.body.text, .imm (d.body.kids.map LExpr.C) d.body.sp d.body.lim]], 8, 72, false, false⟩], []⟩
open Z in
def mf_impl_declTyped : MF := ⟨52, [(.t 6)], q (r [k 5 (.box 72 (t 2)), k 6 (.mov (b false))]) (q (q (r [k 11 (.fadr 0 (t 5)), k 12 (.load false 1 (t 11)), k 13 (.bin .eql (t 12) (i 1))]) (.cond (t 13) (q (r [k 6 (.mov (b true))]) .ret) .skip)) (q (q (r [k 14 (.fadr 2 (t 5)), k 15 (.load false 1 (t 14)), k 16 (.lenl (t 15)), k 17 (.mov (i 0))]) (.blk 0 (.loop (q (r [k 18 (.bin .lss (t 17) (t 16))]) (q (.cond (t 18) .skip (.exit 0)) (q (.blk 1 (q (r [k 19 (.iadr 2 (t 15) (t 17)), k 20 (.load true 2 (t 19)), k 8 (.alloc 118 [.str [], .str []]), n (.store 2 (t 8) (t 20))]) (q (r [m 21 0, m 22 1, k 23 (.fadr 1 (t 8)), k 24 (.load false 1 (t 23)), k 25 (c 97 [t 21, t 22, t 24]), k 26 (.not (t 25))]) (.cond (t 26) (q (r [k 6 (.mov (b false))]) .ret) .skip)))) (r [k 27 (.bin .add (t 17) (i 1)), m 17 27]))))))) (q (r [m 29 0, m 30 1, k 31 (.fadr 2 (t 5)), k 32 (.load false 1 (t 31)), k 33 (.fadr 4 (t 5)), k 34 (.load true 4 (t 33)), k 35 (c 98 [t 29, t 30, t 32, t 34]), m 28 35, k 36 (.ext (t 28) 0), k 37 (.ext (t 28) 1), m 9 36, m 10 37]) (q (r [m 38 10, m 39 38, g 40 (.mov (t 9)) 39 true, g 41 (.fadr 3 (t 5)) 39 true, g 42 (.load false 1 (t 41)) 39 true, g 43 (.seq false (t 40) (t 42)) 39 true, k 44 (.pick (t 39) (t 43) (b false)), m 45 44, g 46 (.mov (t 0)) 45 true, g 47 (.mov (t 1)) 45 true, g 48 (.fadr 3 (t 5)) 45 true, g 49 (.load false 1 (t 48)) 45 true, g 50 (c 97 [t 46, t 47, t 49]) 45 true, k 51 (.pick (t 45) (t 50) (b false)), m 6 51]) .ret))))⟩
theorem fit_impl_declTyped : Fit Tryz.prog 47 Tryz.f47 mf_impl_declTyped := ⟨by kernel_rfl, Tryz.func47, by kernel_rfl, by kernel_rfl, by kernel_rfl, by kernel_rfl⟩
theorem ideclTyped_ct (p : Sl LModule) (mi : Nat) (hpo : programOk (p.es.map LModule.core) = true) (hmi : mi < p.es.length) (d : LDecl) (hd0 : validDecl d.core = true) (hwb : ∀ x, x ∈ d.binds.sp → x.length = 2) :
    Ct Tryz.prog 47 [p.I LModule.C, .str p.es[mi].name, .agg d.C] (.bool (declTypedI (p.es.map LModule.core) mi d.core)) := by
  obtain ⟨_, hb, _, hk, h0⟩ := decl_facts hd0
  rw [LDecl.core_kind] at hk h0
  have hc : declTypedI (p.es.map LModule.core) mi d.core = (d.kind == 1 || ((d.binds.es.all fun b => mayTellP (p.es.map LModule.core) mi b.type) && ((typeI (p.es.map LModule.core) mi d.body.core d.binds.es).2 && ((typeI (p.es.map LModule.core) mi d.body.core d.binds.es).1 == d.type && mayTellP (p.es.map LModule.core) mi d.type)))) := rfl
  rw [hc]
  refine ct_of_run fit_impl_declTyped (by simp [mf_impl_declTyped]) (by simp [go_sem]) fun hd => ?_
  simp -implicitDefEqProofs [-List.map_take, -List.map_drop, go_sem, mf_impl_declTyped]
  rcases hk with hk | hk
  · have hbl : d.binds.es.length ≤ 4 := by
      simp only [validDecl, validBinds, Bool.and_eq_true, decide_eq_true_eq] at hd0
      have := hd0.2.1.2
      have h2 : d.core.binds = d.binds.es := rfl
      rw [h2] at this
      omega
    have he : validShape d.body.core 9 = true := by
      have := (h0 hk).2
      simp only [exprOk, Bool.and_eq_true] at this
      exact this.1
    have hm : d.binds.es.length ≤ maxLen := Nat.le_trans hbl (by decide)
    have ht := itypeOf_ct p mi hpo hmi d.body 9 he d.binds hb hwb (by omega)
    obtain ⟨r, hr⟩ : ∃ r, r = typeI (p.es.map LModule.core) mi d.body.core d.binds.es := ⟨_, rfl⟩
    rw [← hr] at ht ⊢
    obtain ⟨r1, r2⟩ := r
    simp only at ht ⊢
    have nk : (d.kind == 1) = false := by simp [hk]
    simp -implicitDefEqProofs [-List.map_take, -List.map_drop, go_sem, nk]
    refine run_iter (d.binds.es.length) (ideclTyped_L p p.es[mi].name d) (fun i a => ((d.binds.es.drop i).all fun b => mayTellP (p.es.map LModule.core) mi b.type) = d.binds.es.all fun b => mayTellP (p.es.map LModule.core) mi b.type) () (gh_auto (by simp [go_sem, ideclTyped_L, nk])) (by first | (simp; done) | (simp []; done) | (simp []; omega) | grind) ?_
    intro i a hi hj
    simp -implicitDefEqProofs [-List.map_take, -List.map_drop, go_sem, ideclTyped_L, nk]
    refine cnd_split (fun hc => ?_) (fun hc => ?_)
    · have hlt : i < d.binds.es.length := by first | (simpa using hc) | (simp at hc; omega)
      rw [List.drop_eq_getElem_cons (l := d.binds.es) (by omega)] at hj
      simp only [List.map_cons, List.all_cons, List.all_nil] at hj
      simp -implicitDefEqProofs [-List.map_take, -List.map_drop, go_sem, hlt, nk]
      have d1 := fun a1 => imayTell_ct p mi a1 hpo hmi
      have hy := And.intro (hlt) (nk)
      have hdf := hy0
      have eL := @ideclTyped_L.eq_1
      have hm0 := hm
      have hlt0 := hlt
      exact wk1n
    · have hge : d.binds.es.length ≤ i := by first | (simpa using hc) | (simp at hc; omega)
      rw [List.drop_of_length_le (l := d.binds.es) (by omega)] at hj
      simp only [List.map_nil, List.all_cons, List.all_nil] at hj
      try simp -implicitDefEqProofs [-List.map_take, -List.map_drop, go_sem, nk]
      have c1 := ht
      have d1 := fun a1 => imayTell_ct p mi a1 hpo hmi
      have hy := nk
      have hdf := hy0
      exact wk1
  · have nk : (d.kind == 1) = true := by simpa using hk
    simp -implicitDefEqProofs [-List.map_take, -List.map_drop, go_sem, nk]
    have hy := nk
    have hdf := hy0
    exact wk0
def WB (p : List LModule) : Prop := ∀ m, m ∈ p → ∀ d, d ∈ m.decls.es → ∀ x, x ∈ d.binds.sp → x.length = 2
def ipt_L (p : Sl LModule) (i : Nat) (_ : Unit) : St := ⟨lk [(0, p.I LModule.C), (10, p.I LModule.C), (11, .int .i64 p.es.length), (12, .int .i64 i)], [], []⟩
def ipt_L2 (p : Sl LModule) (i : Nat) (m : LModule) (k : Nat) (_ : Unit) : St := ⟨lk [(0, p.I LModule.C), (4, .ptr 0 1 0 0), (10, p.I LModule.C), (11, .int .i64 p.es.length), (12, .int .i64 i), (17, m.decls.I LDecl.C), (18, .int .i64 m.decls.es.length), (19, .int .i64 k)], [some ⟨[m.C], 3, 61, false, false⟩], []⟩
open Z in
def mf_impl_ProgramTyped : MF := ⟨31, [(.t 2)], q (r [k 2 (.mov (b false))]) (q (q (r [m 7 0, k 8 (c 33 [t 7]), k 9 (.not (t 8))]) (.cond (t 9) (q (r [k 2 (.mov (b false))]) .ret) .skip)) (q (q (r [m 10 0, k 11 (.lenl (t 10)), k 12 (.mov (i 0))]) (.blk 0 (.loop (q (r [k 13 (.bin .lss (t 12) (t 11))]) (q (.cond (t 13) .skip (.exit 0)) (q (.blk 1 (q (r [k 14 (.iadr 3 (t 10) (t 12)), k 15 (.load true 3 (t 14)), k 4 (.alloc 61 [.str [], .imm [] [] true, .imm [] [] true]), n (.store 3 (t 4) (t 15))]) (q (r [k 16 (.fadr 2 (t 4)), k 17 (.load false 1 (t 16)), k 18 (.lenl (t 17)), k 19 (.mov (i 0))]) (.blk 2 (.loop (q (r [k 20 (.bin .lss (t 19) (t 18))]) (q (.cond (t 20) .skip (.exit 2)) (q (.blk 3 (q (r [k 21 (.iadr 8 (t 17) (t 19)), k 22 (.load true 8 (t 21)), k 6 (.alloc 72 [.int .i64 0, .str [], .imm [] [] true, .str [], .int .i64 0, .int .i64 0, .str [], .imm [] [] true]), n (.store 8 (t 6) (t 22))]) (q (r [m 23 0, k 24 (.fadr 0 (t 4)), k 25 (.load false 1 (t 24)), k 26 (.load true 8 (t 6)), k 27 (c 47 [t 23, t 25, t 26]), k 28 (.not (t 27))]) (.cond (t 28) (q (r [k 2 (.mov (b false))]) .ret) .skip)))) (r [k 29 (.bin .add (t 19) (i 1)), m 19 29]))))))))) (r [k 30 (.bin .add (t 12) (i 1)), m 12 30]))))))) (q (r [k 2 (.mov (b true))]) .ret)))⟩
theorem fit_impl_ProgramTyped : Fit Tryz.prog 19 Tryz.f19 mf_impl_ProgramTyped := ⟨by kernel_rfl, Tryz.func19, by kernel_rfl, by kernel_rfl, by kernel_rfl, by kernel_rfl⟩
theorem iprogramTyped_ct (p : Sl LModule) (hs : SmP (p.es.map LModule.core)) (hwb : WB p.es) : Ct Tryz.prog 19 [p.I LModule.C] (.bool (progTyped (p.es.map LModule.core))) := by
  rw [← progTyped_eq]
  have h1 := iprogramOk2_ct p hs
  refine ct_of_run fit_impl_ProgramTyped (by simp [mf_impl_ProgramTyped]) (by simp [go_sem]) fun hd => ?_
  simp -implicitDefEqProofs [-List.map_take, -List.map_drop, go_sem, mf_impl_ProgramTyped]
  have hm : p.es.length ≤ maxLen := sl_deep hd.1
  cases hpo : programOk (p.es.map LModule.core) with
  | false =>
    rw [hpo] at h1
    have c1 := h1
    have hy := hy0
    have hdf := hy0
    exact wk1
  | true =>
  rw [hpo] at h1
  have hvd : ∀ {i k : Nat} (hi : i < p.es.length) (hk : k < (p.es[i]).decls.es.length), validDecl ((p.es[i]).decls.es[k]).core = true := fun hi hk =>
    decl_valid hpo (List.mem_map_of_mem (List.getElem_mem hi)) (by rw [LModule.core_decls]; exact List.mem_map_of_mem (List.getElem_mem hk))
  repeat' first
    | ((first | refine gv_split (fun h => ?_) (fun h => ?_) | refine cnd_split (fun h => ?_) (fun h => ?_) | refine cgv_split (fun h => ?_) (fun h => ?_)) <;> (try (have hp := h; simp at hp)) <;> simp -implicitDefEqProofs [-List.map_take, -List.map_drop, go_sem, h])
    | (refine And.intro (by first | omega | (simp only [maxLen]; omega) | (simp_all; done) | (simp_all; omega)) ?_; try simp -implicitDefEqProofs [-List.map_take, -List.map_drop, go_sem])
    | ((first | refine stp_ct (h1) (by simp [go_sem]) ?_ ?_ | refine cstp_ct (h1) (by simp [go_sem]) ?_ ?_); (simp [go_sem]); simp -implicitDefEqProofs [-List.map_take, -List.map_drop, go_sem])
    | (refine run_dreg' (by decide) ?_; simp -implicitDefEqProofs [-List.map_take, -List.map_drop, go_sem])
    | ((first | refine end_tup _ (by simp) (by simp [go_sem]; rfl) (by simp [go_sem]) ?_); first | (simp [go_sem, *]; done) | grind | (simp [go_sem]; grind) | (simp_all [go_sem]; done) | (simp_all [go_sem]; omega))
  refine run_iter (p.es.length) (ipt_L p) (fun i a => modsTyped (declTypedI (p.es.map LModule.core)) ((p.es.drop i).map LModule.core) i = modsTyped (declTypedI (p.es.map LModule.core)) (p.es.map LModule.core) 0) () (gh_auto (by simp [go_sem, ipt_L])) (by first | (simp; done) | (simp []; done) | (simp []; omega) | grind) ?_
  intro i a hi hj
  simp -implicitDefEqProofs [-List.map_take, -List.map_drop, go_sem, ipt_L]
  refine cnd_split (fun hc => ?_) (fun hc => ?_)
  · have hlt : i < p.es.length := by first | (simpa using hc) | (simp at hc; omega)
    rw [List.drop_eq_getElem_cons (l := p.es) (by omega)] at hj
    simp only [List.map_cons, List.map_cons, List.map_nil, modsTyped_cons, modsTyped_nil, LModule.core_decls] at hj
    simp -implicitDefEqProofs [-List.map_take, -List.map_drop, go_sem, hlt]
    have hm2 : p.es[i].decls.es.length ≤ maxLen := by
      have h1 := (programOk_iff _).1 hpo
      have h2 := (h1.2.1 (p.es[i]).core (List.mem_map_of_mem (List.getElem_mem hlt))).2.1
      rw [LModule.core_decls, List.length_map] at h2
      exact Nat.le_trans h2 (by decide)
    refine run_iter (p.es[i].decls.es.length) (ipt_L2 p i p.es[i]) (fun i2 a2 => ((p.es[i].decls.es.drop i2).map LDecl.core).all (declTypedI (p.es.map LModule.core) i) = (p.es[i].decls.es.map LDecl.core).all (declTypedI (p.es.map LModule.core) i)) () (gh_auto (by simp [go_sem, ipt_L2, hlt])) (by first | (simp; done) | (simp []; done) | (simp []; omega) | grind) ?_
    intro i2 a2 hi2 hj2
    simp -implicitDefEqProofs [-List.map_take, -List.map_drop, go_sem, ipt_L2, hlt]
    refine cnd_split (fun hc2 => ?_) (fun hc2 => ?_)
    · have hlt2 : i2 < p.es[i].decls.es.length := by first | (simpa using hc2) | (simp at hc2; omega)
      rw [List.drop_eq_getElem_cons (l := p.es[i].decls.es) (by omega)] at hj2
      simp only [List.map_cons, List.map_cons, List.all_cons, List.map_nil, List.all_nil] at hj2
      simp -implicitDefEqProofs [-List.map_take, -List.map_drop, go_sem, hlt2, hlt]
      have c1 := ideclTyped_ct p i hpo hlt p.es[i].decls.es[i2] (hvd hlt hlt2) (hwb _ (List.getElem_mem hlt) _ (List.getElem_mem hlt2))
      have hy := And.intro (hlt) (hlt2)
      have hdf := hy0
      have eL := @ipt_L2.eq_1
      have hm0 := hm2
      have hlt0 := hlt2
      exact wk1n
    · have hge2 : p.es[i].decls.es.length ≤ i2 := by first | (simpa using hc2) | (simp at hc2; omega)
      rw [List.drop_of_length_le (l := p.es[i].decls.es) (by omega)] at hj2
      simp only [List.map_nil, List.map_cons, List.all_cons, List.map_nil, List.all_nil] at hj2
      try simp -implicitDefEqProofs [-List.map_take, -List.map_drop, go_sem, hlt]
      have hy := hlt
      have hdf := hy0
      have eL := @ipt_L.eq_1
      have hm0 := hm
      have hlt0 := hlt
      exact wk0n
  · have hge : p.es.length ≤ i := by first | (simpa using hc) | (simp at hc; omega)
    rw [List.drop_of_length_le (l := p.es) (by omega)] at hj
    simp only [List.map_nil, List.map_cons, List.map_nil, modsTyped_cons, modsTyped_nil, LModule.core_decls] at hj
    try simp -implicitDefEqProofs [-List.map_take, -List.map_drop, go_sem]
    have hy := hy0
    have hdf := hy0
    exact wk0
end Go.Mach

/- The law of ProgramTyped, walked. -/
set_option maxHeartbeats 4000000
namespace Go.Mach
open Go Go.Proofs
set_option linter.unusedVariables false
set_option linter.unusedSimpArgs false
attribute [local go_sem] Z.k Z.g Z.n Z.m Z.t Z.i Z.b Z.s Z.c Z.r Z.q run_seq run_skip run_reg run_blk run_exit run_ret run_cond cnd_true cnd_false kx_seq_normal kx_seq_exit kx_seq_ret kx_blk_normal kx_blk_same kx_blk_other kx_blk_ret kx_loop_exit kx_loop_ret kx_done ops_nil ops_plain ops_grd gv_tt gv_ff gv_tf gv_ft gv_tup stp_ok stp_ob stp_hp stp_bad stp_if get_t get_c putO_some putO_none put_same put_ne put_σ put_base withσ_τ withσ_σ withσ_base withσ_put withσ_withσ mk_τ mk_σ mk_base mk_withσ entry_τ entry_σ entry_base calm_nil calm_plain calm_grd cgv_tt cgv_ff cgv_tf cgv_ft cgv_tup cstp_ok cstp_ob cstp_if
attribute [local irreducible] Ct Co Cs
attribute [local go_sem] evalOp notV negV pickV binV intB seqV beqV catV lensV lenlV boxV_eq newV cellsOf cellV fadrV fldV fldC loadV loadC_ag loadC_one plainV isOwn iadrV storeV lk bdV bdL renO renL renV pureV pureL noOwnV noOwnL idxV slsV optI extV resL resV ret1 mmV cnviV cnvsV nilcV eqnV bslV bslGo appV elems okE appE getD_map okO_none okO_some strC intC Sl.I
attribute [local simp] Bind.eqa Use.eqa loadC_str loadC_int Bind.C_len Bind.C_pure Bind.C_noOwn Bind.C_cell Bind.C_bd Bind.C_bdL Bind.C_ren Bind.C_any Bind.C_any0 Bind.C_any1 Bind.C_anyt Bind.C_take Bind.C_load Bind.C_load0 Bind.C_load1 Bind.C_fld Bind.C_box Bind.C_fold Use.C_len Use.C_pure Use.C_noOwn Use.C_cell Use.C_bd Use.C_bdL Use.C_ren Use.C_any Use.C_any0 Use.C_any1 Use.C_anyt Use.C_take Use.C_load Use.C_load0 Use.C_load1 Use.C_fld Use.C_box Use.C_fold LExpr.C_len LExpr.C_pure LExpr.C_noOwn LExpr.C_cell LExpr.C_bd LExpr.C_bdL LExpr.C_ren LExpr.C_any LExpr.C_any0 LExpr.C_any1 LExpr.C_anyt LExpr.C_take LExpr.C_load LExpr.C_load0 LExpr.C_load1 LExpr.C_fld LExpr.C_box LExpr.C_fold LDecl.C_len LDecl.C_pure LDecl.C_noOwn LDecl.C_cell LDecl.C_bd LDecl.C_bdL LDecl.C_ren LDecl.C_any LDecl.C_any0 LDecl.C_any1 LDecl.C_anyt LDecl.C_take LDecl.C_load LDecl.C_load0 LDecl.C_load1 LDecl.C_fld LDecl.C_box LDecl.C_fold LModule.C_len LModule.C_pure LModule.C_noOwn LModule.C_cell LModule.C_bd LModule.C_bdL LModule.C_ren LModule.C_any LModule.C_any0 LModule.C_any1 LModule.C_anyt LModule.C_take LModule.C_load LModule.C_load0 LModule.C_load1 LModule.C_fld LModule.C_box LModule.C_fold

theorem WB_toP (bare : Bool) (x : List LModule) : WB (toP bare x).es := by
  intro m hm d hd c hc
  simp only [toP, toS_es, List.mem_map] at hm
  obtain ⟨m0, _, rfl⟩ := hm
  simp only [toM, toS_es, List.mem_map] at hd
  obtain ⟨d0, _, rfl⟩ := hd
  simp only [toD, toS] at hc
  split at hc
  · simp at hc
  · obtain ⟨u, _, rfl⟩ := List.mem_map.1 hc
    exact Bind.C_len u
open Z in
def mf_laws_FnExactProgramTyped : MF := ⟨34, [(.t 2)], q (r [k 2 (.mov (b false))]) (q (r [k 3 (.mov (i 1000000))]) (q (r [m 8 0, m 9 3, k 10 (c 8 [t 8, t 9]), m 3 10]) (q (q (r [m 11 3, k 12 (.bin .lss (t 11) (i 0))]) (.cond (t 12) (q (r [k 2 (.mov (b true))]) .ret) .skip)) (q (r [m 13 0, k 14 (c 10 [t 13, b false]), k 15 (c 18 [t 14]), m 4 15]) (q (r [m 16 0, k 17 (c 10 [t 16, b false]), m 5 17]) (q (r [m 18 5, k 19 (c 19 [t 18]), m 6 19]) (q (q (r [m 20 6, m 21 4, k 22 (.beq true (t 20) (t 21))]) (.cond (t 22) (q (r [k 2 (.mov (b false))]) .ret) .skip)) (q (q (r [m 23 5, m 24 0, k 25 (c 10 [t 24, b false]), k 26 (c 12 [t 23, t 25]), k 27 (.not (t 26))]) (.cond (t 27) (q (r [k 2 (.mov (b false))]) .ret) .skip)) (q (r [m 28 0, k 29 (c 10 [t 28, b true]), k 30 (c 19 [t 29]), m 7 30]) (q (q (r [m 31 7, m 32 4, k 33 (.beq true (t 31) (t 32))]) (.cond (t 33) (q (r [k 2 (.mov (b false))]) .ret) .skip)) (q (r [k 2 (.mov (b true))]) .ret)))))))))))⟩
theorem fit_laws_FnExactProgramTyped : Fit Tryz.prog 5 Tryz.f5 mf_laws_FnExactProgramTyped := ⟨by kernel_rfl, Tryz.func5, by kernel_rfl, by kernel_rfl, by kernel_rfl, by kernel_rfl⟩
theorem lawProgramTyped_ct (x : Sl LModule) : Ct Tryz.prog 5 [x.I LModule.C] (.bool true) := by
  have hsz1 := szModuleS_ct x 1000000 (by decide)
  refine ct_of_run fit_laws_FnExactProgramTyped (by simp [mf_laws_FnExactProgramTyped]) (by simp [go_sem]) fun hd => ?_
  simp -implicitDefEqProofs [-List.map_take, -List.map_drop, go_sem, mf_laws_FnExactProgramTyped]
  by_cases hb1 : 1000000 < x.es.length + wModules (x.es.map LModule.core)
  · rw [szR_neg hb1] at hsz1
    have c1 := hsz1
    have hy := hy0
    have hdf := hy0
    exact wk1
  rw [szR_pos hb1] at hsz1
  obtain ⟨n1, hn1⟩ : ∃ n, n = 1000000 - (x.es.length + wModules (x.es.map LModule.core)) := ⟨_, rfl⟩
  rw [← hn1] at hsz1
  have hc1 : decide (((n1 : Nat) : Int) < 0) = false := by first | (simp; done) | (simp; omega)
  have hx : SmP (x.es.map LModule.core) := SmP_of_w _ (by rw [List.length_map]; omega)
  have hxt := toP_ct x true hx
  have hxf := toP_ct x false hx
  have hs := programTyped_ct (toP false x.es) (by rw [toP_core]; exact hx)
  have hi := iprogramTyped_ct (toP false x.es) (by rw [toP_core]; exact hx) (WB_toP _ _)
  have ht := iprogramTyped_ct (toP true x.es) (by rw [toP_core]; exact hx) (WB_toP _ _)
  rw [toP_core] at hs hi ht
  have hnx := intactP_ct x hx
  obtain ⟨r, hr⟩ : ∃ r, r = progTyped (x.es.map LModule.core) := ⟨_, rfl⟩
  rw [← hr] at hs hi ht
  have c1 := hsz1
  have c2 := hxf
  have c3 := hxt
  have c4 := hs
  have c5 := hi
  have c6 := ht
  have c7 := hnx
  have hy := hc1
  have hdf := hy0
  exact wk1
end Go.Mach
