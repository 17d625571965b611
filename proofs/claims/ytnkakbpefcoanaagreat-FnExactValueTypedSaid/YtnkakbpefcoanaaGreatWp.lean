import Derived.Test.YtnkakbpefcoanaaGreatMh
import Derived.Test.YtnkakbpefcoanaaGreatWb
import Derived.Test.YtnkakbpefcoanaaGreatDb
/- Where names lead, records, types that may be told: of the reference, walked. -/
set_option maxHeartbeats 4000000
namespace Go.Mach
open Go Go.Proofs
set_option linter.unusedVariables false
set_option linter.unusedSimpArgs false
attribute [local go_sem] Z.k Z.g Z.n Z.m Z.t Z.i Z.b Z.s Z.c Z.r Z.q run_seq run_skip run_reg run_blk run_exit run_ret run_cond cnd_true cnd_false kx_seq_normal kx_seq_exit kx_seq_ret kx_blk_normal kx_blk_same kx_blk_other kx_blk_ret kx_loop_exit kx_loop_ret kx_done ops_nil ops_plain ops_grd gv_tt gv_ff gv_tf gv_ft gv_tup stp_ok stp_ob stp_hp stp_bad stp_if get_t get_c putO_some putO_none put_same put_ne put_σ put_base withσ_τ withσ_σ withσ_base withσ_put withσ_withσ mk_τ mk_σ mk_base mk_withσ entry_τ entry_σ entry_base calm_nil calm_plain calm_grd cgv_tt cgv_ff cgv_tf cgv_ft cgv_tup cstp_ok cstp_ob cstp_if
attribute [local irreducible] Ct Co Cs
attribute [local go_sem] evalOp notV negV pickV binV intB seqV beqV catV lensV lenlV boxV_eq newV cellsOf cellV fadrV fldV fldC loadV loadC_ag loadC_one plainV isOwn iadrV storeV lk bdV bdL renO renL renV pureV pureL noOwnV noOwnL idxV slsV optI extV resL resV ret1 mmV cnviV cnvsV nilcV eqnV bslV bslGo appV elems okE appE getD_map okO_none okO_some strC intC Sl.I
attribute [local simp] Bind.eqa Use.eqa loadC_str loadC_int Bind.C_len Bind.C_pure Bind.C_noOwn Bind.C_cell Bind.C_bd Bind.C_bdL Bind.C_ren Bind.C_any Bind.C_any0 Bind.C_any1 Bind.C_anyt Bind.C_take Bind.C_load Bind.C_load0 Bind.C_load1 Bind.C_fld Bind.C_box Bind.C_fold Use.C_len Use.C_pure Use.C_noOwn Use.C_cell Use.C_bd Use.C_bdL Use.C_ren Use.C_any Use.C_any0 Use.C_any1 Use.C_anyt Use.C_take Use.C_load Use.C_load0 Use.C_load1 Use.C_fld Use.C_box Use.C_fold LExpr.C_len LExpr.C_pure LExpr.C_noOwn LExpr.C_cell LExpr.C_bd LExpr.C_bdL LExpr.C_ren LExpr.C_any LExpr.C_any0 LExpr.C_any1 LExpr.C_anyt LExpr.C_take LExpr.C_load LExpr.C_load0 LExpr.C_load1 LExpr.C_fld LExpr.C_box LExpr.C_fold LDecl.C_len LDecl.C_pure LDecl.C_noOwn LDecl.C_cell LDecl.C_bd LDecl.C_bdL LDecl.C_ren LDecl.C_any LDecl.C_any0 LDecl.C_any1 LDecl.C_anyt LDecl.C_take LDecl.C_load LDecl.C_load0 LDecl.C_load1 LDecl.C_fld LDecl.C_box LDecl.C_fold LModule.C_len LModule.C_pure LModule.C_noOwn LModule.C_cell LModule.C_bd LModule.C_bdL LModule.C_ren LModule.C_any LModule.C_any0 LModule.C_any1 LModule.C_anyt LModule.C_take LModule.C_load LModule.C_load0 LModule.C_load1 LModule.C_fld LModule.C_box LModule.C_fold
attribute [local go_sem] mix_nil mix_fplain mix_fgrd mix_oplain fg_tt fg_ff fg_tf fg_ft fg_tup fstp_ok fstp_ob fstp_if og_tt og_ff dstIn
attribute [local go_sem] mix_nilH mix_fplainH mix_fgrdH mix_oplainH fg_ttH fg_ffH fg_tfH fg_ftH fg_tupH fstp_okH fstp_obH fstp_ifH og_ttH og_ffH dstInS buildV fillC

def zeroLD : LDecl := ⟨0, [], ⟨[], [], true⟩, [], .mk 0 0 [] [] [] true⟩
theorem zeroLD_C : zeroLD.C = [.int .i64 0, .str [], .imm [] [] true, .str [], .int .i64 0, .int .i64 0, .str [], .imm [] [] true] := rfl
theorem at_map {α β : Type} (f : α → β) (l : List α) (k : Int) : at' (l.map f) k = (at' l k).map f := by
  unfold at'
  split
  · rfl
  · rw [List.getElem?_map]
def declL (p : List LModule) (a : Int × Int) : Option LDecl := match at' p a.1 with
  | none => none
  | some m => at' m.decls.es a.2
theorem declL_core (p : List LModule) (a : Int × Int) : (declL p a).map LDecl.core = declP (p.map LModule.core) a := by
  unfold declL declP
  rw [at_map]
  cases at' p a.1 with
  | none => rfl
  | some m => simp only [Option.map_some, LModule.core_decls, at_map]
def rsl (p : List LModule) (mi : Nat) (name : Str) : Option LDecl := declL p (foundP (p.map LModule.core) mi name)
theorem rsl_core (p : List LModule) (mi : Nat) (name : Str) : (rsl p mi name).map LDecl.core = resolve (p.map LModule.core) mi name := declL_core _ _
theorem lfound_cases {p : List LModule} (hp : programOk (p.map LModule.core) = true) {mi : Nat} (hm : mi < p.length) (name : Str) :
    (foundP (p.map LModule.core) mi name = (-1, -1) ∧ declAt (p[mi]).core name = -1 ∧ useAt (p[mi]).core name = -1 ∧ rsl p mi name = none) ∨
    (∃ (k : Nat) (hk : k < (p[mi]).decls.es.length), foundP (p.map LModule.core) mi name = ((mi : Int), (k : Int)) ∧ declAt (p[mi]).core name = k ∧ ((p[mi]).decls.es[k]).name = name ∧ rsl p mi name = some (p[mi]).decls.es[k]) ∨
    ∃ (i j k : Nat) (hi : i < (p[mi]).uses.es.length) (hj : j < p.length) (hk : k < (p[j]).decls.es.length), foundP (p.map LModule.core) mi name = ((j : Int), (k : Int)) ∧ declAt (p[mi]).core name = -1 ∧ useAt (p[mi]).core name = i ∧ ((p[mi]).uses.es[i]).name = name ∧
      moduleAt (p.map LModule.core) ((p[mi]).uses.es[i]).module = j ∧ (p[j]).name = ((p[mi]).uses.es[i]).module ∧ declAt (p[j]).core name = k ∧ ((p[j]).decls.es[k]).name = name ∧ rsl p mi name = some (p[j]).decls.es[k] := by
  have h0 : (p.map LModule.core)[mi]? = some (p[mi]).core := by rw [List.getElem?_map, List.getElem?_eq_getElem hm]; rfl
  have hr : ∀ a, foundP (p.map LModule.core) mi name = a → rsl p mi name = declL p a := fun a h => by rw [rsl, h]
  rcases found_cases hp h0 name with ⟨h1, h2, h3⟩ | ⟨k, d, h1, h2, h3, h4⟩ | ⟨i, j, k, u, o, d, h1, h2, h3, h4, h5, h6, h7, h8, h9, h10, h11⟩
  · exact .inl ⟨h1, h2, h3, by rw [hr _ h1]; simp [declL, at']⟩
  · rw [LModule.core_decls, List.getElem?_map] at h3
    cases hd : (p[mi]).decls.es[k]? with
    | none => rw [hd] at h3; simp at h3
    | some x =>
      rw [hd] at h3
      obtain ⟨hk, hx⟩ := List.getElem?_eq_some_iff.1 hd
      simp only [Option.map_some, Option.some.injEq] at h3
      refine .inr (.inl ⟨k, hk, h1, h2, by rw [hx, ← h4, ← h3]; rfl, ?_⟩)
      rw [hr _ h1]
      simp [declL, at_nat, List.getElem?_eq_getElem hm, hd, hx]
  · rw [List.getElem?_map] at h7
    cases ho : p[j]? with
    | none => rw [ho] at h7; simp at h7
    | some x =>
      obtain ⟨hj, hx⟩ := List.getElem?_eq_some_iff.1 ho
      rw [ho] at h7
      simp only [Option.map_some, Option.some.injEq] at h7
      subst h7
      subst hx
      rw [LModule.core_decls, List.getElem?_map] at h10
      cases hd : (p[j]).decls.es[k]? with
      | none => rw [hd] at h10; simp at h10
      | some y =>
        rw [hd] at h10
        obtain ⟨hk, hy⟩ := List.getElem?_eq_some_iff.1 hd
        simp only [Option.map_some, Option.some.injEq] at h10
        have h4' : (p[mi]).uses.es[i]? = some u := h4
        obtain ⟨hi, hu⟩ := List.getElem?_eq_some_iff.1 h4'
        subst hu
        refine .inr (.inr ⟨i, j, k, hi, hj, hk, h1, h2, h3, h5, h6, h8, h9, by rw [hy, ← h11, ← h10]; rfl, ?_⟩)
        rw [hr _ h1]
        simp [declL, at_nat, List.getElem?_eq_getElem hj, hd, hy]
theorem lres_cases {p : List LModule} (hp : programOk (p.map LModule.core) = true) {mi : Nat} (hm : mi < p.length) (name : Str) :
    (foundP (p.map LModule.core) mi name = (-1, -1) ∧ rsl p mi name = none) ∨
    ∃ (j k : Nat) (hj : j < p.length) (hk : k < (p[j]).decls.es.length), foundP (p.map LModule.core) mi name = ((j : Int), (k : Int)) ∧ rsl p mi name = some (p[j]).decls.es[k] := by
  rcases lfound_cases hp hm name with ⟨h1, _, _, h2⟩ | ⟨k, hk, h1, _, _, h2⟩ | ⟨i, j, k, hi, hj, hk, h1, _, _, _, _, _, _, _, h2⟩
  · exact .inl ⟨h1, h2⟩
  · exact .inr ⟨mi, k, hm, hk, h1, h2⟩
  · exact .inr ⟨j, k, hj, hk, h1, h2⟩
open Z in
def mf_spec_nowhere : MF := ⟨2, [(.cell 0 2 true)], q (r [k 0 (.alloc 130 [.int .i64 0, .int .i64 0])]) (q (r [k 1 (.build [.int .i64 0, .int .i64 0] [(0, (1, i (-1))), (1, (1, i (-1)))]), n (.store 2 (t 0) (t 1))]) .ret)⟩
theorem fit_spec_nowhere : Fit Tryz.prog 169 Tryz.f169 mf_spec_nowhere := ⟨by kernel_rfl, Tryz.func169, by kernel_rfl, by kernel_rfl, by kernel_rfl, by kernel_rfl⟩
theorem nowhere_ct : Ct Tryz.prog 169 [] (.agg [.int .i64 (-1), .int .i64 (-1)]) := by
  refine ct_of_run fit_spec_nowhere (by simp [mf_spec_nowhere]) (by simp [go_sem]) fun hd => ?_
  simp -implicitDefEqProofs [-List.map_take, -List.map_drop, go_sem, mf_spec_nowhere]
  have hy := hy0
  have hdf := hy0
  exact wk0
open Z in
def mf_spec_found : MF := ⟨49, [(.cell 6 2 true)], q (r [k 6 (.alloc 130 [.int .i64 0, .int .i64 0])]) (q (q (r [m 10 0, m 11 1, k 12 (.iadr 3 (t 10) (t 11)), k 13 (.load true 3 (t 12)), m 14 2, k 15 (c 65 [t 13, t 14]), m 7 15]) (q (r [m 16 7, k 17 (.bin .geq (t 16) (i 0))]) (.cond (t 17) (q (r [m 18 1, m 19 7, k 20 (.build [.int .i64 0, .int .i64 0] [(0, (1, t 18)), (1, (1, t 19))]), n (.store 2 (t 6) (t 20))]) .ret) .skip))) (q (q (r [m 21 0, m 22 1, k 23 (.iadr 3 (t 21) (t 22)), k 24 (.load true 3 (t 23)), m 25 2, k 26 (c 123 [t 24, t 25]), m 8 26]) (q (r [m 27 8, k 28 (.bin .geq (t 27) (i 0))]) (.cond (t 28) (q (r [m 29 0, m 30 0, m 31 1, k 32 (.iadr 3 (t 30) (t 31)), k 33 (.fadr 1 (t 32)), k 34 (.load false 1 (t 33)), m 35 8, k 36 (.iadr 2 (t 34) (t 35)), k 37 (.fadr 0 (t 36)), k 38 (.load false 1 (t 37)), k 39 (c 51 [t 29, t 38]), m 9 39]) (q (r [m 40 9, m 41 0, m 42 9, k 43 (.iadr 3 (t 41) (t 42)), k 44 (.load true 3 (t 43)), m 45 2, k 46 (c 65 [t 44, t 45]), k 47 (.build [.int .i64 0, .int .i64 0] [(0, (1, t 40)), (1, (1, t 46))]), n (.store 2 (t 6) (t 47))]) .ret)) .skip))) (q (r [k 48 (c 169 []), n (.store 2 (t 6) (t 48))]) .ret)))⟩
theorem fit_spec_found : Fit Tryz.prog 116 Tryz.f116 mf_spec_found := ⟨by kernel_rfl, Tryz.func116, by kernel_rfl, by kernel_rfl, by kernel_rfl, by kernel_rfl⟩
theorem found_ct (p : Sl LModule) (mi : Nat) (name : Str) (hp : programOk (p.es.map LModule.core) = true) (hmi : mi < p.es.length) :
    Ct Tryz.prog 116 [p.I LModule.C, .int .i64 mi, .str name] (.agg [.int .i64 (foundP (p.es.map LModule.core) mi name).1, .int .i64 (foundP (p.es.map LModule.core) mi name).2]) := by
  refine ct_of_run fit_spec_found (by simp [mf_spec_found]) (by simp [go_sem]) fun hd => ?_
  simp -implicitDefEqProofs [-List.map_take, -List.map_drop, go_sem, mf_spec_found]
  rcases lfound_cases hp hmi name with ⟨h1, h2, h3, _⟩ | ⟨k, hk, h1, h2, _, _⟩ | ⟨i, j, k, hi, hj, hk, h1, h2, h3, h4, h5, h6, h7, _, _⟩
  · rw [h1]
    have d1 := fun a1 => declAt_ct p.es[mi] a1
    have d2 := fun a1 => useAt_ct p.es[mi] a1
    have c1 := nowhere_ct
    have hy := And.intro (hmi) (And.intro (h2) (h3))
    have hdf := hy0
    exact wk1
  · rw [h1]
    have d1 := fun a1 => declAt_ct p.es[mi] a1
    have hy := And.intro (hmi) (h2)
    have hdf := hy0
    exact wk1
  · rw [h1]
    have d1 := fun a1 => declAt_ct p.es[mi] a1
    have d2 := fun a1 => useAt_ct p.es[mi] a1
    have d3 := fun a1 => moduleAt_ct p a1
    have d4 := fun a1 => declAt_ct p.es[j] a1
    have hy := And.intro (hmi) (And.intro (h2) (And.intro (h3) (And.intro (hi) (And.intro (h5) (And.intro (hj) (h7))))))
    have hdf := hy0
    exact wk1
def funS (d : Option LDecl) : LDecl × Bool := match d with
  | some d => if d.kind == 0 then (d, true) else (zeroLD, false)
  | none => (zeroLD, false)
open Z in
def mf_spec_function : MF := ⟨41, [(.cell 6 8 true), (.t 7)], q (r [k 6 (.alloc 72 [.int .i64 0, .str [], .imm [] [] true, .str [], .int .i64 0, .int .i64 0, .str [], .imm [] [] true]), k 7 (.mov (b false))]) (q (r [m 9 0, m 10 1, m 11 2, k 12 (c 116 [t 9, t 10, t 11]), k 8 (.alloc 130 [.int .i64 0, .int .i64 0]), n (.store 2 (t 8) (t 12))]) (q (q (.dreg [(k 13 (.fadr 0 (t 8)), []), (k 14 (.load false 1 (t 13)), [0]), (k 15 (.bin .lss (t 14) (i 0)), [1]), (m 16 15, [2]), (g 17 (.mov (t 0)) 16 false, [3]), (g 18 (.fadr 0 (t 8)) 16 false, [3]), (g 19 (.load false 1 (t 18)) 16 false, [5, 3]), (g 20 (.iadr 3 (t 17) (t 19)) 16 false, [4, 6, 3]), (g 21 (.fadr 2 (t 20)) 16 false, [7, 3]), (g 22 (.load false 1 (t 21)) 16 false, [8, 3]), (g 23 (.fadr 1 (t 8)) 16 false, [3]), (g 24 (.load false 1 (t 23)) 16 false, [10, 3]), (g 25 (.iadr 8 (t 22) (t 24)) 16 false, [9, 11, 3]), (g 26 (.fadr 0 (t 25)) 16 false, [12, 3]), (g 27 (.load false 1 (t 26)) 16 false, [13, 3]), (g 28 (.bin .neq (t 27) (i 0)) 16 false, [14, 3]), (k 29 (.pick (t 16) (b true) (t 28)), [3, 15])]) (.cond (t 29) (q (r [k 30 (.build [.int .i64 0, .str [], .imm [] [] true, .str [], .int .i64 0, .int .i64 0, .str [], .imm [] [] true] []), n (.store 8 (t 6) (t 30)), k 7 (.mov (b false))]) .ret) .skip)) (q (.dreg [(m 31 0, []), (k 32 (.fadr 0 (t 8)), []), (k 33 (.load false 1 (t 32)), [1]), (k 34 (.iadr 3 (t 31) (t 33)), [0, 2]), (k 35 (.fadr 2 (t 34)), [3]), (k 36 (.load false 1 (t 35)), [4]), (k 37 (.fadr 1 (t 8)), []), (k 38 (.load false 1 (t 37)), [6]), (k 39 (.iadr 8 (t 36) (t 38)), [5, 7]), (k 40 (.load true 8 (t 39)), [8]), (n (.store 8 (t 6) (t 40)), [9, 0, 1, 2, 3, 4, 5, 6, 7, 8, 9]), (k 7 (.mov (b true)), [10, 0, 1, 2, 3, 4, 5, 6, 7, 8, 9, 10])]) .ret)))⟩
theorem fit_spec_function : Fit Tryz.prog 161 Tryz.f161 mf_spec_function := ⟨by kernel_rfl, Tryz.func161, by kernel_rfl, by kernel_rfl, by kernel_rfl, by kernel_rfl⟩
theorem function_ct (p : Sl LModule) (mi : Nat) (name : Str) (hp : programOk (p.es.map LModule.core) = true) (hmi : mi < p.es.length) :
    Ct Tryz.prog 161 [p.I LModule.C, .int .i64 mi, .str name] (.tup [.agg (funS (rsl p.es mi name)).1.C, .bool (funS (rsl p.es mi name)).2]) := by
  refine ct_of_run fit_spec_function (by simp [mf_spec_function]) (by simp [go_sem]) fun hd => ?_
  simp -implicitDefEqProofs [-List.map_take, -List.map_drop, go_sem, mf_spec_function]
  have hf := found_ct p mi name hp hmi
  rcases lres_cases hp hmi name with ⟨h1, h2⟩ | ⟨j, k, hj, hk, h1, h2⟩
  · rw [h1] at hf
    rw [h2, funS]
    have c1 := hf
    have hy := hy0
    have e1 := @zeroLD_C
    have hdf := @e1
    exact wk1
  · rw [h1] at hf
    rw [h2, funS]
    repeat' first
      | ((first | refine gv_split (fun h => ?_) (fun h => ?_) | refine cnd_split (fun h => ?_) (fun h => ?_) | refine cgv_split (fun h => ?_) (fun h => ?_)) <;> (try (have hp := h; simp at hp)) <;> simp -implicitDefEqProofs [-List.map_take, -List.map_drop, go_sem, h, hj, hk])
      | (refine And.intro (by first | omega | (simp only [maxLen]; omega) | (simp_all; done) | (simp_all; omega)) ?_; try simp -implicitDefEqProofs [-List.map_take, -List.map_drop, go_sem, hj, hk])
      | ((first | refine stp_ct (hf) (by simp [go_sem, hj, hk]) ?_ ?_ | refine cstp_ct (hf) (by simp [go_sem, hj, hk]) ?_ ?_); (simp [go_sem]); simp -implicitDefEqProofs [-List.map_take, -List.map_drop, go_sem, hj, hk])
      | (refine run_mixS (X := List PV) (fun c => [some ⟨[c], 8, 72, false, false⟩, some ⟨[[.int .i64 j, .int .i64 k]], 2, 130, false, false⟩]) [] ⟨_, rfl⟩ (by decide) ?_; simp -implicitDefEqProofs [-List.map_take, -List.map_drop, go_sem, hj, hk])
      | (refine fg_splitH (fun h => ?_) (fun h => ?_) <;> (try (have hp := h; simp at hp)) <;> simp -implicitDefEqProofs [-List.map_take, -List.map_drop, go_sem, h, hj, hk])
      | ((first | refine fstp_ctH (hf) (by simp [go_sem, hj, hk]) ?_ ?_); (simp [go_sem]); simp -implicitDefEqProofs [-List.map_take, -List.map_drop, go_sem, hj, hk])
      | (refine ostp_hpH ⟨_, rfl⟩ ?_ ?_; (focus (first | trivial | omega | (simp [go_sem]; done) | (simp [go_sem]; omega) | (simp [go_sem, Bind.C]; omega))); simp -implicitDefEqProofs [-List.map_take, -List.map_drop, go_sem, hj, hk])
      | (refine ostp_okH ⟨_, rfl⟩ ?_; simp -implicitDefEqProofs [-List.map_take, -List.map_drop, go_sem, hj, hk])
      | (refine mix_ogrdH ?_; simp -implicitDefEqProofs [-List.map_take, -List.map_drop, go_sem, hj, hk])
      | (refine run_dreg' (by decide) ?_; simp -implicitDefEqProofs [-List.map_take, -List.map_drop, go_sem, hj, hk])
      | ((first | refine end_tup _ (by simp) (by simp [go_sem]; rfl) (by simp [go_sem]) ?_); first | (simp [go_sem, *, zeroLD_C]; done) | grind [zeroLD_C] | (simp [go_sem, zeroLD_C]; grind [zeroLD_C]) | (simp_all [go_sem, zeroLD_C]; done) | (simp_all [go_sem, zeroLD_C]; omega))
def recL : List LModule → Str → Option LDecl
  | [], _ => none
  | m :: r, name => match at' m.decls.es (declAt m.core name) with
    | some d => if d.kind == 1 then some d else recL r name
    | none => recL r name
theorem recL_core (name : Str) : ∀ (p : List LModule), (recL p name).map LDecl.core = recS (p.map LModule.core) name
  | [] => rfl
  | m :: r => by
    have ih := recL_core name r
    simp only [recL, List.map_cons, recS, LModule.core_decls, at_map]
    cases at' m.decls.es (declAt m.core name) with
    | none => simpa using ih
    | some d =>
      simp only [Option.map_some]
      have : d.core.kind = d.kind := LDecl.core_kind d
      rw [this]
      cases d.kind == 1 <;> simp [ih]
theorem ldeclAt_cases (m : LModule) (name : Str) : (declAt m.core name = -1 ∧ at' m.decls.es (declAt m.core name) = none) ∨ ∃ (k : Nat) (h : k < m.decls.es.length), declAt m.core name = k ∧ at' m.decls.es (declAt m.core name) = some (m.decls.es[k]) := by
  rcases declAt_cases m name with h1 | ⟨k, hk, h1, _⟩
  · exact .inl ⟨h1, by simp [h1, at']⟩
  · exact .inr ⟨k, hk, h1, by rw [h1, at_nat, List.getElem?_eq_getElem hk]⟩
def record_L (p : Sl LModule) (name : Str) (i : Nat) (_ : Unit) : St := ⟨lk [(0, p.I LModule.C), (1, .str name), (4, .ptr 0 1 0 0), (6, .int .i64 i)], [some ⟨[[.int .i64 0, .str [], .imm [] [] true, .str [], .int .i64 0, .int .i64 0, .str [], .imm [] [] true]], 8, 72, false, false⟩], []⟩
open Z in
def mf_spec_record : MF := ⟨43, [(.cell 4 8 true), (.t 5)], q (r [k 4 (.alloc 72 [.int .i64 0, .str [], .imm [] [] true, .str [], .int .i64 0, .int .i64 0, .str [], .imm [] [] true]), k 5 (.mov (b false))]) (q (q (r [k 6 (.mov (i 0))]) (.blk 0 (.loop (q (q (r [m 8 6, m 9 0, k 10 (.lenl (t 9)), k 11 (.bin .lss (t 8) (t 10))]) (.cond (t 11) .skip (.exit 0))) (q (.blk 1 (q (r [m 14 0, m 15 6, k 16 (.iadr 3 (t 14) (t 15)), k 17 (.load true 3 (t 16)), m 18 1, k 19 (c 65 [t 17, t 18]), m 7 19]) (q (r [m 20 7, k 21 (.bin .geq (t 20) (i 0)), m 22 21, g 23 (.mov (t 0)) 22 true, g 24 (.mov (t 6)) 22 true, g 25 (.iadr 3 (t 23) (t 24)) 22 true, g 26 (.fadr 2 (t 25)) 22 true, g 27 (.load false 1 (t 26)) 22 true, g 28 (.mov (t 7)) 22 true, g 29 (.iadr 8 (t 27) (t 28)) 22 true, g 30 (.fadr 0 (t 29)) 22 true, g 31 (.load false 1 (t 30)) 22 true, g 32 (.bin .eql (t 31) (i 1)) 22 true, k 33 (.pick (t 22) (t 32) (b false))]) (.cond (t 33) (q (r [m 34 0, m 35 6, k 36 (.iadr 3 (t 34) (t 35)), k 37 (.fadr 2 (t 36)), k 38 (.load false 1 (t 37)), m 39 7, k 40 (.iadr 8 (t 38) (t 39)), k 41 (.load true 8 (t 40)), n (.store 8 (t 4) (t 41)), k 5 (.mov (b true))]) .ret) .skip)))) (r [m 12 6, k 13 (.bin .add (t 12) (i 1)), m 6 13])))))) (q (r [k 42 (.build [.int .i64 0, .str [], .imm [] [] true, .str [], .int .i64 0, .int .i64 0, .str [], .imm [] [] true] []), n (.store 8 (t 4) (t 42)), k 5 (.mov (b false))]) .ret))⟩
theorem fit_spec_record : Fit Tryz.prog 87 Tryz.f87 mf_spec_record := ⟨by kernel_rfl, Tryz.func87, by kernel_rfl, by kernel_rfl, by kernel_rfl, by kernel_rfl⟩
theorem record_ct (p : Sl LModule) (name : Str) :
    Ct Tryz.prog 87 [p.I LModule.C, .str name] (.tup [.agg ((recL p.es name).getD zeroLD).C, .bool (recL p.es name).isSome]) := by
  refine ct_of_run fit_spec_record (by simp [mf_spec_record]) (by simp [go_sem]) fun hd => ?_
  simp -implicitDefEqProofs [-List.map_take, -List.map_drop, go_sem, mf_spec_record]
  have hm : p.es.length ≤ maxLen := sl_deep hd.1
  refine run_iter (p.es.length) (record_L p name) (fun i a => recL (p.es.drop i) name = recL p.es name) () (gh_auto (by simp [go_sem, record_L])) (by first | (simp; done) | (simp [zeroLD_C]; done) | (simp [zeroLD_C]; omega) | grind) ?_
  intro i a hi hj
  simp -implicitDefEqProofs [-List.map_take, -List.map_drop, go_sem, record_L]
  refine cnd_split (fun hc => ?_) (fun hc => ?_)
  · have hlt : i < p.es.length := by first | (simpa using hc) | (simp at hc; omega)
    rw [List.drop_eq_getElem_cons (l := p.es) (by omega)] at hj
    simp only [List.map_cons, recL] at hj
    simp -implicitDefEqProofs [-List.map_take, -List.map_drop, go_sem, hlt]
    rcases ldeclAt_cases p.es[i] name with ⟨h1, h2⟩ | ⟨k, hk, h1, h2⟩
    · rw [h2] at hj
      have d1 := fun a1 => declAt_ct p.es[i] a1
      have hy := And.intro (hlt) (h1)
      have hdf := hy0
      have eL := @record_L.eq_1
      have hm0 := hm
      have hlt0 := hlt
      exact wk1n
    · rw [h2] at hj
      have d1 := fun a1 => declAt_ct p.es[i] a1
      have hy := And.intro (hlt) (And.intro (h1) (hk))
      have hdf := hy0
      have eL := @record_L.eq_1
      have hm0 := hm
      have hlt0 := hlt
      exact wk1n
  · have hge : p.es.length ≤ i := by first | (simpa using hc) | (simp at hc; omega)
    rw [List.drop_of_length_le (l := p.es) (by omega)] at hj
    simp only [List.map_nil, recL] at hj
    try simp -implicitDefEqProofs [-List.map_take, -List.map_drop, go_sem]
    have hy := hy0
    have e1 := @zeroLD_C
    have hdf := @e1
    exact wk0
open Z in
def mf_spec_seen : MF := ⟨38, [(.t 6)], q (r [k 6 (.mov (b false))]) (q (r [m 11 2, k 12 (c 83 [t 11]), m 10 12, k 13 (.ext (t 10) 0), k 14 (.ext (t 10) 1), m 7 13, m 8 14]) (q (q (r [m 15 7, k 16 (c 84 [t 15])]) (.cond (t 16) (q (r [k 6 (.mov (b true))]) .ret) .skip)) (q (r [m 17 0, m 18 1, m 19 7, k 20 (c 116 [t 17, t 18, t 19]), k 9 (.alloc 130 [.int .i64 0, .int .i64 0]), n (.store 2 (t 9) (t 20))]) (q (.dreg [(k 21 (.fadr 0 (t 9)), []), (k 22 (.load false 1 (t 21)), [0]), (k 23 (.bin .geq (t 22) (i 0)), [1]), (m 24 23, [2]), (g 25 (.mov (t 0)) 24 true, [3]), (g 26 (.fadr 0 (t 9)) 24 true, [3]), (g 27 (.load false 1 (t 26)) 24 true, [5, 3]), (g 28 (.iadr 3 (t 25) (t 27)) 24 true, [4, 6, 3]), (g 29 (.fadr 2 (t 28)) 24 true, [7, 3]), (g 30 (.load false 1 (t 29)) 24 true, [8, 3]), (g 31 (.fadr 1 (t 9)) 24 true, [3]), (g 32 (.load false 1 (t 31)) 24 true, [10, 3]), (g 33 (.iadr 8 (t 30) (t 32)) 24 true, [9, 11, 3]), (g 34 (.fadr 0 (t 33)) 24 true, [12, 3]), (g 35 (.load false 1 (t 34)) 24 true, [13, 3]), (g 36 (.bin .eql (t 35) (i 1)) 24 true, [14, 3]), (k 37 (.pick (t 24) (t 36) (b false)), [3, 15]), (m 6 37, [16, 3, 0, 1, 2, 3, 4, 5, 6, 7, 8, 9, 10, 11, 12, 13, 14, 15, 16])]) .ret))))⟩
theorem fit_spec_seen : Fit Tryz.prog 186 Tryz.f186 mf_spec_seen := ⟨by kernel_rfl, Tryz.func186, by kernel_rfl, by kernel_rfl, by kernel_rfl, by kernel_rfl⟩
theorem seen_ct (p : Sl LModule) (mi : Nat) (t : Str) (hp : programOk (p.es.map LModule.core) = true) (hmi : mi < p.es.length) :
    Ct Tryz.prog 186 [p.I LModule.C, .int .i64 mi, .str t] (.bool (seenP (p.es.map LModule.core) mi t)) := by
  refine ct_of_run fit_spec_seen (by simp [mf_spec_seen]) (by simp [go_sem]) fun hd => ?_
  simp -implicitDefEqProofs [-List.map_take, -List.map_drop, go_sem, mf_spec_seen]
  have hf := found_ct p mi (coreOf t).1 hp hmi
  have hs : seenP (p.es.map LModule.core) mi t = (isPlain (coreOf t).1 || kindIs 1 ((rsl p.es mi (coreOf t).1).map LDecl.core)) := by rw [rsl_core]; rfl
  rw [hs]
  rcases lres_cases hp hmi (coreOf t).1 with ⟨h1, h2⟩ | ⟨j, k, hj, hk, h1, h2⟩
  · rw [h1] at hf
    rw [h2]
    have c1 := coreOf_ct t
    have d1 := fun a1 => isPlain_ct a1
    have c2 := hf
    have hy := hy0
    have e1 := @kindIs.eq_1
    have e2 := @kindIs.eq_2
    have hdf := And.intro (@e1) (@e2)
    exact wk1
  · rw [h1] at hf
    rw [h2]
    have c1 := coreOf_ct t
    have d1 := fun a1 => isPlain_ct a1
    have c2 := hf
    have hy := And.intro (hj) (hk)
    have e1 := @kindIs.eq_1
    have e2 := @kindIs.eq_2
    have e3 := @LDecl.core_kind
    have hdf := And.intro (@e1) (And.intro (@e2) (@e3))
    exact wk1
theorem item_len {t : Str} (h : itemOk t = true) : 2 ≤ t.length := by
  have h1 := ne_nil_of_ok (item_typeOk h)
  have h2 : 0 < (mid t).length := by
    cases hm : mid t with
    | nil => exact absurd hm h1
    | cons a b => simp
  simp [mid] at h2
  omega
theorem core_len : ∀ (n : Nat) (t : Str), t.length ≤ n → t.length = (coreOf t).1.length + 2 * (coreOf t).2
  | 0, t, h => by
    have : t = [] := List.eq_nil_of_length_eq_zero (by omega)
    subst this
    rw [coreOf_done (by decide)]
    rfl
  | n + 1, t, h => by
    cases hb : brk t with
    | false => rw [coreOf_done hb]; simp
    | true =>
      have h1 := mid_len hb
      have h2 := core_len n (mid t) (by omega)
      rw [coreOf_more hb]
      simp only
      omega
theorem typeOk_len {t : Str} (h : typeOk t = true) : t.length ≤ 12 := by
  have h1 := core_len t.length t (Nat.le_refl _)
  simp only [typeOk, Bool.and_eq_true, decide_eq_true_eq, Bool.or_eq_true] at h
  obtain ⟨h2, h3⟩ := h
  have h4 : (coreOf t).1.length ≤ 8 := by
    rcases h3 with h3 | h3
    · simp only [isPlain, Bool.or_eq_true, beq_iff_eq] at h3
      rcases h3 with h3 | h3 | h3 <;> rw [h3] <;> decide
    · simp only [isName, inR, Bool.and_eq_true, decide_eq_true_eq] at h3
      omega
  omega
open Z in
def mf_spec_TypeItem : MF := ⟨17, [(.t 2), (.t 3)], q (r [k 2 (.mov (s [])), k 3 (.mov (b false))]) (q (q (r [m 4 0, k 5 (c 39 [t 4]), k 6 (.not (t 5)), m 7 6, g 8 (.mov (t 0)) 7 false, g 9 (.idx (t 8) (i 0)) 7 false, g 10 (.bin .neq (t 9) (.c (.int .u8 91))) 7 false, k 11 (.pick (t 7) (b true) (t 10))]) (.cond (t 11) (q (r [k 2 (.mov (s [])), k 3 (.mov (b false))]) .ret) .skip)) (q (r [m 12 0, m 13 0, k 14 (.lens (t 13)), k 15 (.bin .sub (t 14) (i 1)), k 16 (.sls (t 12) (some (i 1)) (some (t 15))), m 2 16, k 3 (.mov (b true))]) .ret))⟩
theorem fit_spec_TypeItem : Fit Tryz.prog 86 Tryz.f86 mf_spec_TypeItem := ⟨by kernel_rfl, Tryz.func86, by kernel_rfl, by kernel_rfl, by kernel_rfl, by kernel_rfl⟩
theorem typeItem_ct (t : Str) : Ct Tryz.prog 86 [.str t] (.tup [.str (itemS t), .bool (itemOk t)]) := by
  refine ct_of_run fit_spec_TypeItem (by simp [mf_spec_TypeItem]) (by simp [go_sem]) fun hd => ?_
  simp -implicitDefEqProofs [-List.map_take, -List.map_drop, go_sem, mf_spec_TypeItem]
  have h1 := typeOk_ct t
  cases ok : typeOk t with
  | false =>
    rw [ok] at h1
    have h2 : itemOk t = false := by simp [itemOk, ok]
    have c1 := h1
    have hy := h2
    have e1 := @itemS.eq_1
    have hdf := @e1
    exact wk1
  | true =>
    rw [ok] at h1
    have hl : 0 < t.length := by have := ne_nil_of_ok ok; cases t; contradiction; simp
    have h3 := item_eq ok
    cases hh : headL t with
    | false =>
      rw [hh] at h3
      have hb : (byteAt t 0 != 91) = true := by simp only [bne, Bool.not_eq_true']; exact hh
      have c1 := h1
      have hy := And.intro (h3) (And.intro (hb) (hl))
      have e1 := @itemS.eq_1
      have hdf := @e1
      exact wk1
    | true =>
      rw [hh] at h3
      have hb : (byteAt t 0 != 91) = false := by simp only [bne, Bool.not_eq_false']; exact hh
      have hlen := item_len h3
      have hw : IntKind.i64.wrap ((t.length : Int) - 1) = (t.length : Int) - 1 := wrap_small (by omega) (by have := typeOk_len ok; omega)
      have hwm : mid t = (List.take (t.length - 1) t).tail := by simp [mid]
      have c1 := h1
      have hy := And.intro (h3) (And.intro (hb) (And.intro (hl) (hw)))
      have e1 := @itemS.eq_1
      have hdf := @e1
      exact wk1
open Z in
def mf_spec_TypeList : MF := ⟨17, [(.t 2), (.t 3)], q (r [k 2 (.mov (s [])), k 3 (.mov (b false))]) (q (q (r [m 4 0, k 5 (c 39 [t 4]), k 6 (.not (t 5)), m 7 6, g 8 (.mov (t 0)) 7 false, g 9 (.cat (s [91]) (t 8)) 7 false, g 10 (.cat (t 9) (s [93])) 7 false, g 11 (c 39 [t 10]) 7 false, g 12 (.not (t 11)) 7 false, k 13 (.pick (t 7) (b true) (t 12))]) (.cond (t 13) (q (r [k 2 (.mov (s [])), k 3 (.mov (b false))]) .ret) .skip)) (q (r [m 14 0, k 15 (.cat (s [91]) (t 14)), k 16 (.cat (t 15) (s [93])), m 2 16, k 3 (.mov (b true))]) .ret))⟩
theorem fit_spec_TypeList : Fit Tryz.prog 219 Tryz.f219 mf_spec_TypeList := ⟨by kernel_rfl, Tryz.func219, by kernel_rfl, by kernel_rfl, by kernel_rfl, by kernel_rfl⟩
theorem typeList_ct (t : Str) : Ct Tryz.prog 219 [.str t] (.tup [.str (listS t), .bool (listOk t)]) := by
  refine ct_of_run fit_spec_TypeList (by simp [mf_spec_TypeList]) (by simp [go_sem]) fun hd => ?_
  simp -implicitDefEqProofs [-List.map_take, -List.map_drop, go_sem, mf_spec_TypeList]
  have h1 := typeOk_ct t
  cases ok : typeOk t with
  | false =>
    rw [ok] at h1
    have h2 : listOk t = false := by simp [listOk, ok]
    have c1 := h1
    have hy := h2
    have e1 := @listS.eq_1
    have hdf := @e1
    exact wk1
  | true =>
    rw [ok] at h1
    have hlen := typeOk_len ok
    have hs1 : 1 + t.length ≤ maxLen := by simp only [maxLen]; omega
    have hs2 : 1 + t.length + 1 ≤ maxLen := by simp only [maxLen]; omega
    have h2 : listOk t = typeOk ([91] ++ t ++ [93]) := by simp [listOk, ok]
    have h4 := typeOk_ct ([91] ++ t ++ [93])
    rw [← h2] at h4
    have c1 := h1
    have c2 := h4
    have hy := hy0
    have e1 := @listS.eq_1
    have hdf := @e1
    exact wk1
end Go.Mach
