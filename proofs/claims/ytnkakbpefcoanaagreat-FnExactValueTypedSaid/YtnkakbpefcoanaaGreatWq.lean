import Derived.Test.YtnkakbpefcoanaaGreatMh
import Derived.Test.YtnkakbpefcoanaaGreatWp
import Derived.Test.YtnkakbpefcoanaaGreatWc
/- Types that may be told, records, names in reach: of the program, walked. -/
set_option maxHeartbeats 4000000
namespace Go.Mach
open Go Go.Proofs
set_option linter.unusedVariables false
set_option linter.unusedSimpArgs false
attribute [local go_sem] Z.k Z.g Z.n Z.m Z.t Z.i Z.b Z.s Z.c Z.r Z.q run_seq run_skip run_reg run_blk run_exit run_ret run_cond cnd_true cnd_false kx_seq_normal kx_seq_exit kx_seq_ret kx_blk_normal kx_blk_same kx_blk_other kx_blk_ret kx_loop_exit kx_loop_ret kx_done ops_nil ops_plain ops_grd gv_tt gv_ff gv_tf gv_ft gv_tup stp_ok stp_ob stp_hp stp_bad stp_if get_t get_c putO_some putO_none put_same put_ne put_σ put_base withσ_τ withσ_σ withσ_base withσ_put withσ_withσ mk_τ mk_σ mk_base mk_withσ entry_τ entry_σ entry_base calm_nil calm_plain calm_grd cgv_tt cgv_ff cgv_tf cgv_ft cgv_tup cstp_ok cstp_ob cstp_if
attribute [local irreducible] Ct Co Cs
attribute [local go_sem] evalOp notV negV pickV binV intB seqV beqV catV lensV lenlV boxV_eq newV cellsOf cellV fadrV fldV fldC loadV loadC_ag loadC_one plainV isOwn iadrV storeV lk bdV bdL renO renL renV pureV pureL noOwnV noOwnL idxV slsV optI extV resL resV ret1 mmV cnviV cnvsV nilcV eqnV bslV bslGo appV elems okE appE getD_map okO_none okO_some strC intC Sl.I
attribute [local simp] Bind.eqa Use.eqa loadC_str loadC_int Bind.C_len Bind.C_pure Bind.C_noOwn Bind.C_cell Bind.C_bd Bind.C_bdL Bind.C_ren Bind.C_any Bind.C_any0 Bind.C_any1 Bind.C_anyt Bind.C_take Bind.C_load Bind.C_load0 Bind.C_load1 Bind.C_fld Bind.C_box Bind.C_fold Use.C_len Use.C_pure Use.C_noOwn Use.C_cell Use.C_bd Use.C_bdL Use.C_ren Use.C_any Use.C_any0 Use.C_any1 Use.C_anyt Use.C_take Use.C_load Use.C_load0 Use.C_load1 Use.C_fld Use.C_box Use.C_fold LExpr.C_len LExpr.C_pure LExpr.C_noOwn LExpr.C_cell LExpr.C_bd LExpr.C_bdL LExpr.C_ren LExpr.C_any LExpr.C_any0 LExpr.C_any1 LExpr.C_anyt LExpr.C_take LExpr.C_load LExpr.C_load0 LExpr.C_load1 LExpr.C_fld LExpr.C_box LExpr.C_fold LDecl.C_len LDecl.C_pure LDecl.C_noOwn LDecl.C_cell LDecl.C_bd LDecl.C_bdL LDecl.C_ren LDecl.C_any LDecl.C_any0 LDecl.C_any1 LDecl.C_anyt LDecl.C_take LDecl.C_load LDecl.C_load0 LDecl.C_load1 LDecl.C_fld LDecl.C_box LDecl.C_fold LModule.C_len LModule.C_pure LModule.C_noOwn LModule.C_cell LModule.C_bd LModule.C_bdL LModule.C_ren LModule.C_any LModule.C_any0 LModule.C_any1 LModule.C_anyt LModule.C_take LModule.C_load LModule.C_load0 LModule.C_load1 LModule.C_fld LModule.C_box LModule.C_fold
attribute [local go_sem] mix_nil mix_fplain mix_fgrd mix_oplain fg_tt fg_ff fg_tf fg_ft fg_tup fstp_ok fstp_ob fstp_if og_tt og_ff dstIn
attribute [local go_sem] mix_nilH mix_fplainH mix_fgrdH mix_oplainH fg_ttH fg_ffH fg_tfH fg_ftH fg_tupH fstp_okH fstp_obH fstp_ifH og_ttH og_ffH dstInS buildV fillC

open Z in
def mf_impl_TypeItem : MF := ⟨17, [(.t 2), (.t 3)], q (r [k 2 (.mov (s [])), k 3 (.mov (b false))]) (q (q (r [m 4 0, k 5 (c 43 [t 4]), k 6 (.not (t 5)), m 7 6, g 8 (.mov (t 0)) 7 false, g 9 (.idx (t 8) (i 0)) 7 false, g 10 (.bin .neq (t 9) (.c (.int .u8 91))) 7 false, k 11 (.pick (t 7) (b true) (t 10))]) (.cond (t 11) (q (r [k 2 (.mov (s [])), k 3 (.mov (b false))]) .ret) .skip)) (q (r [m 12 0, m 13 0, k 14 (.lens (t 13)), k 15 (.bin .sub (t 14) (i 1)), k 16 (.sls (t 12) (some (i 1)) (some (t 15))), m 2 16, k 3 (.mov (b true))]) .ret))⟩
theorem fit_impl_TypeItem : Fit Tryz.prog 91 Tryz.f91 mf_impl_TypeItem := ⟨by kernel_rfl, Tryz.func91, by kernel_rfl, by kernel_rfl, by kernel_rfl, by kernel_rfl⟩
theorem itypeItem_ct (t : Str) : Ct Tryz.prog 91 [.str t] (.tup [.str (itemS t), .bool (itemOk t)]) := by
  refine ct_of_run fit_impl_TypeItem (by simp [mf_impl_TypeItem]) (by simp [go_sem]) fun hd => ?_
  simp -implicitDefEqProofs [-List.map_take, -List.map_drop, go_sem, mf_impl_TypeItem]
  have h1 := itypeOk_ct t
  cases ok : typeOk t with
  | false =>
    rw [ok] at h1
    have h2 : itemOk t = false := by simp [itemOk, ok]
    have c1 := h1
    have hy := h2
    have e1 := @itemS.eq_1
    have hdf := @e1
    exact wk1
  | true =>
    rw [ok] at h1
    have hl : 0 < t.length := by have := ne_nil_of_ok ok; cases t; contradiction; simp
    have h3 := item_eq ok
    cases hh : headL t with
    | false =>
      rw [hh] at h3
      have hb : (byteAt t 0 != 91) = true := by simp only [bne, Bool.not_eq_true']; exact hh
      have c1 := h1
      have hy := And.intro (h3) (And.intro (hb) (hl))
      have e1 := @itemS.eq_1
      have hdf := @e1
      exact wk1
    | true =>
      rw [hh] at h3
      have hb : (byteAt t 0 != 91) = false := by simp only [bne, Bool.not_eq_false']; exact hh
      have hlen := item_len h3
      have hw : IntKind.i64.wrap ((t.length : Int) - 1) = (t.length : Int) - 1 := wrap_small (by omega) (by have := typeOk_len ok; omega)
      have hwm : mid t = (List.take (t.length - 1) t).tail := by simp [mid]
      have c1 := h1
      have hy := And.intro (h3) (And.intro (hb) (And.intro (hl) (hw)))
      have e1 := @itemS.eq_1
      have hdf := @e1
      exact wk1
open Z in
def mf_impl_TypeList : MF := ⟨17, [(.t 2), (.t 3)], q (r [k 2 (.mov (s [])), k 3 (.mov (b false))]) (q (q (r [m 4 0, k 5 (c 43 [t 4]), k 6 (.not (t 5)), m 7 6, g 8 (.mov (t 0)) 7 false, g 9 (.cat (s [91]) (t 8)) 7 false, g 10 (.cat (t 9) (s [93])) 7 false, g 11 (c 43 [t 10]) 7 false, g 12 (.not (t 11)) 7 false, k 13 (.pick (t 7) (b true) (t 12))]) (.cond (t 13) (q (r [k 2 (.mov (s [])), k 3 (.mov (b false))]) .ret) .skip)) (q (r [m 14 0, k 15 (.cat (s [91]) (t 14)), k 16 (.cat (t 15) (s [93])), m 2 16, k 3 (.mov (b true))]) .ret))⟩
theorem fit_impl_TypeList : Fit Tryz.prog 193 Tryz.f193 mf_impl_TypeList := ⟨by kernel_rfl, Tryz.func193, by kernel_rfl, by kernel_rfl, by kernel_rfl, by kernel_rfl⟩
theorem itypeList_ct (t : Str) : Ct Tryz.prog 193 [.str t] (.tup [.str (listS t), .bool (listOk t)]) := by
  refine ct_of_run fit_impl_TypeList (by simp [mf_impl_TypeList]) (by simp [go_sem]) fun hd => ?_
  simp -implicitDefEqProofs [-List.map_take, -List.map_drop, go_sem, mf_impl_TypeList]
  have h1 := itypeOk_ct t
  cases ok : typeOk t with
  | false =>
    rw [ok] at h1
    have h2 : listOk t = false := by simp [listOk, ok]
    have c1 := h1
    have hy := h2
    have e1 := @listS.eq_1
    have hdf := @e1
    exact wk1
  | true =>
    rw [ok] at h1
    have hlen := typeOk_len ok
    have hs1 : 1 + t.length ≤ maxLen := by simp only [maxLen]; omega
    have hs2 : 1 + t.length + 1 ≤ maxLen := by simp only [maxLen]; omega
    have h2 : listOk t = typeOk ([91] ++ t ++ [93]) := by simp [listOk, ok]
    have h4 := itypeOk_ct ([91] ++ t ++ [93])
    rw [← h2] at h4
    have c1 := h1
    have c2 := h4
    have hy := hy0
    have e1 := @listS.eq_1
    have hdf := @e1
    exact wk1
open Z in
def mf_impl_Module_uses_1 : MF := ⟨8, [(.t 3)], q (r [k 2 (.box 99 (t 0)), k 3 (.mov (b false))]) (q (r [k 4 (.fadr 1 (t 2)), k 5 (.load false 1 (t 4)), k 6 (.load false 1 (t 1)), k 7 (.seq false (t 5) (t 6)), m 3 7]) .ret)⟩
theorem fit_impl_Module_uses_1 : Fit Tryz.prog 202 Tryz.f202 mf_impl_Module_uses_1 := ⟨by kernel_rfl, Tryz.func202, by kernel_rfl, by kernel_rfl, by kernel_rfl, by kernel_rfl⟩
theorem iuses1_ct (u : Use) (name : Str) : Ct Tryz.prog 202 ([.agg u.C] ++ [.iptr [.str name]]) (.bool (u.name == name)) := by
  refine ct_of_run fit_impl_Module_uses_1 (by simp [mf_impl_Module_uses_1]) (by simp [go_sem]) fun hd => ?_
  simp -implicitDefEqProofs [-List.map_take, -List.map_drop, go_sem, mf_impl_Module_uses_1]
  have hy := hy0
  have hdf := hy0
  exact wk0
open Z in
def mf_impl_Module_uses : MF := ⟨9, [(.t 4)], q (r [k 2 (.box 61 (t 0)), k 3 (.box 9 (t 1)), k 4 (.mov (i 0))]) (q (r [k 5 (.fadr 1 (t 2)), k 6 (.load false 1 (t 5)), k 7 (.mkf 202 [t 3]), k 8 (c 201 [t 6, t 7]), m 4 8]) .ret)⟩
theorem fit_impl_Module_uses : Fit Tryz.prog 170 Tryz.f170 mf_impl_Module_uses := ⟨by kernel_rfl, Tryz.func170, by kernel_rfl, by kernel_rfl, by kernel_rfl, by kernel_rfl⟩
theorem iuses_ct (m : LModule) (name : Str) : Ct Tryz.prog 170 [.agg m.C, .str name] (.int .i64 (useAt m.core name)) := by
  have h1 := idxF_Use_ct m.uses 202 [.iptr [.str name]] rfl (fun u => u.name == name) (fun u _ => iuses1_ct u name)
  refine ct_of_run fit_impl_Module_uses (by simp [mf_impl_Module_uses]) (by simp [go_sem]) fun hd => ?_
  simp -implicitDefEqProofs [-List.map_take, -List.map_drop, go_sem, mf_impl_Module_uses]
  repeat' first
    | ((first | refine gv_split (fun h => ?_) (fun h => ?_) | refine cnd_split (fun h => ?_) (fun h => ?_) | refine cgv_split (fun h => ?_) (fun h => ?_)) <;> (try (have hp := h; simp at hp)) <;> simp -implicitDefEqProofs [-List.map_take, -List.map_drop, go_sem, h])
    | (refine And.intro (by first | omega | (simp only [maxLen]; omega) | (simp_all; done) | (simp_all; omega)) ?_; try simp -implicitDefEqProofs [-List.map_take, -List.map_drop, go_sem])
    | ((first | refine cstp_snap 3 (h1) (by simp [go_sem, snapL, snapV, snapE, snapSp, mapO, frzV]) ?_ ?_ ?_ | refine stp_snap 3 (h1) (by simp [go_sem, snapL, snapV, snapE, snapSp, mapO, frzV]) ?_ ?_ ?_); (simp [closedV]); (simp [go_sem]); simp -implicitDefEqProofs [-List.map_take, -List.map_drop, go_sem])
    | (refine run_dreg' (by decide) ?_; simp -implicitDefEqProofs [-List.map_take, -List.map_drop, go_sem])
    | ((first | refine end_tup _ (by simp) (by simp [go_sem]; rfl) (by simp [go_sem]) ?_); first | (simp [go_sem, *, useAt]; done) | grind [useAt] | (simp [go_sem, useAt]; grind [useAt]) | (simp_all [go_sem, useAt]; done) | (simp_all [go_sem, useAt]; omega))
theorem moduleAt_self {p : List LModule} (hp : programOk (p.map LModule.core) = true) {mi : Nat} (hm : mi < p.length) : moduleAt (p.map LModule.core) (p[mi]).name = mi := by
  have hn := ((programOk_iff _).1 hp).2.2.1
  have hsp : p.map LModule.core = (p.map LModule.core).take mi ++ (p[mi]).core :: (p.map LModule.core).drop (mi + 1) := by
    have h1 : (p.map LModule.core)[mi]'(by simpa using hm) = (p[mi]).core := by simp
    rw [← h1, ← List.drop_eq_getElem_cons, List.take_append_drop]
  have h2 := idxFrom_first Module.name (p[mi]).core ((p.map LModule.core).drop (mi + 1)) ((p.map LModule.core).take mi)
  rw [← hsp] at h2
  have h3 : (p[mi]).core.name ∉ ((p.map LModule.core).take mi).map Module.name := by
    rw [hsp, List.map_append, List.map_cons] at hn
    exact nodup_mid hn
  have h4 := h2.2 h3
  rw [List.length_take, List.length_map, Nat.min_eq_left (by omega)] at h4
  exact h4
def modNm (p : List LModule) (a : Int) : Str := match at' p a with
  | some m => m.name
  | none => []
open Z in
def mf_impl_declOf : MF := ⟨74, [(.cell 6 8 true), (.t 7), (.t 8)], q (r [k 6 (.alloc 72 [.int .i64 0, .str [], .imm [] [] true, .str [], .int .i64 0, .int .i64 0, .str [], .imm [] [] true]), k 7 (.mov (s [])), k 8 (.mov (b false))]) (q (r [m 15 0, m 16 1, k 17 (c 54 [t 15, t 16]), m 9 17]) (q (q (r [m 18 9, k 19 (.bin .lss (t 18) (i 0))]) (.cond (t 19) (q (r [k 20 (.build [.int .i64 0, .str [], .imm [] [] true, .str [], .int .i64 0, .int .i64 0, .str [], .imm [] [] true] []), n (.store 8 (t 6) (t 20)), k 7 (.mov (s [])), k 8 (.mov (b false))]) .ret) .skip)) (q (q (r [m 21 0, m 22 9, k 23 (.iadr 3 (t 21) (t 22)), k 24 (.load true 3 (t 23)), m 25 2, k 26 (c 72 [t 24, t 25]), m 10 26]) (q (r [m 27 10, k 28 (.bin .geq (t 27) (i 0))]) (.cond (t 28) (q (r [m 29 0, m 30 9, k 31 (.iadr 3 (t 29) (t 30)), k 32 (.fadr 2 (t 31)), k 33 (.load false 1 (t 32)), m 34 10, k 35 (.iadr 8 (t 33) (t 34)), k 36 (.load true 8 (t 35)), m 37 1, n (.store 8 (t 6) (t 36)), m 7 37, k 8 (.mov (b true))]) .ret) .skip))) (q (q (r [m 38 0, m 39 9, k 40 (.iadr 3 (t 38) (t 39)), k 41 (.load true 3 (t 40)), m 42 2, k 43 (c 170 [t 41, t 42]), m 11 43]) (q (r [m 44 11, k 45 (.bin .geq (t 44) (i 0))]) (.cond (t 45) (q (r [m 46 0, m 47 9, k 48 (.iadr 3 (t 46) (t 47)), k 49 (.fadr 1 (t 48)), k 50 (.load false 1 (t 49)), m 51 11, k 52 (.iadr 2 (t 50) (t 51)), k 53 (.load true 2 (t 52)), k 12 (.alloc 99 [.str [], .str []]), n (.store 2 (t 12) (t 53))]) (q (r [m 54 0, m 55 0, k 56 (.fadr 0 (t 12)), k 57 (.load false 1 (t 56)), k 58 (c 54 [t 55, t 57]), k 59 (.iadr 3 (t 54) (t 58)), k 60 (.load true 3 (t 59)), k 13 (.alloc 61 [.str [], .imm [] [] true, .imm [] [] true]), n (.store 3 (t 13) (t 60))]) (q (r [k 61 (.load true 3 (t 13)), m 62 2, k 63 (c 72 [t 61, t 62]), m 14 63]) (q (r [m 64 14, k 65 (.bin .geq (t 64) (i 0))]) (.cond (t 65) (q (.dreg [(k 66 (.fadr 2 (t 13)), []), (k 67 (.load false 1 (t 66)), [0]), (m 68 14, []), (k 69 (.iadr 8 (t 67) (t 68)), [1, 2]), (k 70 (.load true 8 (t 69)), [3]), (k 71 (.fadr 0 (t 13)), []), (k 72 (.load false 1 (t 71)), [5]), (n (.store 8 (t 6) (t 70)), [4, 0, 1, 2, 3, 4]), (m 7 72, [6, 7, 0, 1, 2, 3, 4, 5, 6, 7]), (k 8 (.mov (b true)), [8, 0, 1, 2, 3, 4, 5, 6, 7, 8])]) .ret) .skip))))) .skip))) (q (r [k 73 (.build [.int .i64 0, .str [], .imm [] [] true, .str [], .int .i64 0, .int .i64 0, .str [], .imm [] [] true] []), n (.store 8 (t 6) (t 73)), k 7 (.mov (s [])), k 8 (.mov (b false))]) .ret)))))⟩
theorem fit_impl_declOf : Fit Tryz.prog 119 Tryz.f119 mf_impl_declOf := ⟨by kernel_rfl, Tryz.func119, by kernel_rfl, by kernel_rfl, by kernel_rfl, by kernel_rfl⟩
theorem ideclOf_ct (p : Sl LModule) (mi : Nat) (name : Str) (hpo : programOk (p.es.map LModule.core) = true) (hmi : mi < p.es.length) :
    Ct Tryz.prog 119 [p.I LModule.C, .str p.es[mi].name, .str name] (.tup [.agg ((rsl p.es mi name).getD zeroLD).C, .str (modNm p.es (foundP (p.es.map LModule.core) mi name).1), .bool (rsl p.es mi name).isSome]) := by
  have hpl := place_ct p p.es[mi].name
  rw [moduleAt_self hpo hmi] at hpl
  refine ct_of_run fit_impl_declOf (by simp [mf_impl_declOf]) (by simp [go_sem]) fun hd => ?_
  simp -implicitDefEqProofs [-List.map_take, -List.map_drop, go_sem, mf_impl_declOf]
  rcases lfound_cases hpo hmi name with ⟨h1, h2, h3, h4⟩ | ⟨k, hk, h1, h2, _, h4⟩ | ⟨i, j, k, hi, hj, hk, h1, h2, h3, h5, h6, h7, h8, _, h4⟩
  · rw [h1, h4]
    have hmn : modNm p.es (-1) = [] := rfl
    have c1 := hpl
    have d1 := fun a1 => find_ct p.es[mi] a1
    have d2 := fun a1 => iuses_ct p.es[mi] a1
    have hy := And.intro (hmi) (And.intro (h2) (And.intro (h3) (hmn)))
    have e1 := @zeroLD_C
    have hdf := @e1
    exact wk1
  · rw [h1, h4]
    have hmn : modNm p.es (mi : Int) = p.es[mi].name := by simp [modNm, at_nat, List.getElem?_eq_getElem hmi]
    have c1 := hpl
    have d1 := fun a1 => find_ct p.es[mi] a1
    have hy := And.intro (hmi) (And.intro (h2) (And.intro (hk) (hmn)))
    have e1 := @zeroLD_C
    have hdf := @e1
    exact wk1
  · rw [h1, h4]
    have hmn : modNm p.es (j : Int) = p.es[j].name := by simp [modNm, at_nat, List.getElem?_eq_getElem hj]
    repeat' first
      | ((first | refine gv_split (fun h => ?_) (fun h => ?_) | refine cnd_split (fun h => ?_) (fun h => ?_) | refine cgv_split (fun h => ?_) (fun h => ?_)) <;> (try (have hp := h; simp at hp)) <;> simp -implicitDefEqProofs [-List.map_take, -List.map_drop, go_sem, h, hmi, h2, h3, hi, h6, hj, h8, hk, hmn])
      | (refine And.intro (by first | omega | (simp only [maxLen]; omega) | (simp_all; done) | (simp_all; omega)) ?_; try simp -implicitDefEqProofs [-List.map_take, -List.map_drop, go_sem, hmi, h2, h3, hi, h6, hj, h8, hk, hmn])
      | ((first | refine stp_ct (hpl) (by simp [go_sem, hmi, h2, h3, hi, h6, hj, h8, hk, hmn]) ?_ ?_ | refine cstp_ct (hpl) (by simp [go_sem, hmi, h2, h3, hi, h6, hj, h8, hk, hmn]) ?_ ?_ | refine stp_ct (find_ct p.es[mi] _) (by simp [go_sem, hmi, h2, h3, hi, h6, hj, h8, hk, hmn]) ?_ ?_ | refine cstp_ct (find_ct p.es[mi] _) (by simp [go_sem, hmi, h2, h3, hi, h6, hj, h8, hk, hmn]) ?_ ?_ | refine stp_ct (iuses_ct p.es[mi] _) (by simp [go_sem, hmi, h2, h3, hi, h6, hj, h8, hk, hmn]) ?_ ?_ | refine cstp_ct (iuses_ct p.es[mi] _) (by simp [go_sem, hmi, h2, h3, hi, h6, hj, h8, hk, hmn]) ?_ ?_ | refine stp_ct (place_ct p _) (by simp [go_sem, hmi, h2, h3, hi, h6, hj, h8, hk, hmn]) ?_ ?_ | refine cstp_ct (place_ct p _) (by simp [go_sem, hmi, h2, h3, hi, h6, hj, h8, hk, hmn]) ?_ ?_ | refine stp_ct (find_ct p.es[j] _) (by simp [go_sem, hmi, h2, h3, hi, h6, hj, h8, hk, hmn]) ?_ ?_ | refine cstp_ct (find_ct p.es[j] _) (by simp [go_sem, hmi, h2, h3, hi, h6, hj, h8, hk, hmn]) ?_ ?_); (simp [go_sem]); simp -implicitDefEqProofs [-List.map_take, -List.map_drop, go_sem, hmi, h2, h3, hi, h6, hj, h8, hk, hmn])
      | (refine run_mixS (X := List PV) (fun c => [some ⟨[c], 8, 72, false, false⟩, some ⟨[p.es[mi].uses.es[i].C], 2, 99, false, false⟩, some ⟨[p.es[j].C], 3, 61, false, false⟩]) [] ⟨_, rfl⟩ (by decide) ?_; simp -implicitDefEqProofs [-List.map_take, -List.map_drop, go_sem, hmi, h2, h3, hi, h6, hj, h8, hk, hmn])
      | (refine fg_splitH (fun h => ?_) (fun h => ?_) <;> (try (have hp := h; simp at hp)) <;> simp -implicitDefEqProofs [-List.map_take, -List.map_drop, go_sem, h, hmi, h2, h3, hi, h6, hj, h8, hk, hmn])
      | ((first | refine fstp_ctH (hpl) (by simp [go_sem, hmi, h2, h3, hi, h6, hj, h8, hk, hmn]) ?_ ?_ | refine fstp_ctH (find_ct p.es[mi] _) (by simp [go_sem, hmi, h2, h3, hi, h6, hj, h8, hk, hmn]) ?_ ?_ | refine fstp_ctH (iuses_ct p.es[mi] _) (by simp [go_sem, hmi, h2, h3, hi, h6, hj, h8, hk, hmn]) ?_ ?_ | refine fstp_ctH (place_ct p _) (by simp [go_sem, hmi, h2, h3, hi, h6, hj, h8, hk, hmn]) ?_ ?_ | refine fstp_ctH (find_ct p.es[j] _) (by simp [go_sem, hmi, h2, h3, hi, h6, hj, h8, hk, hmn]) ?_ ?_); (simp [go_sem]); simp -implicitDefEqProofs [-List.map_take, -List.map_drop, go_sem, hmi, h2, h3, hi, h6, hj, h8, hk, hmn])
      | (refine ostp_hpH ⟨_, rfl⟩ ?_ ?_; (focus (first | trivial | omega | (simp [go_sem]; done) | (simp [go_sem]; omega) | (simp [go_sem, Bind.C]; omega))); simp -implicitDefEqProofs [-List.map_take, -List.map_drop, go_sem, hmi, h2, h3, hi, h6, hj, h8, hk, hmn])
      | (refine ostp_okH ⟨_, rfl⟩ ?_; simp -implicitDefEqProofs [-List.map_take, -List.map_drop, go_sem, hmi, h2, h3, hi, h6, hj, h8, hk, hmn])
      | (refine mix_ogrdH ?_; simp -implicitDefEqProofs [-List.map_take, -List.map_drop, go_sem, hmi, h2, h3, hi, h6, hj, h8, hk, hmn])
      | (refine run_dreg' (by decide) ?_; simp -implicitDefEqProofs [-List.map_take, -List.map_drop, go_sem, hmi, h2, h3, hi, h6, hj, h8, hk, hmn])
      | ((first | refine end_tup _ (by simp) (by simp [go_sem]; rfl) (by simp [go_sem]) ?_); first | (simp [go_sem, *, zeroLD_C]; done) | grind [zeroLD_C] | (simp [go_sem, zeroLD_C]; grind [zeroLD_C]) | (simp_all [go_sem, zeroLD_C]; done) | (simp_all [go_sem, zeroLD_C]; omega))
open Z in
def mf_impl_mayTell : MF := ⟨36, [(.t 6)], q (r [k 6 (.mov (b false))]) (q (q (r [m 12 2, k 13 (c 43 [t 12]), k 14 (.not (t 13))]) (.cond (t 14) (q (r [k 6 (.mov (b false))]) .ret) .skip)) (q (r [m 16 2, k 17 (c 90 [t 16]), m 15 17, k 18 (.ext (t 15) 0), k 19 (.ext (t 15) 1), m 7 18, m 8 19]) (q (q (r [m 20 7, k 21 (c 149 [t 20])]) (.cond (t 21) (q (r [k 6 (.mov (b true))]) .ret) .skip)) (q (r [m 23 0, m 24 1, m 25 7, k 26 (c 119 [t 23, t 24, t 25]), m 22 26, k 27 (.ext (t 22) 0), k 28 (.ext (t 22) 1), k 29 (.ext (t 22) 2), k 9 (.alloc 72 [.int .i64 0, .str [], .imm [] [] true, .str [], .int .i64 0, .int .i64 0, .str [], .imm [] [] true]), n (.store 8 (t 9) (t 27)), m 10 28, m 11 29]) (q (r [m 30 11, m 31 30, g 32 (.fadr 0 (t 9)) 31 true, g 33 (.load false 1 (t 32)) 31 true, g 34 (.bin .eql (t 33) (i 1)) 31 true, k 35 (.pick (t 31) (t 34) (b false)), m 6 35]) .ret)))))⟩
theorem fit_impl_mayTell : Fit Tryz.prog 97 Tryz.f97 mf_impl_mayTell := ⟨by kernel_rfl, Tryz.func97, by kernel_rfl, by kernel_rfl, by kernel_rfl, by kernel_rfl⟩
theorem imayTell_ct (p : Sl LModule) (mi : Nat) (t : Str) (hpo : programOk (p.es.map LModule.core) = true) (hmi : mi < p.es.length) :
    Ct Tryz.prog 97 [p.I LModule.C, .str p.es[mi].name, .str t] (.bool (mayTellP (p.es.map LModule.core) mi t)) := by
  have hc : mayTellP (p.es.map LModule.core) mi t = (typeOk t && (isPlain (stripN 2 t) || kindIs 1 ((rsl p.es mi (stripN 2 t)).map LDecl.core))) := by rw [rsl_core]; rfl
  rw [hc]
  have hdo := ideclOf_ct p mi (stripN 2 t) hpo hmi
  refine ct_of_run fit_impl_mayTell (by simp [mf_impl_mayTell]) (by simp [go_sem]) fun hd => ?_
  simp -implicitDefEqProofs [-List.map_take, -List.map_drop, go_sem, mf_impl_mayTell]
  cases hx : rsl p.es mi (stripN 2 t) with
  | none =>
    rw [hx] at hdo
    simp only [Option.getD_none, Option.isSome_none, zeroLD_C] at hdo
    have c1 := itypeOk_ct t
    have c2 := typeBase_ct t
    have c3 := plainType_ct (stripN 2 t)
    have c4 := hdo
    have hy := hy0
    have e1 := @kindIs.eq_1
    have e2 := @kindIs.eq_2
    have hdf := And.intro (@e1) (@e2)
    exact wk1
  | some d =>
    rw [hx] at hdo
    simp only [Option.getD_some, Option.isSome_some] at hdo
    have c1 := itypeOk_ct t
    have c2 := typeBase_ct t
    have c3 := plainType_ct (stripN 2 t)
    have c4 := hdo
    have hy := hy0
    have e1 := @kindIs.eq_1
    have e2 := @kindIs.eq_2
    have e3 := @LDecl.core_kind
    have hdf := And.intro (@e1) (And.intro (@e2) (@e3))
    exact wk1
def recIL : List LModule → Str → Option LDecl
  | [], _ => none
  | m :: r, name => match m.decls.es.find? (fun d => d.kind == 1 && d.name == name) with
    | some d => some d
    | none => recIL r name
theorem recIL_core (name : Str) : ∀ (p : List LModule), (recIL p name).map LDecl.core = recI (p.map LModule.core) name
  | [] => rfl
  | m :: r => by
    have ih := recIL_core name r
    have hf : ∀ (l : List LDecl), (l.map LDecl.core).find? (fun d => d.kind == 1 && d.name == name) = (l.find? (fun d => d.kind == 1 && d.name == name)).map LDecl.core := by
      intro l
      rw [List.find?_map]
      rfl
    simp only [recIL, List.map_cons, recI, LModule.core_decls, hf]
    cases m.decls.es.find? (fun d => d.kind == 1 && d.name == name) with
    | none => simpa using ih
    | some d => rfl
def recordOf_L (p : Sl LModule) (name : Str) (i : Nat) (_ : Unit) : St := ⟨lk [(1, .str name), (4, .ptr 0 1 0 0), (10, p.I LModule.C), (11, .int .i64 p.es.length), (12, .int .i64 i)], [some ⟨[[.int .i64 0, .str [], .imm [] [] true, .str [], .int .i64 0, .int .i64 0, .str [], .imm [] [] true]], 8, 72, false, false⟩], []⟩
def recordOf_L2 (p : Sl LModule) (name : Str) (i : Nat) (m : LModule) (k : Nat) (_ : Unit) : St := ⟨lk [(1, .str name), (4, .ptr 0 1 0 0), (10, p.I LModule.C), (11, .int .i64 p.es.length), (12, .int .i64 i), (17, m.decls.I LDecl.C), (18, .int .i64 m.decls.es.length), (19, .int .i64 k)], [some ⟨[[.int .i64 0, .str [], .imm [] [] true, .str [], .int .i64 0, .int .i64 0, .str [], .imm [] [] true]], 8, 72, false, false⟩], []⟩
open Z in
def mf_impl_recordOf : MF := ⟨36, [(.cell 4 8 true), (.t 5)], q (r [k 4 (.alloc 72 [.int .i64 0, .str [], .imm [] [] true, .str [], .int .i64 0, .int .i64 0, .str [], .imm [] [] true]), k 5 (.mov (b false))]) (q (q (r [m 10 0, k 11 (.lenl (t 10)), k 12 (.mov (i 0))]) (.blk 0 (.loop (q (r [k 13 (.bin .lss (t 12) (t 11))]) (q (.cond (t 13) .skip (.exit 0)) (q (.blk 1 (q (r [k 14 (.iadr 3 (t 10) (t 12)), k 15 (.load true 3 (t 14)), k 7 (.alloc 61 [.str [], .imm [] [] true, .imm [] [] true]), n (.store 3 (t 7) (t 15))]) (q (r [k 16 (.fadr 2 (t 7)), k 17 (.load false 1 (t 16)), k 18 (.lenl (t 17)), k 19 (.mov (i 0))]) (.blk 2 (.loop (q (r [k 20 (.bin .lss (t 19) (t 18))]) (q (.cond (t 20) .skip (.exit 2)) (q (.blk 3 (q (r [k 21 (.iadr 8 (t 17) (t 19)), k 22 (.load true 8 (t 21)), k 9 (.alloc 72 [.int .i64 0, .str [], .imm [] [] true, .str [], .int .i64 0, .int .i64 0, .str [], .imm [] [] true]), n (.store 8 (t 9) (t 22))]) (q (r [k 23 (.fadr 0 (t 9)), k 24 (.load false 1 (t 23)), k 25 (.bin .eql (t 24) (i 1)), m 26 25, g 27 (.fadr 1 (t 9)) 26 true, g 28 (.load false 1 (t 27)) 26 true, g 29 (.mov (t 1)) 26 true, g 30 (.seq false (t 28) (t 29)) 26 true, k 31 (.pick (t 26) (t 30) (b false))]) (.cond (t 31) (q (r [k 32 (.load true 8 (t 9)), n (.store 8 (t 4) (t 32)), k 5 (.mov (b true))]) .ret) .skip)))) (r [k 33 (.bin .add (t 19) (i 1)), m 19 33]))))))))) (r [k 34 (.bin .add (t 12) (i 1)), m 12 34]))))))) (q (r [k 35 (.build [.int .i64 0, .str [], .imm [] [] true, .str [], .int .i64 0, .int .i64 0, .str [], .imm [] [] true] []), n (.store 8 (t 4) (t 35)), k 5 (.mov (b false))]) .ret))⟩
theorem fit_impl_recordOf : Fit Tryz.prog 94 Tryz.f94 mf_impl_recordOf := ⟨by kernel_rfl, Tryz.func94, by kernel_rfl, by kernel_rfl, by kernel_rfl, by kernel_rfl⟩
theorem irecordOf_ct (p : Sl LModule) (name : Str) (hpo : programOk (p.es.map LModule.core) = true) :
    Ct Tryz.prog 94 [p.I LModule.C, .str name] (.tup [.agg ((recIL p.es name).getD zeroLD).C, .bool (recIL p.es name).isSome]) := by
  refine ct_of_run fit_impl_recordOf (by simp [mf_impl_recordOf]) (by simp [go_sem]) fun hd => ?_
  simp -implicitDefEqProofs [-List.map_take, -List.map_drop, go_sem, mf_impl_recordOf]
  have hm : p.es.length ≤ maxLen := sl_deep hd.1
  refine run_iter (p.es.length) (recordOf_L p name) (fun i a => recIL (p.es.drop i) name = recIL p.es name) () (gh_auto (by simp [go_sem, recordOf_L])) (by first | (simp; done) | (simp []; done) | (simp []; omega) | grind) ?_
  intro i a hi hj
  simp -implicitDefEqProofs [-List.map_take, -List.map_drop, go_sem, recordOf_L]
  refine cnd_split (fun hc => ?_) (fun hc => ?_)
  · have hlt : i < p.es.length := by first | (simpa using hc) | (simp at hc; omega)
    rw [List.drop_eq_getElem_cons (l := p.es) (by omega)] at hj
    simp only [List.map_cons, recIL] at hj
    simp -implicitDefEqProofs [-List.map_take, -List.map_drop, go_sem, hlt]
    have hm2 : p.es[i].decls.es.length ≤ maxLen := by
      have h1 := (programOk_iff _).1 hpo
      have h2 := (h1.2.1 (p.es[i]).core (List.mem_map_of_mem (List.getElem_mem hlt))).2.1
      rw [LModule.core_decls, List.length_map] at h2
      exact Nat.le_trans h2 (by decide)
    refine run_iter (p.es[i].decls.es.length) (recordOf_L2 p name i p.es[i]) (fun i2 a2 => (p.es[i].decls.es.drop i2).find? (fun d => d.kind == 1 && d.name == name) = p.es[i].decls.es.find? (fun d => d.kind == 1 && d.name == name)) () (gh_auto (by simp [go_sem, recordOf_L2, hlt])) (by first | (simp; done) | (simp []; done) | (simp []; omega) | grind) ?_
    intro i2 a2 hi2 hj2
    simp -implicitDefEqProofs [-List.map_take, -List.map_drop, go_sem, recordOf_L2, hlt]
    refine cnd_split (fun hc2 => ?_) (fun hc2 => ?_)
    · have hlt2 : i2 < p.es[i].decls.es.length := by first | (simpa using hc2) | (simp at hc2; omega)
      rw [List.drop_eq_getElem_cons (l := p.es[i].decls.es) (by omega)] at hj2
      simp only [List.map_cons, List.find?_cons, List.find?_nil] at hj2
      simp -implicitDefEqProofs [-List.map_take, -List.map_drop, go_sem, hlt2, hlt]
      cases hq : (p.es[i].decls.es[i2].kind == 1 && p.es[i].decls.es[i2].name == name) with
      | true =>
        rw [hq] at hj2
        rw [← hj2] at hj
        simp only at hj
        have hy := And.intro (hlt) (hlt2)
        have hdf := hy0
        have eL := @recordOf_L2.eq_1
        have hm0 := hm2
        have hlt0 := hlt2
        exact wk0n
      | false =>
        rw [hq] at hj2
        have hy := And.intro (hlt) (hlt2)
        have hdf := hy0
        have eL := @recordOf_L2.eq_1
        have hm0 := hm2
        have hlt0 := hlt2
        exact wk0n
    · have hge2 : p.es[i].decls.es.length ≤ i2 := by first | (simpa using hc2) | (simp at hc2; omega)
      rw [List.drop_of_length_le (l := p.es[i].decls.es) (by omega)] at hj2
      simp only [List.map_nil, List.find?_cons, List.find?_nil] at hj2
      try simp -implicitDefEqProofs [-List.map_take, -List.map_drop, go_sem, hlt]
      rw [← hj2] at hj
      simp only at hj
      have hy := hlt
      have hdf := hy0
      have eL := @recordOf_L.eq_1
      have hm0 := hm
      have hlt0 := hlt
      exact wk0n
  · have hge : p.es.length ≤ i := by first | (simpa using hc) | (simp at hc; omega)
    rw [List.drop_of_length_le (l := p.es) (by omega)] at hj
    simp only [List.map_nil, recIL] at hj
    try simp -implicitDefEqProofs [-List.map_take, -List.map_drop, go_sem]
    have hy := hy0
    have e1 := @zeroLD_C
    have hdf := @e1
    exact wk0
end Go.Mach
