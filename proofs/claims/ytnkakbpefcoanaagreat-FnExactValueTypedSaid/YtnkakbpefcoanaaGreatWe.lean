import Derived.Test.YtnkakbpefcoanaaGreatMh
import Derived.Test.YtnkakbpefcoanaaGreatWd
/- The laws' arguments, laid anew: walked. -/
set_option maxHeartbeats 4000000
namespace Go.Mach
open Go Go.Proofs
set_option linter.unusedVariables false
set_option linter.unusedSimpArgs false
attribute [local go_sem] Z.k Z.g Z.n Z.m Z.t Z.i Z.b Z.s Z.c Z.r Z.q run_seq run_skip run_reg run_blk run_exit run_ret run_cond cnd_true cnd_false kx_seq_normal kx_seq_exit kx_seq_ret kx_blk_normal kx_blk_same kx_blk_other kx_blk_ret kx_loop_exit kx_loop_ret kx_done ops_nil ops_plain ops_grd gv_tt gv_ff gv_tf gv_ft gv_tup stp_ok stp_ob stp_hp stp_bad stp_if get_t get_c putO_some putO_none put_same put_ne put_σ put_base withσ_τ withσ_σ withσ_base withσ_put withσ_withσ mk_τ mk_σ mk_base mk_withσ entry_τ entry_σ entry_base calm_nil calm_plain calm_grd cgv_tt cgv_ff cgv_tf cgv_ft cgv_tup cstp_ok cstp_ob cstp_if
attribute [local irreducible] Ct Co Cs
attribute [local go_sem] evalOp notV negV pickV binV intB seqV beqV catV lensV lenlV boxV_eq newV cellsOf cellV fadrV fldV fldC loadV loadC_ag loadC_one plainV isOwn iadrV storeV lk bdV bdL renO renL renV pureV pureL noOwnV noOwnL idxV slsV optI extV resL resV ret1 mmV cnviV cnvsV nilcV eqnV bslV bslGo appV elems okE appE getD_map okO_none okO_some strC intC Sl.I
attribute [local simp] Bind.eqa Use.eqa loadC_str loadC_int Bind.C_len Bind.C_pure Bind.C_noOwn Bind.C_cell Bind.C_bd Bind.C_bdL Bind.C_ren Bind.C_any Bind.C_any0 Bind.C_any1 Bind.C_anyt Bind.C_take Bind.C_load Bind.C_load0 Bind.C_load1 Bind.C_fld Bind.C_box Bind.C_fold Use.C_len Use.C_pure Use.C_noOwn Use.C_cell Use.C_bd Use.C_bdL Use.C_ren Use.C_any Use.C_any0 Use.C_any1 Use.C_anyt Use.C_take Use.C_load Use.C_load0 Use.C_load1 Use.C_fld Use.C_box Use.C_fold LExpr.C_len LExpr.C_pure LExpr.C_noOwn LExpr.C_cell LExpr.C_bd LExpr.C_bdL LExpr.C_ren LExpr.C_any LExpr.C_any0 LExpr.C_any1 LExpr.C_anyt LExpr.C_take LExpr.C_load LExpr.C_load0 LExpr.C_load1 LExpr.C_fld LExpr.C_box LExpr.C_fold LDecl.C_len LDecl.C_pure LDecl.C_noOwn LDecl.C_cell LDecl.C_bd LDecl.C_bdL LDecl.C_ren LDecl.C_any LDecl.C_any0 LDecl.C_any1 LDecl.C_anyt LDecl.C_take LDecl.C_load LDecl.C_load0 LDecl.C_load1 LDecl.C_fld LDecl.C_box LDecl.C_fold LModule.C_len LModule.C_pure LModule.C_noOwn LModule.C_cell LModule.C_bd LModule.C_bdL LModule.C_ren LModule.C_any LModule.C_any0 LModule.C_any1 LModule.C_anyt LModule.C_take LModule.C_load LModule.C_load0 LModule.C_load1 LModule.C_fld LModule.C_box LModule.C_fold

attribute [local go_sem] buildV fillC mksV
/-- The first of a list of the maker's own. -/
theorem sl_own {σ : Heap} {o c k sz n : Nat} {es : List (List PV)} {ty : TypeId} {arr frz : Bool} {ik : IntKind} (ho : σ[o]? = some (some ⟨es, sz, ty, arr, frz⟩)) (hl : es.length = c) (hn : n ≤ c) :
    slV σ sz (.ref o c 0 k (some c)) none (some (.int ik n)) none = .ob True (.ref o c 0 n (some c)) := by
  simp only [slV, ho, hl, and_self, if_true, optI, Option.getD_some, Option.isSome_none, Bool.false_eq_true, if_false, Option.map_some, Int.toNat_zero, Int.toNat_natCast, Nat.zero_add, Nat.sub_zero]
  have : (0 ≤ (0 : Int) ∧ (0 : Int) ≤ (n : Int) ∧ (n : Int) ≤ (c : Int) ∧ (c : Int) ≤ ((c : Nat) : Int)) = True := eq_true ⟨by omega, by omega, by omega, by omega⟩
  rw [this]
theorem storeV_at {σ : Heap} {o c i sz : Nat} {es : List (List PV)} {ty : TypeId} {e v : List PV} (ho : σ[o]? = some (some ⟨es, sz, ty, true, false⟩)) (hl : es.length = c) (he : es[i]? = some e) (hez : e.length = sz) (hv : v.length = sz) (hc : v.all cellV = true) :
    storeV σ sz (.ptr o c i 0) (.agg v) = .hp True (.tup []) (σ.set o (some ⟨es.set i v, sz, ty, true, false⟩)) := by
  simp only [storeV, ho, hl, cellsOf, hv, hc, he, true_and, and_true, Nat.zero_add, Nat.le_refl, if_true, List.take_zero, List.nil_append]
  have : List.drop sz e = [] := List.drop_of_length_le (by omega)
  rw [this, List.append_nil]
def toUseS_L1 (l : Sl Use) (bare : Bool) (A : List (List PV)) (c : Nat) (i : Nat) (_ : Unit) : St := ⟨lk [(0, l.I Use.C), (1, .bool bare), (5, .ref 0 c 0 c (some c)), (6, .int .i64 i)], [some ⟨bldE A c [.str [], .str []] i, 2, 99, true, false⟩], []⟩
def toUseS_L2 (l : Sl Use) (A : List (List PV)) (c r : Nat) (j : Nat) (_ : Unit) : St := ⟨lk [(0, l.I Use.C), (5, .ref 0 c 0 c (some c)), (7, .int .i64 ((l.es.length : Int) + (j : Int)))], [some ⟨bldF A r [.str [], .str []] fillUse.C j, 2, 99, true, false⟩], []⟩
open Z in
def mf_laws_toUseS : MF := ⟨51, [(.t 4)], q (r [k 4 (.mov (.c (.imm [] [] true)))]) (q (q (r [m 8 1, m 9 8, g 10 (.mov (t 0)) 9 true, g 11 (.lenl (t 10)) 9 true, g 12 (.bin .eql (t 11) (i 0)) 9 true, k 13 (.pick (t 9) (t 12) (b false))]) (.cond (t 13) (q (r [k 4 (.mov (.c (.imm [] [] true)))]) .ret) .skip)) (q (r [m 14 0, k 15 (.lenl (t 14)), m 16 0, k 17 (.lenl (t 16)), k 18 (c 30 [t 17]), k 19 (.bin .add (t 15) (t 18)), k 20 (.mks 99 2 32 [.str [], .str []] (t 19) (t 19)), m 5 20]) (q (q (r [k 6 (.mov (i 0))]) (.blk 0 (.loop (q (q (r [m 21 6, m 22 0, k 23 (.lenl (t 22)), k 24 (.bin .lss (t 21) (t 23))]) (.cond (t 24) .skip (.exit 0))) (q (.blk 1 (r [m 27 5, m 28 6, m 29 0, m 30 6, k 31 (.iadr 2 (t 29) (t 30)), k 32 (.load true 2 (t 31)), k 33 (c 127 [t 32]), k 34 (.iadr 2 (t 27) (t 28)), n (.store 2 (t 34) (t 33))])) (r [m 25 6, k 26 (.bin .add (t 25) (i 1)), m 6 26])))))) (q (q (r [m 35 0, k 36 (.lenl (t 35)), m 7 36]) (.blk 2 (.loop (q (q (r [m 37 7, m 38 5, k 39 (.lenl (t 38)), k 40 (.bin .lss (t 37) (t 39))]) (.cond (t 40) .skip (.exit 2))) (q (.blk 3 (r [m 43 5, m 44 7, k 45 (c 69 []), k 46 (.iadr 2 (t 43) (t 44)), n (.store 2 (t 46) (t 45))])) (r [m 41 7, k 42 (.bin .add (t 41) (i 1)), m 7 42])))))) (q (r [m 47 5, m 48 0, k 49 (.lenl (t 48)), k 50 (.sl 2 (t 47) none (some (t 49)) none), m 4 50]) .ret)))))⟩
theorem fit_laws_toUseS : Fit Tryz.prog 67 Tryz.f67 mf_laws_toUseS := ⟨by kernel_rfl, Tryz.func67, by kernel_rfl, by kernel_rfl, by kernel_rfl, by kernel_rfl⟩
theorem toUseS_ct (l : Sl Use) (bare : Bool) (hl : l.es.length ≤ 1000000) (tf : Use → Use) (hg : ∀ a, a ∈ l.es → Ct Tryz.prog 127 [.agg a.C] (.agg (tf a).C)) :
    Ct Tryz.prog 67 [l.I Use.C, .bool bare] ((toS Use.C fillUse bare (l.es.map tf)).I Use.C) := by
  obtain ⟨Y, hY⟩ : ∃ Y, Y = (toS Use.C fillUse bare (l.es.map tf)).I Use.C := ⟨_, rfl⟩
  rw [← hY]
  refine ct_of_run fit_laws_toUseS (by simp [mf_laws_toUseS]) (by simp [go_sem]) fun hd => ?_
  simp -implicitDefEqProofs [-List.map_take, -List.map_drop, go_sem, mf_laws_toUseS]
  have hm : l.es.length ≤ maxLen := sl_deep hd.1
  have hA : ∀ e, e ∈ l.es.map (fun x => (tf x).C) → pureL e = true := by
    intro e he
    obtain ⟨x, _, rfl⟩ := List.mem_map.1 he
    exact Use.C_pure _
  obtain ⟨A, hAe⟩ : ∃ A, A = l.es.map (fun x => (tf x).C) := ⟨_, rfl⟩
  have hAl : A.length = l.es.length := by rw [hAe, List.length_map]
  have hAg : ∀ (i : Nat) (h : i < l.es.length), A[i]'(by omega) = (tf l.es[i]).C := fun i h => by subst hAe; simp
  rw [← hAe] at hA
  have hrl := room_le l.es.length
  have hcase : (bare && l.es.length == 0) = true → Y = .imm [] [] true := fun h => by
    rw [hY]; simp only [toS, List.length_map, h, if_true, Sl.I, List.map_nil]
  have hcase2 : (bare && l.es.length == 0) = false → Y = .imm A (List.replicate (room l.es.length) fillUse.C) true := fun h => by
    rw [hY]
    simp only [toS, List.length_map, h, Bool.false_eq_true, if_false, Sl.I, List.map_map, hAe, List.map_replicate]
    rfl
  cases hb : (bare && l.es.length == 0)
  · have h1 := hcase2 hb
    obtain ⟨r, hr⟩ : ∃ r, r = room l.es.length := ⟨_, rfl⟩
    obtain ⟨c, hc⟩ : ∃ c, c = l.es.length + r := ⟨_, rfl⟩
    rw [← hr] at hrl h1
    subst h1
    clear hY hcase hcase2
    have hw0 : IntKind.i64.wrap ((l.es.length : Int) + (r : Int)) = (c : Int) := by rw [wrap_small (by omega) (by omega)]; omega
    have hrm := room_ct l.es.length
    rw [← hr] at hrm
    have hz : pureL [.str [], .str []] = true := rfl
    have hfp : pureL fillUse.C = true := Use.C_pure _
    have hbnd : c * 1000 ≤ 140737488355328 := by omega
    cases bare
    · try simp only [Bool.true_and, beq_eq_false_iff_ne, ne_eq] at hb
      have hbz : ((l.es.length : Int) == 0) = decide (l.es.length = 0) := by rw [Bool.eq_iff_iff]; simp
      simp -implicitDefEqProofs [-List.map_take, -List.map_drop, go_sem]
      repeat' first
        | ((first | refine gv_split (fun h => ?_) (fun h => ?_) | refine cnd_split (fun h => ?_) (fun h => ?_) | refine cgv_split (fun h => ?_) (fun h => ?_)) <;> (try (have hp := h; simp at hp)) <;> simp -implicitDefEqProofs [-List.map_take, -List.map_drop, go_sem, h, hw0, hb, hbz])
        | (refine And.intro (by first | omega | (simp only [maxLen]; omega) | (simp_all; done) | (simp_all; omega)) ?_; try simp -implicitDefEqProofs [-List.map_take, -List.map_drop, go_sem, hw0, hb, hbz])
        | ((first | refine stp_ct (hrm) (by simp [go_sem, hw0, hb, hbz]) ?_ ?_ | refine cstp_ct (hrm) (by simp [go_sem, hw0, hb, hbz]) ?_ ?_); (simp [go_sem]); simp -implicitDefEqProofs [-List.map_take, -List.map_drop, go_sem, hw0, hb, hbz])
        | (refine run_dreg' (by decide) ?_; simp -implicitDefEqProofs [-List.map_take, -List.map_drop, go_sem, hw0, hb, hbz])
        | ((first | refine end_tup _ (by simp) (by simp [go_sem]; rfl) (by simp [go_sem]) ?_); first | (simp [go_sem, *]; done) | grind | (simp [go_sem]; grind) | (simp_all [go_sem]; done) | (simp_all [go_sem]; omega))
      refine run_iter (l.es.length) (toUseS_L1 l false A c) (fun i a => True) () (gh_auto (by simp [go_sem, toUseS_L1, bldE_zero])) (by first | (simp; done) | (simp []; done) | (simp []; omega) | grind) ?_
      intro i a hi hj
      simp -implicitDefEqProofs [-List.map_take, -List.map_drop, go_sem, toUseS_L1, bldE_zero]
      refine cnd_split (fun hc => ?_) (fun hc => ?_)
      · have hlt : i < l.es.length := by first | (simpa using hc) | (simp at hc; omega)
        simp -implicitDefEqProofs [-List.map_take, -List.map_drop, go_sem, hlt, bldE_zero]
        have hwl : (bldE A c [.str [], .str []] i).length = c := bldE_len (by omega) (by omega)
        have hwg : (bldE A c [.str [], .str []] i)[i]? = some [.str [], .str []] := bldE_get (by omega) (by omega)
        have hws : (bldE A c [.str [], .str []] i).set i (tf l.es[i]).C = bldE A c [.str [], .str []] (i + 1) := by rw [← hAg i hlt]; exact bldE_set (by omega) (by omega)
        have hwb : ∀ m, ((bldE A c [.str [], .str []] (i + 1)).all fun e => e.all (bdV m)) = true := bld_bd (bldE_pure hA hz)
        have hlc : (i : Int) < (c : Int) := by omega
        have hgi := hg l.es[i] (List.getElem_mem hlt)
        have c1 := hgi
        have hy := And.intro (hlt) (And.intro (hwl) (And.intro (hlc) (And.intro (hwg) (And.intro (hws) (hwb)))))
        have hdf := hy0
        have eL := @toUseS_L1.eq_1
        have hm0 := hm
        have hlt0 := hlt
        exact wk1n
      · have hge : l.es.length ≤ i := by first | (simpa using hc) | (simp at hc; omega)
        try simp -implicitDefEqProofs [-List.map_take, -List.map_drop, go_sem, bldE_zero]
        obtain rfl : i = l.es.length := by omega
        have hwf0 : bldF A r [.str [], .str []] fillUse.C 0 = bldE A c [.str [], .str []] l.es.length := by rw [← hAl]; exact bldF_zero (by omega)
        have hwb : ∀ m, ((bldE A c [.str [], .str []] l.es.length).all fun e => e.all (bdV m)) = true := bld_bd (bldE_pure hA hz)
        refine run_iter (r) (toUseS_L2 l A c r) (fun i2 a2 => True) () (gh_auto (by simp [go_sem, toUseS_L2, hwf0, hwb])) (by first | (simp; done) | (simp []; done) | (simp []; omega) | grind) ?_
        intro i2 a2 hi2 hj2
        simp -implicitDefEqProofs [-List.map_take, -List.map_drop, go_sem, toUseS_L2, hwf0, hwb]
        refine cnd_split (fun hc2 => ?_) (fun hc2 => ?_)
        · have hlt2 : i2 < r := by first | (simpa using hc2) | (simp at hc2; omega)
          simp -implicitDefEqProofs [-List.map_take, -List.map_drop, go_sem, hlt2, hwf0, hwb]
          have hwl2 : (bldF A r [.str [], .str []] fillUse.C i2).length = c := by rw [bldF_len (by omega)]; omega
          have hwg2 : (bldF A r [.str [], .str []] fillUse.C i2)[l.es.length + i2]? = some [.str [], .str []] := by rw [← hAl]; exact bldF_get (by omega)
          have hws2 : (bldF A r [.str [], .str []] fillUse.C i2).set (l.es.length + i2) fillUse.C = bldF A r [.str [], .str []] fillUse.C (i2 + 1) := by rw [← hAl]; exact bldF_set (by omega)
          have hwb2 : ∀ m, ((bldF A r [.str [], .str []] fillUse.C (i2 + 1)).all fun e => e.all (bdV m)) = true := bld_bd (bldF_pure hA hz hfp)
          have hlc2 : (0 : Int) ≤ (l.es.length : Int) + (i2 : Int) ∧ (l.es.length : Int) + (i2 : Int) < (c : Int) := by omega
          have hwt2 : ((l.es.length : Int) + (i2 : Int)).toNat = l.es.length + i2 := by omega
          have hwi2 : IntKind.i64.wrap ((l.es.length : Int) + (i2 : Int) + 1) = (l.es.length : Int) + ((i2 : Int) + 1) := by rw [wrap_small (by omega) (by omega)]; omega
          have hm2 : r ≤ maxLen := by simp only [maxLen]; omega
          have c1 := fillUse_ct
          have hy := And.intro (hlt2) (And.intro (hwl2) (And.intro (hlc2) (And.intro (hwt2) (And.intro (hwg2) (And.intro (hws2) (And.intro (hwb2) (hwi2)))))))
          have hdf := hy0
          have eL := @toUseS_L2.eq_1
          have hm0 := hm2
          have hlt0 := hlt2
          exact wk1n
        · have hge2 : r ≤ i2 := by first | (simpa using hc2) | (simp at hc2; omega)
          try simp -implicitDefEqProofs [-List.map_take, -List.map_drop, go_sem, hwf0, hwb]
          obtain rfl : i2 = r := by omega
          have hwl3 : (bldF A i2 [.str [], .str []] fillUse.C i2).length = c := by rw [bldF_len (by omega)]; omega
          have hwsl : slV [some ⟨bldF A i2 [.str [], .str []] fillUse.C i2, 2, 99, true, false⟩] 2 (.ref 0 c 0 c (some c)) none (some (.int .i64 (l.es.length : Int))) none = .ob True (.ref 0 c 0 l.es.length (some c)) := sl_own rfl hwl3 (by omega)
          simp -implicitDefEqProofs [-List.map_take, -List.map_drop, go_sem, hwsl]
          refine end_ref (o := 0) (c := c) (k := l.es.length) (es := bldF A i2 [.str [], .str []] fillUse.C i2) (sz := 2) (ty := 99) (arr := true) (frz := false) (by simp) (by simp [go_sem]) (by simp [go_sem]) hwl3 (bldF_pure hA hz hfp) ?_
          rw [bldF_full, ← hAl, List.take_left, List.drop_left]
    · try simp only [Bool.true_and, beq_eq_false_iff_ne, ne_eq] at hb
      have hbz : ((l.es.length : Int) == 0) = decide (l.es.length = 0) := by rw [Bool.eq_iff_iff]; simp
      simp -implicitDefEqProofs [-List.map_take, -List.map_drop, go_sem]
      repeat' first
        | ((first | refine gv_split (fun h => ?_) (fun h => ?_) | refine cnd_split (fun h => ?_) (fun h => ?_) | refine cgv_split (fun h => ?_) (fun h => ?_)) <;> (try (have hp := h; simp at hp)) <;> simp -implicitDefEqProofs [-List.map_take, -List.map_drop, go_sem, h, hw0, hb, hbz])
        | (refine And.intro (by first | omega | (simp only [maxLen]; omega) | (simp_all; done) | (simp_all; omega)) ?_; try simp -implicitDefEqProofs [-List.map_take, -List.map_drop, go_sem, hw0, hb, hbz])
        | ((first | refine stp_ct (hrm) (by simp [go_sem, hw0, hb, hbz]) ?_ ?_ | refine cstp_ct (hrm) (by simp [go_sem, hw0, hb, hbz]) ?_ ?_); (simp [go_sem]); simp -implicitDefEqProofs [-List.map_take, -List.map_drop, go_sem, hw0, hb, hbz])
        | (refine run_dreg' (by decide) ?_; simp -implicitDefEqProofs [-List.map_take, -List.map_drop, go_sem, hw0, hb, hbz])
        | ((first | refine end_tup _ (by simp) (by simp [go_sem]; rfl) (by simp [go_sem]) ?_); first | (simp [go_sem, *]; done) | grind | (simp [go_sem]; grind) | (simp_all [go_sem]; done) | (simp_all [go_sem]; omega))
      refine run_iter (l.es.length) (toUseS_L1 l true A c) (fun i a => True) () (gh_auto (by simp [go_sem, toUseS_L1, bldE_zero])) (by first | (simp; done) | (simp []; done) | (simp []; omega) | grind) ?_
      intro i a hi hj
      simp -implicitDefEqProofs [-List.map_take, -List.map_drop, go_sem, toUseS_L1, bldE_zero]
      refine cnd_split (fun hc => ?_) (fun hc => ?_)
      · have hlt : i < l.es.length := by first | (simpa using hc) | (simp at hc; omega)
        simp -implicitDefEqProofs [-List.map_take, -List.map_drop, go_sem, hlt, bldE_zero]
        have hwl : (bldE A c [.str [], .str []] i).length = c := bldE_len (by omega) (by omega)
        have hwg : (bldE A c [.str [], .str []] i)[i]? = some [.str [], .str []] := bldE_get (by omega) (by omega)
        have hws : (bldE A c [.str [], .str []] i).set i (tf l.es[i]).C = bldE A c [.str [], .str []] (i + 1) := by rw [← hAg i hlt]; exact bldE_set (by omega) (by omega)
        have hwb : ∀ m, ((bldE A c [.str [], .str []] (i + 1)).all fun e => e.all (bdV m)) = true := bld_bd (bldE_pure hA hz)
        have hlc : (i : Int) < (c : Int) := by omega
        have hgi := hg l.es[i] (List.getElem_mem hlt)
        have c1 := hgi
        have hy := And.intro (hlt) (And.intro (hwl) (And.intro (hlc) (And.intro (hwg) (And.intro (hws) (hwb)))))
        have hdf := hy0
        have eL := @toUseS_L1.eq_1
        have hm0 := hm
        have hlt0 := hlt
        exact wk1n
      · have hge : l.es.length ≤ i := by first | (simpa using hc) | (simp at hc; omega)
        try simp -implicitDefEqProofs [-List.map_take, -List.map_drop, go_sem, bldE_zero]
        obtain rfl : i = l.es.length := by omega
        have hwf0 : bldF A r [.str [], .str []] fillUse.C 0 = bldE A c [.str [], .str []] l.es.length := by rw [← hAl]; exact bldF_zero (by omega)
        have hwb : ∀ m, ((bldE A c [.str [], .str []] l.es.length).all fun e => e.all (bdV m)) = true := bld_bd (bldE_pure hA hz)
        refine run_iter (r) (toUseS_L2 l A c r) (fun i2 a2 => True) () (gh_auto (by simp [go_sem, toUseS_L2, hwf0, hwb])) (by first | (simp; done) | (simp []; done) | (simp []; omega) | grind) ?_
        intro i2 a2 hi2 hj2
        simp -implicitDefEqProofs [-List.map_take, -List.map_drop, go_sem, toUseS_L2, hwf0, hwb]
        refine cnd_split (fun hc2 => ?_) (fun hc2 => ?_)
        · have hlt2 : i2 < r := by first | (simpa using hc2) | (simp at hc2; omega)
          simp -implicitDefEqProofs [-List.map_take, -List.map_drop, go_sem, hlt2, hwf0, hwb]
          have hwl2 : (bldF A r [.str [], .str []] fillUse.C i2).length = c := by rw [bldF_len (by omega)]; omega
          have hwg2 : (bldF A r [.str [], .str []] fillUse.C i2)[l.es.length + i2]? = some [.str [], .str []] := by rw [← hAl]; exact bldF_get (by omega)
          have hws2 : (bldF A r [.str [], .str []] fillUse.C i2).set (l.es.length + i2) fillUse.C = bldF A r [.str [], .str []] fillUse.C (i2 + 1) := by rw [← hAl]; exact bldF_set (by omega)
          have hwb2 : ∀ m, ((bldF A r [.str [], .str []] fillUse.C (i2 + 1)).all fun e => e.all (bdV m)) = true := bld_bd (bldF_pure hA hz hfp)
          have hlc2 : (0 : Int) ≤ (l.es.length : Int) + (i2 : Int) ∧ (l.es.length : Int) + (i2 : Int) < (c : Int) := by omega
          have hwt2 : ((l.es.length : Int) + (i2 : Int)).toNat = l.es.length + i2 := by omega
          have hwi2 : IntKind.i64.wrap ((l.es.length : Int) + (i2 : Int) + 1) = (l.es.length : Int) + ((i2 : Int) + 1) := by rw [wrap_small (by omega) (by omega)]; omega
          have hm2 : r ≤ maxLen := by simp only [maxLen]; omega
          have c1 := fillUse_ct
          have hy := And.intro (hlt2) (And.intro (hwl2) (And.intro (hlc2) (And.intro (hwt2) (And.intro (hwg2) (And.intro (hws2) (And.intro (hwb2) (hwi2)))))))
          have hdf := hy0
          have eL := @toUseS_L2.eq_1
          have hm0 := hm2
          have hlt0 := hlt2
          exact wk1n
        · have hge2 : r ≤ i2 := by first | (simpa using hc2) | (simp at hc2; omega)
          try simp -implicitDefEqProofs [-List.map_take, -List.map_drop, go_sem, hwf0, hwb]
          obtain rfl : i2 = r := by omega
          have hwl3 : (bldF A i2 [.str [], .str []] fillUse.C i2).length = c := by rw [bldF_len (by omega)]; omega
          have hwsl : slV [some ⟨bldF A i2 [.str [], .str []] fillUse.C i2, 2, 99, true, false⟩] 2 (.ref 0 c 0 c (some c)) none (some (.int .i64 (l.es.length : Int))) none = .ob True (.ref 0 c 0 l.es.length (some c)) := sl_own rfl hwl3 (by omega)
          simp -implicitDefEqProofs [-List.map_take, -List.map_drop, go_sem, hwsl]
          refine end_ref (o := 0) (c := c) (k := l.es.length) (es := bldF A i2 [.str [], .str []] fillUse.C i2) (sz := 2) (ty := 99) (arr := true) (frz := false) (by simp) (by simp [go_sem]) (by simp [go_sem]) hwl3 (bldF_pure hA hz hfp) ?_
          rw [bldF_full, ← hAl, List.take_left, List.drop_left]
  · have h1 := hcase hb
    subst h1
    simp at hb
    obtain ⟨rfl, hb⟩ := hb
    have hbt : ((l.es.length : Int) == 0) = true := by simp [hb]
    simp -implicitDefEqProofs [-List.map_take, -List.map_drop, go_sem, hbt]
    have hy := hbt
    have hdf := hy0
    exact wk0
def toBindS_L1 (l : Sl Bind) (bare : Bool) (A : List (List PV)) (c : Nat) (i : Nat) (_ : Unit) : St := ⟨lk [(0, l.I Bind.C), (1, .bool bare), (5, .ref 0 c 0 c (some c)), (6, .int .i64 i)], [some ⟨bldE A c [.str [], .str []] i, 2, 118, true, false⟩], []⟩
def toBindS_L2 (l : Sl Bind) (A : List (List PV)) (c r : Nat) (j : Nat) (_ : Unit) : St := ⟨lk [(0, l.I Bind.C), (5, .ref 0 c 0 c (some c)), (7, .int .i64 ((l.es.length : Int) + (j : Int)))], [some ⟨bldF A r [.str [], .str []] fillBind.C j, 2, 118, true, false⟩], []⟩
open Z in
def mf_laws_toBindS : MF := ⟨51, [(.t 4)], q (r [k 4 (.mov (.c (.imm [] [] true)))]) (q (q (r [m 8 1, m 9 8, g 10 (.mov (t 0)) 9 true, g 11 (.lenl (t 10)) 9 true, g 12 (.bin .eql (t 11) (i 0)) 9 true, k 13 (.pick (t 9) (t 12) (b false))]) (.cond (t 13) (q (r [k 4 (.mov (.c (.imm [] [] true)))]) .ret) .skip)) (q (r [m 14 0, k 15 (.lenl (t 14)), m 16 0, k 17 (.lenl (t 16)), k 18 (c 30 [t 17]), k 19 (.bin .add (t 15) (t 18)), k 20 (.mks 118 2 32 [.str [], .str []] (t 19) (t 19)), m 5 20]) (q (q (r [k 6 (.mov (i 0))]) (.blk 0 (.loop (q (q (r [m 21 6, m 22 0, k 23 (.lenl (t 22)), k 24 (.bin .lss (t 21) (t 23))]) (.cond (t 24) .skip (.exit 0))) (q (.blk 1 (r [m 27 5, m 28 6, m 29 0, m 30 6, k 31 (.iadr 2 (t 29) (t 30)), k 32 (.load true 2 (t 31)), k 33 (c 206 [t 32]), k 34 (.iadr 2 (t 27) (t 28)), n (.store 2 (t 34) (t 33))])) (r [m 25 6, k 26 (.bin .add (t 25) (i 1)), m 6 26])))))) (q (q (r [m 35 0, k 36 (.lenl (t 35)), m 7 36]) (.blk 2 (.loop (q (q (r [m 37 7, m 38 5, k 39 (.lenl (t 38)), k 40 (.bin .lss (t 37) (t 39))]) (.cond (t 40) .skip (.exit 2))) (q (.blk 3 (r [m 43 5, m 44 7, k 45 (c 129 []), k 46 (.iadr 2 (t 43) (t 44)), n (.store 2 (t 46) (t 45))])) (r [m 41 7, k 42 (.bin .add (t 41) (i 1)), m 7 42])))))) (q (r [m 47 5, m 48 0, k 49 (.lenl (t 48)), k 50 (.sl 2 (t 47) none (some (t 49)) none), m 4 50]) .ret)))))⟩
theorem fit_laws_toBindS : Fit Tryz.prog 175 Tryz.f175 mf_laws_toBindS := ⟨by kernel_rfl, Tryz.func175, by kernel_rfl, by kernel_rfl, by kernel_rfl, by kernel_rfl⟩
theorem toBindS_ct (l : Sl Bind) (bare : Bool) (hl : l.es.length ≤ 1000000) (tf : Bind → Bind) (hg : ∀ a, a ∈ l.es → Ct Tryz.prog 206 [.agg a.C] (.agg (tf a).C)) :
    Ct Tryz.prog 175 [l.I Bind.C, .bool bare] ((toS Bind.C fillBind bare (l.es.map tf)).I Bind.C) := by
  obtain ⟨Y, hY⟩ : ∃ Y, Y = (toS Bind.C fillBind bare (l.es.map tf)).I Bind.C := ⟨_, rfl⟩
  rw [← hY]
  refine ct_of_run fit_laws_toBindS (by simp [mf_laws_toBindS]) (by simp [go_sem]) fun hd => ?_
  simp -implicitDefEqProofs [-List.map_take, -List.map_drop, go_sem, mf_laws_toBindS]
  have hm : l.es.length ≤ maxLen := sl_deep hd.1
  have hA : ∀ e, e ∈ l.es.map (fun x => (tf x).C) → pureL e = true := by
    intro e he
    obtain ⟨x, _, rfl⟩ := List.mem_map.1 he
    exact Bind.C_pure _
  obtain ⟨A, hAe⟩ : ∃ A, A = l.es.map (fun x => (tf x).C) := ⟨_, rfl⟩
  have hAl : A.length = l.es.length := by rw [hAe, List.length_map]
  have hAg : ∀ (i : Nat) (h : i < l.es.length), A[i]'(by omega) = (tf l.es[i]).C := fun i h => by subst hAe; simp
  rw [← hAe] at hA
  have hrl := room_le l.es.length
  have hcase : (bare && l.es.length == 0) = true → Y = .imm [] [] true := fun h => by
    rw [hY]; simp only [toS, List.length_map, h, if_true, Sl.I, List.map_nil]
  have hcase2 : (bare && l.es.length == 0) = false → Y = .imm A (List.replicate (room l.es.length) fillBind.C) true := fun h => by
    rw [hY]
    simp only [toS, List.length_map, h, Bool.false_eq_true, if_false, Sl.I, List.map_map, hAe, List.map_replicate]
    rfl
  cases hb : (bare && l.es.length == 0)
  · have h1 := hcase2 hb
    obtain ⟨r, hr⟩ : ∃ r, r = room l.es.length := ⟨_, rfl⟩
    obtain ⟨c, hc⟩ : ∃ c, c = l.es.length + r := ⟨_, rfl⟩
    rw [← hr] at hrl h1
    subst h1
    clear hY hcase hcase2
    have hw0 : IntKind.i64.wrap ((l.es.length : Int) + (r : Int)) = (c : Int) := by rw [wrap_small (by omega) (by omega)]; omega
    have hrm := room_ct l.es.length
    rw [← hr] at hrm
    have hz : pureL [.str [], .str []] = true := rfl
    have hfp : pureL fillBind.C = true := Bind.C_pure _
    have hbnd : c * 1000 ≤ 140737488355328 := by omega
    cases bare
    · try simp only [Bool.true_and, beq_eq_false_iff_ne, ne_eq] at hb
      have hbz : ((l.es.length : Int) == 0) = decide (l.es.length = 0) := by rw [Bool.eq_iff_iff]; simp
      simp -implicitDefEqProofs [-List.map_take, -List.map_drop, go_sem]
      repeat' first
        | ((first | refine gv_split (fun h => ?_) (fun h => ?_) | refine cnd_split (fun h => ?_) (fun h => ?_) | refine cgv_split (fun h => ?_) (fun h => ?_)) <;> (try (have hp := h; simp at hp)) <;> simp -implicitDefEqProofs [-List.map_take, -List.map_drop, go_sem, h, hw0, hb, hbz])
        | (refine And.intro (by first | omega | (simp only [maxLen]; omega) | (simp_all; done) | (simp_all; omega)) ?_; try simp -implicitDefEqProofs [-List.map_take, -List.map_drop, go_sem, hw0, hb, hbz])
        | ((first | refine stp_ct (hrm) (by simp [go_sem, hw0, hb, hbz]) ?_ ?_ | refine cstp_ct (hrm) (by simp [go_sem, hw0, hb, hbz]) ?_ ?_); (simp [go_sem]); simp -implicitDefEqProofs [-List.map_take, -List.map_drop, go_sem, hw0, hb, hbz])
        | (refine run_dreg' (by decide) ?_; simp -implicitDefEqProofs [-List.map_take, -List.map_drop, go_sem, hw0, hb, hbz])
        | ((first | refine end_tup _ (by simp) (by simp [go_sem]; rfl) (by simp [go_sem]) ?_); first | (simp [go_sem, *]; done) | grind | (simp [go_sem]; grind) | (simp_all [go_sem]; done) | (simp_all [go_sem]; omega))
      refine run_iter (l.es.length) (toBindS_L1 l false A c) (fun i a => True) () (gh_auto (by simp [go_sem, toBindS_L1, bldE_zero])) (by first | (simp; done) | (simp []; done) | (simp []; omega) | grind) ?_
      intro i a hi hj
      simp -implicitDefEqProofs [-List.map_take, -List.map_drop, go_sem, toBindS_L1, bldE_zero]
      refine cnd_split (fun hc => ?_) (fun hc => ?_)
      · have hlt : i < l.es.length := by first | (simpa using hc) | (simp at hc; omega)
        simp -implicitDefEqProofs [-List.map_take, -List.map_drop, go_sem, hlt, bldE_zero]
        have hwl : (bldE A c [.str [], .str []] i).length = c := bldE_len (by omega) (by omega)
        have hwg : (bldE A c [.str [], .str []] i)[i]? = some [.str [], .str []] := bldE_get (by omega) (by omega)
        have hws : (bldE A c [.str [], .str []] i).set i (tf l.es[i]).C = bldE A c [.str [], .str []] (i + 1) := by rw [← hAg i hlt]; exact bldE_set (by omega) (by omega)
        have hwb : ∀ m, ((bldE A c [.str [], .str []] (i + 1)).all fun e => e.all (bdV m)) = true := bld_bd (bldE_pure hA hz)
        have hlc : (i : Int) < (c : Int) := by omega
        have hgi := hg l.es[i] (List.getElem_mem hlt)
        have c1 := hgi
        have hy := And.intro (hlt) (And.intro (hwl) (And.intro (hlc) (And.intro (hwg) (And.intro (hws) (hwb)))))
        have hdf := hy0
        have eL := @toBindS_L1.eq_1
        have hm0 := hm
        have hlt0 := hlt
        exact wk1n
      · have hge : l.es.length ≤ i := by first | (simpa using hc) | (simp at hc; omega)
        try simp -implicitDefEqProofs [-List.map_take, -List.map_drop, go_sem, bldE_zero]
        obtain rfl : i = l.es.length := by omega
        have hwf0 : bldF A r [.str [], .str []] fillBind.C 0 = bldE A c [.str [], .str []] l.es.length := by rw [← hAl]; exact bldF_zero (by omega)
        have hwb : ∀ m, ((bldE A c [.str [], .str []] l.es.length).all fun e => e.all (bdV m)) = true := bld_bd (bldE_pure hA hz)
        refine run_iter (r) (toBindS_L2 l A c r) (fun i2 a2 => True) () (gh_auto (by simp [go_sem, toBindS_L2, hwf0, hwb])) (by first | (simp; done) | (simp []; done) | (simp []; omega) | grind) ?_
        intro i2 a2 hi2 hj2
        simp -implicitDefEqProofs [-List.map_take, -List.map_drop, go_sem, toBindS_L2, hwf0, hwb]
        refine cnd_split (fun hc2 => ?_) (fun hc2 => ?_)
        · have hlt2 : i2 < r := by first | (simpa using hc2) | (simp at hc2; omega)
          simp -implicitDefEqProofs [-List.map_take, -List.map_drop, go_sem, hlt2, hwf0, hwb]
          have hwl2 : (bldF A r [.str [], .str []] fillBind.C i2).length = c := by rw [bldF_len (by omega)]; omega
          have hwg2 : (bldF A r [.str [], .str []] fillBind.C i2)[l.es.length + i2]? = some [.str [], .str []] := by rw [← hAl]; exact bldF_get (by omega)
          have hws2 : (bldF A r [.str [], .str []] fillBind.C i2).set (l.es.length + i2) fillBind.C = bldF A r [.str [], .str []] fillBind.C (i2 + 1) := by rw [← hAl]; exact bldF_set (by omega)
          have hwb2 : ∀ m, ((bldF A r [.str [], .str []] fillBind.C (i2 + 1)).all fun e => e.all (bdV m)) = true := bld_bd (bldF_pure hA hz hfp)
          have hlc2 : (0 : Int) ≤ (l.es.length : Int) + (i2 : Int) ∧ (l.es.length : Int) + (i2 : Int) < (c : Int) := by omega
          have hwt2 : ((l.es.length : Int) + (i2 : Int)).toNat = l.es.length + i2 := by omega
          have hwi2 : IntKind.i64.wrap ((l.es.length : Int) + (i2 : Int) + 1) = (l.es.length : Int) + ((i2 : Int) + 1) := by rw [wrap_small (by omega) (by omega)]; omega
          have hm2 : r ≤ maxLen := by simp only [maxLen]; omega
          have c1 := fillBind_ct
          have hy := And.intro (hlt2) (And.intro (hwl2) (And.intro (hlc2) (And.intro (hwt2) (And.intro (hwg2) (And.intro (hws2) (And.intro (hwb2) (hwi2)))))))
          have hdf := hy0
          have eL := @toBindS_L2.eq_1
          have hm0 := hm2
          have hlt0 := hlt2
          exact wk1n
        · have hge2 : r ≤ i2 := by first | (simpa using hc2) | (simp at hc2; omega)
          try simp -implicitDefEqProofs [-List.map_take, -List.map_drop, go_sem, hwf0, hwb]
          obtain rfl : i2 = r := by omega
          have hwl3 : (bldF A i2 [.str [], .str []] fillBind.C i2).length = c := by rw [bldF_len (by omega)]; omega
          have hwsl : slV [some ⟨bldF A i2 [.str [], .str []] fillBind.C i2, 2, 118, true, false⟩] 2 (.ref 0 c 0 c (some c)) none (some (.int .i64 (l.es.length : Int))) none = .ob True (.ref 0 c 0 l.es.length (some c)) := sl_own rfl hwl3 (by omega)
          simp -implicitDefEqProofs [-List.map_take, -List.map_drop, go_sem, hwsl]
          refine end_ref (o := 0) (c := c) (k := l.es.length) (es := bldF A i2 [.str [], .str []] fillBind.C i2) (sz := 2) (ty := 118) (arr := true) (frz := false) (by simp) (by simp [go_sem]) (by simp [go_sem]) hwl3 (bldF_pure hA hz hfp) ?_
          rw [bldF_full, ← hAl, List.take_left, List.drop_left]
    · try simp only [Bool.true_and, beq_eq_false_iff_ne, ne_eq] at hb
      have hbz : ((l.es.length : Int) == 0) = decide (l.es.length = 0) := by rw [Bool.eq_iff_iff]; simp
      simp -implicitDefEqProofs [-List.map_take, -List.map_drop, go_sem]
      repeat' first
        | ((first | refine gv_split (fun h => ?_) (fun h => ?_) | refine cnd_split (fun h => ?_) (fun h => ?_) | refine cgv_split (fun h => ?_) (fun h => ?_)) <;> (try (have hp := h; simp at hp)) <;> simp -implicitDefEqProofs [-List.map_take, -List.map_drop, go_sem, h, hw0, hb, hbz])
        | (refine And.intro (by first | omega | (simp only [maxLen]; omega) | (simp_all; done) | (simp_all; omega)) ?_; try simp -implicitDefEqProofs [-List.map_take, -List.map_drop, go_sem, hw0, hb, hbz])
        | ((first | refine stp_ct (hrm) (by simp [go_sem, hw0, hb, hbz]) ?_ ?_ | refine cstp_ct (hrm) (by simp [go_sem, hw0, hb, hbz]) ?_ ?_); (simp [go_sem]); simp -implicitDefEqProofs [-List.map_take, -List.map_drop, go_sem, hw0, hb, hbz])
        | (refine run_dreg' (by decide) ?_; simp -implicitDefEqProofs [-List.map_take, -List.map_drop, go_sem, hw0, hb, hbz])
        | ((first | refine end_tup _ (by simp) (by simp [go_sem]; rfl) (by simp [go_sem]) ?_); first | (simp [go_sem, *]; done) | grind | (simp [go_sem]; grind) | (simp_all [go_sem]; done) | (simp_all [go_sem]; omega))
      refine run_iter (l.es.length) (toBindS_L1 l true A c) (fun i a => True) () (gh_auto (by simp [go_sem, toBindS_L1, bldE_zero])) (by first | (simp; done) | (simp []; done) | (simp []; omega) | grind) ?_
      intro i a hi hj
      simp -implicitDefEqProofs [-List.map_take, -List.map_drop, go_sem, toBindS_L1, bldE_zero]
      refine cnd_split (fun hc => ?_) (fun hc => ?_)
      · have hlt : i < l.es.length := by first | (simpa using hc) | (simp at hc; omega)
        simp -implicitDefEqProofs [-List.map_take, -List.map_drop, go_sem, hlt, bldE_zero]
        have hwl : (bldE A c [.str [], .str []] i).length = c := bldE_len (by omega) (by omega)
        have hwg : (bldE A c [.str [], .str []] i)[i]? = some [.str [], .str []] := bldE_get (by omega) (by omega)
        have hws : (bldE A c [.str [], .str []] i).set i (tf l.es[i]).C = bldE A c [.str [], .str []] (i + 1) := by rw [← hAg i hlt]; exact bldE_set (by omega) (by omega)
        have hwb : ∀ m, ((bldE A c [.str [], .str []] (i + 1)).all fun e => e.all (bdV m)) = true := bld_bd (bldE_pure hA hz)
        have hlc : (i : Int) < (c : Int) := by omega
        have hgi := hg l.es[i] (List.getElem_mem hlt)
        have c1 := hgi
        have hy := And.intro (hlt) (And.intro (hwl) (And.intro (hlc) (And.intro (hwg) (And.intro (hws) (hwb)))))
        have hdf := hy0
        have eL := @toBindS_L1.eq_1
        have hm0 := hm
        have hlt0 := hlt
        exact wk1n
      · have hge : l.es.length ≤ i := by first | (simpa using hc) | (simp at hc; omega)
        try simp -implicitDefEqProofs [-List.map_take, -List.map_drop, go_sem, bldE_zero]
        obtain rfl : i = l.es.length := by omega
        have hwf0 : bldF A r [.str [], .str []] fillBind.C 0 = bldE A c [.str [], .str []] l.es.length := by rw [← hAl]; exact bldF_zero (by omega)
        have hwb : ∀ m, ((bldE A c [.str [], .str []] l.es.length).all fun e => e.all (bdV m)) = true := bld_bd (bldE_pure hA hz)
        refine run_iter (r) (toBindS_L2 l A c r) (fun i2 a2 => True) () (gh_auto (by simp [go_sem, toBindS_L2, hwf0, hwb])) (by first | (simp; done) | (simp []; done) | (simp []; omega) | grind) ?_
        intro i2 a2 hi2 hj2
        simp -implicitDefEqProofs [-List.map_take, -List.map_drop, go_sem, toBindS_L2, hwf0, hwb]
        refine cnd_split (fun hc2 => ?_) (fun hc2 => ?_)
        · have hlt2 : i2 < r := by first | (simpa using hc2) | (simp at hc2; omega)
          simp -implicitDefEqProofs [-List.map_take, -List.map_drop, go_sem, hlt2, hwf0, hwb]
          have hwl2 : (bldF A r [.str [], .str []] fillBind.C i2).length = c := by rw [bldF_len (by omega)]; omega
          have hwg2 : (bldF A r [.str [], .str []] fillBind.C i2)[l.es.length + i2]? = some [.str [], .str []] := by rw [← hAl]; exact bldF_get (by omega)
          have hws2 : (bldF A r [.str [], .str []] fillBind.C i2).set (l.es.length + i2) fillBind.C = bldF A r [.str [], .str []] fillBind.C (i2 + 1) := by rw [← hAl]; exact bldF_set (by omega)
          have hwb2 : ∀ m, ((bldF A r [.str [], .str []] fillBind.C (i2 + 1)).all fun e => e.all (bdV m)) = true := bld_bd (bldF_pure hA hz hfp)
          have hlc2 : (0 : Int) ≤ (l.es.length : Int) + (i2 : Int) ∧ (l.es.length : Int) + (i2 : Int) < (c : Int) := by omega
          have hwt2 : ((l.es.length : Int) + (i2 : Int)).toNat = l.es.length + i2 := by omega
          have hwi2 : IntKind.i64.wrap ((l.es.length : Int) + (i2 : Int) + 1) = (l.es.length : Int) + ((i2 : Int) + 1) := by rw [wrap_small (by omega) (by omega)]; omega
          have hm2 : r ≤ maxLen := by simp only [maxLen]; omega
          have c1 := fillBind_ct
          have hy := And.intro (hlt2) (And.intro (hwl2) (And.intro (hlc2) (And.intro (hwt2) (And.intro (hwg2) (And.intro (hws2) (And.intro (hwb2) (hwi2)))))))
          have hdf := hy0
          have eL := @toBindS_L2.eq_1
          have hm0 := hm2
          have hlt0 := hlt2
          exact wk1n
        · have hge2 : r ≤ i2 := by first | (simpa using hc2) | (simp at hc2; omega)
          try simp -implicitDefEqProofs [-List.map_take, -List.map_drop, go_sem, hwf0, hwb]
          obtain rfl : i2 = r := by omega
          have hwl3 : (bldF A i2 [.str [], .str []] fillBind.C i2).length = c := by rw [bldF_len (by omega)]; omega
          have hwsl : slV [some ⟨bldF A i2 [.str [], .str []] fillBind.C i2, 2, 118, true, false⟩] 2 (.ref 0 c 0 c (some c)) none (some (.int .i64 (l.es.length : Int))) none = .ob True (.ref 0 c 0 l.es.length (some c)) := sl_own rfl hwl3 (by omega)
          simp -implicitDefEqProofs [-List.map_take, -List.map_drop, go_sem, hwsl]
          refine end_ref (o := 0) (c := c) (k := l.es.length) (es := bldF A i2 [.str [], .str []] fillBind.C i2) (sz := 2) (ty := 118) (arr := true) (frz := false) (by simp) (by simp [go_sem]) (by simp [go_sem]) hwl3 (bldF_pure hA hz hfp) ?_
          rw [bldF_full, ← hAl, List.take_left, List.drop_left]
  · have h1 := hcase hb
    subst h1
    simp at hb
    obtain ⟨rfl, hb⟩ := hb
    have hbt : ((l.es.length : Int) == 0) = true := by simp [hb]
    simp -implicitDefEqProofs [-List.map_take, -List.map_drop, go_sem, hbt]
    have hy := hbt
    have hdf := hy0
    exact wk0
def toExprS_L1 (l : Sl LExpr) (bare : Bool) (A : List (List PV)) (c : Nat) (i : Nat) (_ : Unit) : St := ⟨lk [(0, l.I LExpr.C), (1, .bool bare), (5, .ref 0 c 0 c (some c)), (6, .int .i64 i)], [some ⟨bldE A c [.int .i64 0, .int .i64 0, .str [], .imm [] [] true] i, 4, 48, true, false⟩], []⟩
def toExprS_L2 (l : Sl LExpr) (A : List (List PV)) (c r : Nat) (j : Nat) (_ : Unit) : St := ⟨lk [(0, l.I LExpr.C), (5, .ref 0 c 0 c (some c)), (7, .int .i64 ((l.es.length : Int) + (j : Int)))], [some ⟨bldF A r [.int .i64 0, .int .i64 0, .str [], .imm [] [] true] fillExpr.C j, 4, 48, true, false⟩], []⟩
open Z in
def mf_laws_toExprS : MF := ⟨52, [(.t 4)], q (r [k 4 (.mov (.c (.imm [] [] true)))]) (q (q (r [m 8 1, m 9 8, g 10 (.mov (t 0)) 9 true, g 11 (.lenl (t 10)) 9 true, g 12 (.bin .eql (t 11) (i 0)) 9 true, k 13 (.pick (t 9) (t 12) (b false))]) (.cond (t 13) (q (r [k 4 (.mov (.c (.imm [] [] true)))]) .ret) .skip)) (q (r [m 14 0, k 15 (.lenl (t 14)), m 16 0, k 17 (.lenl (t 16)), k 18 (c 30 [t 17]), k 19 (.bin .add (t 15) (t 18)), k 20 (.mks 48 4 56 [.int .i64 0, .int .i64 0, .str [], .imm [] [] true] (t 19) (t 19)), m 5 20]) (q (q (r [k 6 (.mov (i 0))]) (.blk 0 (.loop (q (q (r [m 21 6, m 22 0, k 23 (.lenl (t 22)), k 24 (.bin .lss (t 21) (t 23))]) (.cond (t 24) .skip (.exit 0))) (q (.blk 1 (r [m 27 5, m 28 6, m 29 0, m 30 6, k 31 (.iadr 4 (t 29) (t 30)), k 32 (.load true 4 (t 31)), m 33 1, k 34 (c 22 [t 32, t 33]), k 35 (.iadr 4 (t 27) (t 28)), n (.store 4 (t 35) (t 34))])) (r [m 25 6, k 26 (.bin .add (t 25) (i 1)), m 6 26])))))) (q (q (r [m 36 0, k 37 (.lenl (t 36)), m 7 37]) (.blk 2 (.loop (q (q (r [m 38 7, m 39 5, k 40 (.lenl (t 39)), k 41 (.bin .lss (t 38) (t 40))]) (.cond (t 41) .skip (.exit 2))) (q (.blk 3 (r [m 44 5, m 45 7, k 46 (c 105 []), k 47 (.iadr 4 (t 44) (t 45)), n (.store 4 (t 47) (t 46))])) (r [m 42 7, k 43 (.bin .add (t 42) (i 1)), m 7 43])))))) (q (r [m 48 5, m 49 0, k 50 (.lenl (t 49)), k 51 (.sl 4 (t 48) none (some (t 50)) none), m 4 51]) .ret)))))⟩
theorem fit_laws_toExprS : Fit Tryz.prog 52 Tryz.f52 mf_laws_toExprS := ⟨by kernel_rfl, Tryz.func52, by kernel_rfl, by kernel_rfl, by kernel_rfl, by kernel_rfl⟩
theorem toExprS_ct (l : Sl LExpr) (bare : Bool) (hl : l.es.length ≤ 1000000) (tf : LExpr → LExpr) (hg : ∀ a, a ∈ l.es → Ct Tryz.prog 22 [.agg a.C, .bool bare] (.agg (tf a).C)) :
    Ct Tryz.prog 52 [l.I LExpr.C, .bool bare] ((toS LExpr.C fillExpr bare (l.es.map tf)).I LExpr.C) := by
  obtain ⟨Y, hY⟩ : ∃ Y, Y = (toS LExpr.C fillExpr bare (l.es.map tf)).I LExpr.C := ⟨_, rfl⟩
  rw [← hY]
  refine ct_of_run fit_laws_toExprS (by simp [mf_laws_toExprS]) (by simp [go_sem]) fun hd => ?_
  simp -implicitDefEqProofs [-List.map_take, -List.map_drop, go_sem, mf_laws_toExprS]
  have hm : l.es.length ≤ maxLen := sl_deep hd.1
  have hA : ∀ e, e ∈ l.es.map (fun x => (tf x).C) → pureL e = true := by
    intro e he
    obtain ⟨x, _, rfl⟩ := List.mem_map.1 he
    exact LExpr.C_pure _
  obtain ⟨A, hAe⟩ : ∃ A, A = l.es.map (fun x => (tf x).C) := ⟨_, rfl⟩
  have hAl : A.length = l.es.length := by rw [hAe, List.length_map]
  have hAg : ∀ (i : Nat) (h : i < l.es.length), A[i]'(by omega) = (tf l.es[i]).C := fun i h => by subst hAe; simp
  rw [← hAe] at hA
  have hrl := room_le l.es.length
  have hcase : (bare && l.es.length == 0) = true → Y = .imm [] [] true := fun h => by
    rw [hY]; simp only [toS, List.length_map, h, if_true, Sl.I, List.map_nil]
  have hcase2 : (bare && l.es.length == 0) = false → Y = .imm A (List.replicate (room l.es.length) fillExpr.C) true := fun h => by
    rw [hY]
    simp only [toS, List.length_map, h, Bool.false_eq_true, if_false, Sl.I, List.map_map, hAe, List.map_replicate]
    rfl
  cases hb : (bare && l.es.length == 0)
  · have h1 := hcase2 hb
    obtain ⟨r, hr⟩ : ∃ r, r = room l.es.length := ⟨_, rfl⟩
    obtain ⟨c, hc⟩ : ∃ c, c = l.es.length + r := ⟨_, rfl⟩
    rw [← hr] at hrl h1
    subst h1
    clear hY hcase hcase2
    have hw0 : IntKind.i64.wrap ((l.es.length : Int) + (r : Int)) = (c : Int) := by rw [wrap_small (by omega) (by omega)]; omega
    have hrm := room_ct l.es.length
    rw [← hr] at hrm
    have hz : pureL [.int .i64 0, .int .i64 0, .str [], .imm [] [] true] = true := rfl
    have hfp : pureL fillExpr.C = true := LExpr.C_pure _
    have hbnd : c * 1000 ≤ 140737488355328 := by omega
    cases bare
    · try simp only [Bool.true_and, beq_eq_false_iff_ne, ne_eq] at hb
      have hbz : ((l.es.length : Int) == 0) = decide (l.es.length = 0) := by rw [Bool.eq_iff_iff]; simp
      simp -implicitDefEqProofs [-List.map_take, -List.map_drop, go_sem]
      repeat' first
        | ((first | refine gv_split (fun h => ?_) (fun h => ?_) | refine cnd_split (fun h => ?_) (fun h => ?_) | refine cgv_split (fun h => ?_) (fun h => ?_)) <;> (try (have hp := h; simp at hp)) <;> simp -implicitDefEqProofs [-List.map_take, -List.map_drop, go_sem, h, hw0, hb, hbz])
        | (refine And.intro (by first | omega | (simp only [maxLen]; omega) | (simp_all; done) | (simp_all; omega)) ?_; try simp -implicitDefEqProofs [-List.map_take, -List.map_drop, go_sem, hw0, hb, hbz])
        | ((first | refine stp_ct (hrm) (by simp [go_sem, hw0, hb, hbz]) ?_ ?_ | refine cstp_ct (hrm) (by simp [go_sem, hw0, hb, hbz]) ?_ ?_); (simp [go_sem]); simp -implicitDefEqProofs [-List.map_take, -List.map_drop, go_sem, hw0, hb, hbz])
        | (refine run_dreg' (by decide) ?_; simp -implicitDefEqProofs [-List.map_take, -List.map_drop, go_sem, hw0, hb, hbz])
        | ((first | refine end_tup _ (by simp) (by simp [go_sem]; rfl) (by simp [go_sem]) ?_); first | (simp [go_sem, *]; done) | grind | (simp [go_sem]; grind) | (simp_all [go_sem]; done) | (simp_all [go_sem]; omega))
      refine run_iter (l.es.length) (toExprS_L1 l false A c) (fun i a => True) () (gh_auto (by simp [go_sem, toExprS_L1, bldE_zero])) (by first | (simp; done) | (simp []; done) | (simp []; omega) | grind) ?_
      intro i a hi hj
      simp -implicitDefEqProofs [-List.map_take, -List.map_drop, go_sem, toExprS_L1, bldE_zero]
      refine cnd_split (fun hc => ?_) (fun hc => ?_)
      · have hlt : i < l.es.length := by first | (simpa using hc) | (simp at hc; omega)
        simp -implicitDefEqProofs [-List.map_take, -List.map_drop, go_sem, hlt, bldE_zero]
        have hwl : (bldE A c [.int .i64 0, .int .i64 0, .str [], .imm [] [] true] i).length = c := bldE_len (by omega) (by omega)
        have hwg : (bldE A c [.int .i64 0, .int .i64 0, .str [], .imm [] [] true] i)[i]? = some [.int .i64 0, .int .i64 0, .str [], .imm [] [] true] := bldE_get (by omega) (by omega)
        have hws : (bldE A c [.int .i64 0, .int .i64 0, .str [], .imm [] [] true] i).set i (tf l.es[i]).C = bldE A c [.int .i64 0, .int .i64 0, .str [], .imm [] [] true] (i + 1) := by rw [← hAg i hlt]; exact bldE_set (by omega) (by omega)
        have hwb : ∀ m, ((bldE A c [.int .i64 0, .int .i64 0, .str [], .imm [] [] true] (i + 1)).all fun e => e.all (bdV m)) = true := bld_bd (bldE_pure hA hz)
        have hlc : (i : Int) < (c : Int) := by omega
        have hgi := hg l.es[i] (List.getElem_mem hlt)
        have c1 := hgi
        have hy := And.intro (hlt) (And.intro (hwl) (And.intro (hlc) (And.intro (hwg) (And.intro (hws) (hwb)))))
        have hdf := hy0
        have eL := @toExprS_L1.eq_1
        have hm0 := hm
        have hlt0 := hlt
        exact wk1n
      · have hge : l.es.length ≤ i := by first | (simpa using hc) | (simp at hc; omega)
        try simp -implicitDefEqProofs [-List.map_take, -List.map_drop, go_sem, bldE_zero]
        obtain rfl : i = l.es.length := by omega
        have hwf0 : bldF A r [.int .i64 0, .int .i64 0, .str [], .imm [] [] true] fillExpr.C 0 = bldE A c [.int .i64 0, .int .i64 0, .str [], .imm [] [] true] l.es.length := by rw [← hAl]; exact bldF_zero (by omega)
        have hwb : ∀ m, ((bldE A c [.int .i64 0, .int .i64 0, .str [], .imm [] [] true] l.es.length).all fun e => e.all (bdV m)) = true := bld_bd (bldE_pure hA hz)
        refine run_iter (r) (toExprS_L2 l A c r) (fun i2 a2 => True) () (gh_auto (by simp [go_sem, toExprS_L2, hwf0, hwb])) (by first | (simp; done) | (simp []; done) | (simp []; omega) | grind) ?_
        intro i2 a2 hi2 hj2
        simp -implicitDefEqProofs [-List.map_take, -List.map_drop, go_sem, toExprS_L2, hwf0, hwb]
        refine cnd_split (fun hc2 => ?_) (fun hc2 => ?_)
        · have hlt2 : i2 < r := by first | (simpa using hc2) | (simp at hc2; omega)
          simp -implicitDefEqProofs [-List.map_take, -List.map_drop, go_sem, hlt2, hwf0, hwb]
          have hwl2 : (bldF A r [.int .i64 0, .int .i64 0, .str [], .imm [] [] true] fillExpr.C i2).length = c := by rw [bldF_len (by omega)]; omega
          have hwg2 : (bldF A r [.int .i64 0, .int .i64 0, .str [], .imm [] [] true] fillExpr.C i2)[l.es.length + i2]? = some [.int .i64 0, .int .i64 0, .str [], .imm [] [] true] := by rw [← hAl]; exact bldF_get (by omega)
          have hws2 : (bldF A r [.int .i64 0, .int .i64 0, .str [], .imm [] [] true] fillExpr.C i2).set (l.es.length + i2) fillExpr.C = bldF A r [.int .i64 0, .int .i64 0, .str [], .imm [] [] true] fillExpr.C (i2 + 1) := by rw [← hAl]; exact bldF_set (by omega)
          have hwb2 : ∀ m, ((bldF A r [.int .i64 0, .int .i64 0, .str [], .imm [] [] true] fillExpr.C (i2 + 1)).all fun e => e.all (bdV m)) = true := bld_bd (bldF_pure hA hz hfp)
          have hlc2 : (0 : Int) ≤ (l.es.length : Int) + (i2 : Int) ∧ (l.es.length : Int) + (i2 : Int) < (c : Int) := by omega
          have hwt2 : ((l.es.length : Int) + (i2 : Int)).toNat = l.es.length + i2 := by omega
          have hwi2 : IntKind.i64.wrap ((l.es.length : Int) + (i2 : Int) + 1) = (l.es.length : Int) + ((i2 : Int) + 1) := by rw [wrap_small (by omega) (by omega)]; omega
          have hm2 : r ≤ maxLen := by simp only [maxLen]; omega
          have c1 := fillExpr_ct
          have hy := And.intro (hlt2) (And.intro (hwl2) (And.intro (hlc2) (And.intro (hwt2) (And.intro (hwg2) (And.intro (hws2) (And.intro (hwb2) (hwi2)))))))
          have hdf := hy0
          have eL := @toExprS_L2.eq_1
          have hm0 := hm2
          have hlt0 := hlt2
          exact wk1n
        · have hge2 : r ≤ i2 := by first | (simpa using hc2) | (simp at hc2; omega)
          try simp -implicitDefEqProofs [-List.map_take, -List.map_drop, go_sem, hwf0, hwb]
          obtain rfl : i2 = r := by omega
          have hwl3 : (bldF A i2 [.int .i64 0, .int .i64 0, .str [], .imm [] [] true] fillExpr.C i2).length = c := by rw [bldF_len (by omega)]; omega
          have hwsl : slV [some ⟨bldF A i2 [.int .i64 0, .int .i64 0, .str [], .imm [] [] true] fillExpr.C i2, 4, 48, true, false⟩] 4 (.ref 0 c 0 c (some c)) none (some (.int .i64 (l.es.length : Int))) none = .ob True (.ref 0 c 0 l.es.length (some c)) := sl_own rfl hwl3 (by omega)
          simp -implicitDefEqProofs [-List.map_take, -List.map_drop, go_sem, hwsl]
          refine end_ref (o := 0) (c := c) (k := l.es.length) (es := bldF A i2 [.int .i64 0, .int .i64 0, .str [], .imm [] [] true] fillExpr.C i2) (sz := 4) (ty := 48) (arr := true) (frz := false) (by simp) (by simp [go_sem]) (by simp [go_sem]) hwl3 (bldF_pure hA hz hfp) ?_
          rw [bldF_full, ← hAl, List.take_left, List.drop_left]
    · try simp only [Bool.true_and, beq_eq_false_iff_ne, ne_eq] at hb
      have hbz : ((l.es.length : Int) == 0) = decide (l.es.length = 0) := by rw [Bool.eq_iff_iff]; simp
      simp -implicitDefEqProofs [-List.map_take, -List.map_drop, go_sem]
      repeat' first
        | ((first | refine gv_split (fun h => ?_) (fun h => ?_) | refine cnd_split (fun h => ?_) (fun h => ?_) | refine cgv_split (fun h => ?_) (fun h => ?_)) <;> (try (have hp := h; simp at hp)) <;> simp -implicitDefEqProofs [-List.map_take, -List.map_drop, go_sem, h, hw0, hb, hbz])
        | (refine And.intro (by first | omega | (simp only [maxLen]; omega) | (simp_all; done) | (simp_all; omega)) ?_; try simp -implicitDefEqProofs [-List.map_take, -List.map_drop, go_sem, hw0, hb, hbz])
        | ((first | refine stp_ct (hrm) (by simp [go_sem, hw0, hb, hbz]) ?_ ?_ | refine cstp_ct (hrm) (by simp [go_sem, hw0, hb, hbz]) ?_ ?_); (simp [go_sem]); simp -implicitDefEqProofs [-List.map_take, -List.map_drop, go_sem, hw0, hb, hbz])
        | (refine run_dreg' (by decide) ?_; simp -implicitDefEqProofs [-List.map_take, -List.map_drop, go_sem, hw0, hb, hbz])
        | ((first | refine end_tup _ (by simp) (by simp [go_sem]; rfl) (by simp [go_sem]) ?_); first | (simp [go_sem, *]; done) | grind | (simp [go_sem]; grind) | (simp_all [go_sem]; done) | (simp_all [go_sem]; omega))
      refine run_iter (l.es.length) (toExprS_L1 l true A c) (fun i a => True) () (gh_auto (by simp [go_sem, toExprS_L1, bldE_zero])) (by first | (simp; done) | (simp []; done) | (simp []; omega) | grind) ?_
      intro i a hi hj
      simp -implicitDefEqProofs [-List.map_take, -List.map_drop, go_sem, toExprS_L1, bldE_zero]
      refine cnd_split (fun hc => ?_) (fun hc => ?_)
      · have hlt : i < l.es.length := by first | (simpa using hc) | (simp at hc; omega)
        simp -implicitDefEqProofs [-List.map_take, -List.map_drop, go_sem, hlt, bldE_zero]
        have hwl : (bldE A c [.int .i64 0, .int .i64 0, .str [], .imm [] [] true] i).length = c := bldE_len (by omega) (by omega)
        have hwg : (bldE A c [.int .i64 0, .int .i64 0, .str [], .imm [] [] true] i)[i]? = some [.int .i64 0, .int .i64 0, .str [], .imm [] [] true] := bldE_get (by omega) (by omega)
        have hws : (bldE A c [.int .i64 0, .int .i64 0, .str [], .imm [] [] true] i).set i (tf l.es[i]).C = bldE A c [.int .i64 0, .int .i64 0, .str [], .imm [] [] true] (i + 1) := by rw [← hAg i hlt]; exact bldE_set (by omega) (by omega)
        have hwb : ∀ m, ((bldE A c [.int .i64 0, .int .i64 0, .str [], .imm [] [] true] (i + 1)).all fun e => e.all (bdV m)) = true := bld_bd (bldE_pure hA hz)
        have hlc : (i : Int) < (c : Int) := by omega
        have hgi := hg l.es[i] (List.getElem_mem hlt)
        have c1 := hgi
        have hy := And.intro (hlt) (And.intro (hwl) (And.intro (hlc) (And.intro (hwg) (And.intro (hws) (hwb)))))
        have hdf := hy0
        have eL := @toExprS_L1.eq_1
        have hm0 := hm
        have hlt0 := hlt
        exact wk1n
      · have hge : l.es.length ≤ i := by first | (simpa using hc) | (simp at hc; omega)
        try simp -implicitDefEqProofs [-List.map_take, -List.map_drop, go_sem, bldE_zero]
        obtain rfl : i = l.es.length := by omega
        have hwf0 : bldF A r [.int .i64 0, .int .i64 0, .str [], .imm [] [] true] fillExpr.C 0 = bldE A c [.int .i64 0, .int .i64 0, .str [], .imm [] [] true] l.es.length := by rw [← hAl]; exact bldF_zero (by omega)
        have hwb : ∀ m, ((bldE A c [.int .i64 0, .int .i64 0, .str [], .imm [] [] true] l.es.length).all fun e => e.all (bdV m)) = true := bld_bd (bldE_pure hA hz)
        refine run_iter (r) (toExprS_L2 l A c r) (fun i2 a2 => True) () (gh_auto (by simp [go_sem, toExprS_L2, hwf0, hwb])) (by first | (simp; done) | (simp []; done) | (simp []; omega) | grind) ?_
        intro i2 a2 hi2 hj2
        simp -implicitDefEqProofs [-List.map_take, -List.map_drop, go_sem, toExprS_L2, hwf0, hwb]
        refine cnd_split (fun hc2 => ?_) (fun hc2 => ?_)
        · have hlt2 : i2 < r := by first | (simpa using hc2) | (simp at hc2; omega)
          simp -implicitDefEqProofs [-List.map_take, -List.map_drop, go_sem, hlt2, hwf0, hwb]
          have hwl2 : (bldF A r [.int .i64 0, .int .i64 0, .str [], .imm [] [] true] fillExpr.C i2).length = c := by rw [bldF_len (by omega)]; omega
          have hwg2 : (bldF A r [.int .i64 0, .int .i64 0, .str [], .imm [] [] true] fillExpr.C i2)[l.es.length + i2]? = some [.int .i64 0, .int .i64 0, .str [], .imm [] [] true] := by rw [← hAl]; exact bldF_get (by omega)
          have hws2 : (bldF A r [.int .i64 0, .int .i64 0, .str [], .imm [] [] true] fillExpr.C i2).set (l.es.length + i2) fillExpr.C = bldF A r [.int .i64 0, .int .i64 0, .str [], .imm [] [] true] fillExpr.C (i2 + 1) := by rw [← hAl]; exact bldF_set (by omega)
          have hwb2 : ∀ m, ((bldF A r [.int .i64 0, .int .i64 0, .str [], .imm [] [] true] fillExpr.C (i2 + 1)).all fun e => e.all (bdV m)) = true := bld_bd (bldF_pure hA hz hfp)
          have hlc2 : (0 : Int) ≤ (l.es.length : Int) + (i2 : Int) ∧ (l.es.length : Int) + (i2 : Int) < (c : Int) := by omega
          have hwt2 : ((l.es.length : Int) + (i2 : Int)).toNat = l.es.length + i2 := by omega
          have hwi2 : IntKind.i64.wrap ((l.es.length : Int) + (i2 : Int) + 1) = (l.es.length : Int) + ((i2 : Int) + 1) := by rw [wrap_small (by omega) (by omega)]; omega
          have hm2 : r ≤ maxLen := by simp only [maxLen]; omega
          have c1 := fillExpr_ct
          have hy := And.intro (hlt2) (And.intro (hwl2) (And.intro (hlc2) (And.intro (hwt2) (And.intro (hwg2) (And.intro (hws2) (And.intro (hwb2) (hwi2)))))))
          have hdf := hy0
          have eL := @toExprS_L2.eq_1
          have hm0 := hm2
          have hlt0 := hlt2
          exact wk1n
        · have hge2 : r ≤ i2 := by first | (simpa using hc2) | (simp at hc2; omega)
          try simp -implicitDefEqProofs [-List.map_take, -List.map_drop, go_sem, hwf0, hwb]
          obtain rfl : i2 = r := by omega
          have hwl3 : (bldF A i2 [.int .i64 0, .int .i64 0, .str [], .imm [] [] true] fillExpr.C i2).length = c := by rw [bldF_len (by omega)]; omega
          have hwsl : slV [some ⟨bldF A i2 [.int .i64 0, .int .i64 0, .str [], .imm [] [] true] fillExpr.C i2, 4, 48, true, false⟩] 4 (.ref 0 c 0 c (some c)) none (some (.int .i64 (l.es.length : Int))) none = .ob True (.ref 0 c 0 l.es.length (some c)) := sl_own rfl hwl3 (by omega)
          simp -implicitDefEqProofs [-List.map_take, -List.map_drop, go_sem, hwsl]
          refine end_ref (o := 0) (c := c) (k := l.es.length) (es := bldF A i2 [.int .i64 0, .int .i64 0, .str [], .imm [] [] true] fillExpr.C i2) (sz := 4) (ty := 48) (arr := true) (frz := false) (by simp) (by simp [go_sem]) (by simp [go_sem]) hwl3 (bldF_pure hA hz hfp) ?_
          rw [bldF_full, ← hAl, List.take_left, List.drop_left]
  · have h1 := hcase hb
    subst h1
    simp at hb
    obtain ⟨rfl, hb⟩ := hb
    have hbt : ((l.es.length : Int) == 0) = true := by simp [hb]
    simp -implicitDefEqProofs [-List.map_take, -List.map_drop, go_sem, hbt]
    have hy := hbt
    have hdf := hy0
    exact wk0
open Z in
def mf_laws_toExpr : MF := ⟨21, [(.cell 4 4 true)], q (r [k 2 (.box 43 (t 0)), k 4 (.alloc 48 [.int .i64 0, .int .i64 0, .str [], .imm [] [] true])]) (q (r [k 5 (.alloc 48 [.int .i64 0, .int .i64 0, .str [], .imm [] [] true])]) (q (r [k 6 (.fadr 0 (t 2)), k 7 (.load false 1 (t 6)), k 8 (.fadr 0 (t 5)), n (.store 1 (t 8) (t 7))]) (q (r [k 9 (.fadr 1 (t 2)), k 10 (.load false 1 (t 9)), k 11 (.fadr 1 (t 5)), n (.store 1 (t 11) (t 10))]) (q (r [k 12 (.fadr 2 (t 2)), k 13 (.load false 1 (t 12)), k 14 (.fadr 2 (t 5)), n (.store 1 (t 14) (t 13))]) (q (r [k 15 (.fadr 3 (t 2)), k 16 (.load false 1 (t 15)), m 17 1, k 18 (c 52 [t 16, t 17]), k 19 (.fadr 3 (t 5)), n (.store 1 (t 19) (t 18))]) (q (r [k 20 (.load true 4 (t 5)), n (.store 4 (t 4) (t 20))]) .ret))))))⟩
theorem fit_laws_toExpr : Fit Tryz.prog 22 Tryz.f22 mf_laws_toExpr := ⟨by kernel_rfl, Tryz.func22, by kernel_rfl, by kernel_rfl, by kernel_rfl, by kernel_rfl⟩
theorem toExpr_ct (e : LExpr) (bare : Bool) (hs : e.core.Sm) : Ct Tryz.prog 22 [.agg e.C, .bool bare] (.agg (toE bare e).C) := by
  have hk := toExprS_ct ⟨e.kids, e.sp, e.lim⟩ bare (by have := hs; rw [Expr.Sm_eq] at this; simpa using this.2.1) (toE bare) (fun a ha => toExpr_ct a bare (by obtain ⟨i, hi, rfl⟩ := List.getElem_of_mem ha; exact Expr.Sm_kid hs hi))
  have he : (toE bare e).C = [.int .i64 e.kind, .int .i64 e.num, .str e.text, (toS LExpr.C fillExpr bare (e.kids.map (toE bare))).I LExpr.C] := by
    cases e with
    | mk k n t ks sp lim =>
      rw [LExpr.C_eq]
      simp only [toE, LExpr.kind, LExpr.num, LExpr.text, LExpr.kids, LExpr.sp, LExpr.lim, Sl.I, toS_es, toEs_map]
  rw [he]
  refine ct_of_run fit_laws_toExpr (by simp [mf_laws_toExpr]) (by simp [go_sem]) fun hd => ?_
  simp -implicitDefEqProofs [-List.map_take, -List.map_drop, go_sem, mf_laws_toExpr]
  have c1 := hk
  have hy := hy0
  have hdf := hy0
  exact wk1
termination_by SizeOf.sizeOf e
decreasing_by exact LExpr.kid_lt ha
theorem bindsS_ct (l : Sl Bind) (bare : Bool) (hl : l.es.length ≤ 1000000) : Ct Tryz.prog 175 [l.I Bind.C, .bool bare] ((toS Bind.C fillBind bare l.es).I Bind.C) := by
  have := toBindS_ct l bare hl (fun x => x) (fun a _ => toBind_ct a)
  rwa [List.map_id'] at this
theorem usesS_ct (l : Sl Use) (bare : Bool) (hl : l.es.length ≤ 1000000) : Ct Tryz.prog 67 [l.I Use.C, .bool bare] ((toS Use.C fillUse bare l.es).I Use.C) := by
  have := toUseS_ct l bare hl (fun x => x) (fun a _ => toUse_ct a)
  rwa [List.map_id'] at this
open Z in
def mf_laws_toDecl : MF := ⟨26, [(.cell 4 8 true)], q (r [k 2 (.box 154 (t 0)), k 4 (.alloc 72 [.int .i64 0, .str [], .imm [] [] true, .str [], .int .i64 0, .int .i64 0, .str [], .imm [] [] true])]) (q (r [k 5 (.alloc 72 [.int .i64 0, .str [], .imm [] [] true, .str [], .int .i64 0, .int .i64 0, .str [], .imm [] [] true])]) (q (r [k 6 (.fadr 0 (t 2)), k 7 (.load false 1 (t 6)), k 8 (.fadr 0 (t 5)), n (.store 1 (t 8) (t 7))]) (q (r [k 9 (.fadr 1 (t 2)), k 10 (.load false 1 (t 9)), k 11 (.fadr 1 (t 5)), n (.store 1 (t 11) (t 10))]) (q (r [k 12 (.fadr 2 (t 2)), k 13 (.load false 1 (t 12)), m 14 1, k 15 (c 175 [t 13, t 14]), k 16 (.fadr 2 (t 5)), n (.store 1 (t 16) (t 15))]) (q (r [k 17 (.fadr 3 (t 2)), k 18 (.load false 1 (t 17)), k 19 (.fadr 3 (t 5)), n (.store 1 (t 19) (t 18))]) (q (r [k 20 (.fadr 4 (t 2)), k 21 (.load true 4 (t 20)), m 22 1, k 23 (c 22 [t 21, t 22]), k 24 (.fadr 4 (t 5)), n (.store 4 (t 24) (t 23))]) (q (r [k 25 (.load true 8 (t 5)), n (.store 8 (t 4) (t 25))]) .ret)))))))⟩
theorem fit_laws_toDecl : Fit Tryz.prog 128 Tryz.f128 mf_laws_toDecl := ⟨by kernel_rfl, Tryz.func128, by kernel_rfl, by kernel_rfl, by kernel_rfl, by kernel_rfl⟩
theorem toDecl_ct (d : LDecl) (bare : Bool) (hs : d.core.Sm) : Ct Tryz.prog 128 [.agg d.C, .bool bare] (.agg (toD bare d).C) := by
  have h1 := bindsS_ct d.binds bare hs.2.1
  have h2 := toExpr_ct d.body bare hs.2.2.2
  refine ct_of_run fit_laws_toDecl (by simp [mf_laws_toDecl]) (by simp [go_sem]) fun hd => ?_
  simp -implicitDefEqProofs [-List.map_take, -List.map_drop, go_sem, mf_laws_toDecl]
  repeat' first
    | ((first | refine gv_split (fun h => ?_) (fun h => ?_) | refine cnd_split (fun h => ?_) (fun h => ?_) | refine cgv_split (fun h => ?_) (fun h => ?_)) <;> (try (have hp := h; simp at hp)) <;> simp -implicitDefEqProofs [-List.map_take, -List.map_drop, go_sem, h])
    | (refine And.intro (by first | omega | (simp only [maxLen]; omega) | (simp_all; done) | (simp_all; omega)) ?_; try simp -implicitDefEqProofs [-List.map_take, -List.map_drop, go_sem])
    | ((first | refine stp_ct (h1) (by simp [go_sem]) ?_ ?_ | refine cstp_ct (h1) (by simp [go_sem]) ?_ ?_ | refine stp_ct (h2) (by simp [go_sem]) ?_ ?_ | refine cstp_ct (h2) (by simp [go_sem]) ?_ ?_); (simp [go_sem]); simp -implicitDefEqProofs [-List.map_take, -List.map_drop, go_sem])
    | (refine run_dreg' (by decide) ?_; simp -implicitDefEqProofs [-List.map_take, -List.map_drop, go_sem])
    | ((first | refine end_tup _ (by simp) (by simp [go_sem]; rfl) (by simp [go_sem]) ?_); first | (simp [go_sem, *]; done) | grind | (simp [go_sem]; grind) | (simp_all [go_sem]; done) | (simp_all [go_sem]; omega))
  have he := LExpr.C_eq (toE bare d.body)
  refine end_tup [.agg (toD bare d).C] (by simp) ?_ (by simp [go_sem]) rfl
  rw [LDecl.C_eq]
  simp [go_sem, he, toD]
  rfl
open Z in
def mf_laws_fillerDecl : MF := ⟨5, [(.cell 0 8 true)], q (r [k 0 (.alloc 72 [.int .i64 0, .str [], .imm [] [] true, .str [], .int .i64 0, .int .i64 0, .str [], .imm [] [] true])]) (q (r [k 1 (c 129 []), k 2 (.bsl 118 2 1 [.str [], .str []] [(0, t 1)]), k 3 (c 105 []), k 4 (.build [.int .i64 0, .str [], .imm [] [] true, .str [], .int .i64 0, .int .i64 0, .str [], .imm [] [] true] [(0, (1, i (-7000000000000000101))), (1, (1, s [126, 115, 112, 97, 114, 101, 126])), (2, (1, t 2)), (3, (1, s [126, 115, 112, 97, 114, 101, 126])), (4, (4, t 3))]), n (.store 8 (t 0) (t 4))]) .ret)⟩
theorem fit_laws_fillerDecl : Fit Tryz.prog 70 Tryz.f70 mf_laws_fillerDecl := ⟨by kernel_rfl, Tryz.func70, by kernel_rfl, by kernel_rfl, by kernel_rfl, by kernel_rfl⟩
theorem fillDecl_ct : Ct Tryz.prog 70 [] (.agg fillDecl.C) := by
  refine ct_of_run fit_laws_fillerDecl (by simp [mf_laws_fillerDecl]) (by simp [go_sem]) fun hd => ?_
  simp -implicitDefEqProofs [-List.map_take, -List.map_drop, go_sem, mf_laws_fillerDecl]
  repeat' first
    | ((first | refine gv_split (fun h => ?_) (fun h => ?_) | refine cnd_split (fun h => ?_) (fun h => ?_) | refine cgv_split (fun h => ?_) (fun h => ?_)) <;> (try (have hp := h; simp at hp)) <;> simp -implicitDefEqProofs [-List.map_take, -List.map_drop, go_sem, h])
    | (refine And.intro (by first | omega | (simp only [maxLen]; omega) | (simp_all; done) | (simp_all; omega)) ?_; try simp -implicitDefEqProofs [-List.map_take, -List.map_drop, go_sem])
    | ((first | refine stp_ct (fillBind_ct) (by simp [go_sem]) ?_ ?_ | refine cstp_ct (fillBind_ct) (by simp [go_sem]) ?_ ?_ | refine stp_ct (fillExpr_ct) (by simp [go_sem]) ?_ ?_ | refine cstp_ct (fillExpr_ct) (by simp [go_sem]) ?_ ?_); (simp [go_sem]); simp -implicitDefEqProofs [-List.map_take, -List.map_drop, go_sem])
    | (refine run_dreg' (by decide) ?_; simp -implicitDefEqProofs [-List.map_take, -List.map_drop, go_sem])
    | ((first | refine end_tup _ (by simp) (by simp [go_sem]; rfl) (by simp [go_sem]) ?_); first | (simp [go_sem, *]; done) | grind | (simp [go_sem]; grind) | (simp_all [go_sem]; done) | (simp_all [go_sem]; omega))
  exact end_snapG 3 _ _ (by simp) rfl rfl rfl
theorem toDS_hyp : True := trivial
def toDeclS_L1 (l : Sl LDecl) (bare : Bool) (A : List (List PV)) (c : Nat) (i : Nat) (_ : Unit) : St := ⟨lk [(0, l.I LDecl.C), (1, .bool bare), (5, .ref 0 c 0 c (some c)), (6, .int .i64 i)], [some ⟨bldE A c [.int .i64 0, .str [], .imm [] [] true, .str [], .int .i64 0, .int .i64 0, .str [], .imm [] [] true] i, 8, 72, true, false⟩], []⟩
def toDeclS_L2 (l : Sl LDecl) (A : List (List PV)) (c r : Nat) (j : Nat) (_ : Unit) : St := ⟨lk [(0, l.I LDecl.C), (5, .ref 0 c 0 c (some c)), (7, .int .i64 ((l.es.length : Int) + (j : Int)))], [some ⟨bldF A r [.int .i64 0, .str [], .imm [] [] true, .str [], .int .i64 0, .int .i64 0, .str [], .imm [] [] true] fillDecl.C j, 8, 72, true, false⟩], []⟩
open Z in
def mf_laws_toDeclS : MF := ⟨52, [(.t 4)], q (r [k 4 (.mov (.c (.imm [] [] true)))]) (q (q (r [m 8 1, m 9 8, g 10 (.mov (t 0)) 9 true, g 11 (.lenl (t 10)) 9 true, g 12 (.bin .eql (t 11) (i 0)) 9 true, k 13 (.pick (t 9) (t 12) (b false))]) (.cond (t 13) (q (r [k 4 (.mov (.c (.imm [] [] true)))]) .ret) .skip)) (q (r [m 14 0, k 15 (.lenl (t 14)), m 16 0, k 17 (.lenl (t 16)), k 18 (c 30 [t 17]), k 19 (.bin .add (t 15) (t 18)), k 20 (.mks 72 8 120 [.int .i64 0, .str [], .imm [] [] true, .str [], .int .i64 0, .int .i64 0, .str [], .imm [] [] true] (t 19) (t 19)), m 5 20]) (q (q (r [k 6 (.mov (i 0))]) (.blk 0 (.loop (q (q (r [m 21 6, m 22 0, k 23 (.lenl (t 22)), k 24 (.bin .lss (t 21) (t 23))]) (.cond (t 24) .skip (.exit 0))) (q (.blk 1 (r [m 27 5, m 28 6, m 29 0, m 30 6, k 31 (.iadr 8 (t 29) (t 30)), k 32 (.load true 8 (t 31)), m 33 1, k 34 (c 128 [t 32, t 33]), k 35 (.iadr 8 (t 27) (t 28)), n (.store 8 (t 35) (t 34))])) (r [m 25 6, k 26 (.bin .add (t 25) (i 1)), m 6 26])))))) (q (q (r [m 36 0, k 37 (.lenl (t 36)), m 7 37]) (.blk 2 (.loop (q (q (r [m 38 7, m 39 5, k 40 (.lenl (t 39)), k 41 (.bin .lss (t 38) (t 40))]) (.cond (t 41) .skip (.exit 2))) (q (.blk 3 (r [m 44 5, m 45 7, k 46 (c 70 []), k 47 (.iadr 8 (t 44) (t 45)), n (.store 8 (t 47) (t 46))])) (r [m 42 7, k 43 (.bin .add (t 42) (i 1)), m 7 43])))))) (q (r [m 48 5, m 49 0, k 50 (.lenl (t 49)), k 51 (.sl 8 (t 48) none (some (t 50)) none), m 4 51]) .ret)))))⟩
theorem fit_laws_toDeclS : Fit Tryz.prog 68 Tryz.f68 mf_laws_toDeclS := ⟨by kernel_rfl, Tryz.func68, by kernel_rfl, by kernel_rfl, by kernel_rfl, by kernel_rfl⟩
theorem toDeclS_ct (l : Sl LDecl) (bare : Bool) (hl : l.es.length ≤ 1000000) (tf : LDecl → LDecl) (hg : ∀ a, a ∈ l.es → Ct Tryz.prog 128 [.agg a.C, .bool bare] (.agg (tf a).C)) :
    Ct Tryz.prog 68 [l.I LDecl.C, .bool bare] ((toS LDecl.C fillDecl bare (l.es.map tf)).I LDecl.C) := by
  obtain ⟨Y, hY⟩ : ∃ Y, Y = (toS LDecl.C fillDecl bare (l.es.map tf)).I LDecl.C := ⟨_, rfl⟩
  rw [← hY]
  refine ct_of_run fit_laws_toDeclS (by simp [mf_laws_toDeclS]) (by simp [go_sem]) fun hd => ?_
  simp -implicitDefEqProofs [-List.map_take, -List.map_drop, go_sem, mf_laws_toDeclS]
  have hm : l.es.length ≤ maxLen := sl_deep hd.1
  have hA : ∀ e, e ∈ l.es.map (fun x => (tf x).C) → pureL e = true := by
    intro e he
    obtain ⟨x, _, rfl⟩ := List.mem_map.1 he
    exact LDecl.C_pure _
  obtain ⟨A, hAe⟩ : ∃ A, A = l.es.map (fun x => (tf x).C) := ⟨_, rfl⟩
  have hAl : A.length = l.es.length := by rw [hAe, List.length_map]
  have hAg : ∀ (i : Nat) (h : i < l.es.length), A[i]'(by omega) = (tf l.es[i]).C := fun i h => by subst hAe; simp
  rw [← hAe] at hA
  have hrl := room_le l.es.length
  have hcase : (bare && l.es.length == 0) = true → Y = .imm [] [] true := fun h => by
    rw [hY]; simp only [toS, List.length_map, h, if_true, Sl.I, List.map_nil]
  have hcase2 : (bare && l.es.length == 0) = false → Y = .imm A (List.replicate (room l.es.length) fillDecl.C) true := fun h => by
    rw [hY]
    simp only [toS, List.length_map, h, Bool.false_eq_true, if_false, Sl.I, List.map_map, hAe, List.map_replicate]
    rfl
  cases hb : (bare && l.es.length == 0)
  · have h1 := hcase2 hb
    obtain ⟨r, hr⟩ : ∃ r, r = room l.es.length := ⟨_, rfl⟩
    obtain ⟨c, hc⟩ : ∃ c, c = l.es.length + r := ⟨_, rfl⟩
    rw [← hr] at hrl h1
    subst h1
    clear hY hcase hcase2
    have hw0 : IntKind.i64.wrap ((l.es.length : Int) + (r : Int)) = (c : Int) := by rw [wrap_small (by omega) (by omega)]; omega
    have hrm := room_ct l.es.length
    rw [← hr] at hrm
    have hz : pureL [.int .i64 0, .str [], .imm [] [] true, .str [], .int .i64 0, .int .i64 0, .str [], .imm [] [] true] = true := rfl
    have hfp : pureL fillDecl.C = true := LDecl.C_pure _
    have hbnd : c * 1000 ≤ 140737488355328 := by omega
    cases bare
    · try simp only [Bool.true_and, beq_eq_false_iff_ne, ne_eq] at hb
      have hbz : ((l.es.length : Int) == 0) = decide (l.es.length = 0) := by rw [Bool.eq_iff_iff]; simp
      simp -implicitDefEqProofs [-List.map_take, -List.map_drop, go_sem]
      repeat' first
        | ((first | refine gv_split (fun h => ?_) (fun h => ?_) | refine cnd_split (fun h => ?_) (fun h => ?_) | refine cgv_split (fun h => ?_) (fun h => ?_)) <;> (try (have hp := h; simp at hp)) <;> simp -implicitDefEqProofs [-List.map_take, -List.map_drop, go_sem, h, hw0, hb, hbz])
        | (refine And.intro (by first | omega | (simp only [maxLen]; omega) | (simp_all; done) | (simp_all; omega)) ?_; try simp -implicitDefEqProofs [-List.map_take, -List.map_drop, go_sem, hw0, hb, hbz])
        | ((first | refine stp_ct (hrm) (by simp [go_sem, hw0, hb, hbz]) ?_ ?_ | refine cstp_ct (hrm) (by simp [go_sem, hw0, hb, hbz]) ?_ ?_); (simp [go_sem]); simp -implicitDefEqProofs [-List.map_take, -List.map_drop, go_sem, hw0, hb, hbz])
        | (refine run_dreg' (by decide) ?_; simp -implicitDefEqProofs [-List.map_take, -List.map_drop, go_sem, hw0, hb, hbz])
        | ((first | refine end_tup _ (by simp) (by simp [go_sem]; rfl) (by simp [go_sem]) ?_); first | (simp [go_sem, *]; done) | grind | (simp [go_sem]; grind) | (simp_all [go_sem]; done) | (simp_all [go_sem]; omega))
      refine run_iter (l.es.length) (toDeclS_L1 l false A c) (fun i a => True) () (gh_auto (by simp [go_sem, toDeclS_L1, bldE_zero])) (by first | (simp; done) | (simp []; done) | (simp []; omega) | grind) ?_
      intro i a hi hj
      simp -implicitDefEqProofs [-List.map_take, -List.map_drop, go_sem, toDeclS_L1, bldE_zero]
      refine cnd_split (fun hc => ?_) (fun hc => ?_)
      · have hlt : i < l.es.length := by first | (simpa using hc) | (simp at hc; omega)
        simp -implicitDefEqProofs [-List.map_take, -List.map_drop, go_sem, hlt, bldE_zero]
        have hwl : (bldE A c [.int .i64 0, .str [], .imm [] [] true, .str [], .int .i64 0, .int .i64 0, .str [], .imm [] [] true] i).length = c := bldE_len (by omega) (by omega)
        have hwg : (bldE A c [.int .i64 0, .str [], .imm [] [] true, .str [], .int .i64 0, .int .i64 0, .str [], .imm [] [] true] i)[i]? = some [.int .i64 0, .str [], .imm [] [] true, .str [], .int .i64 0, .int .i64 0, .str [], .imm [] [] true] := bldE_get (by omega) (by omega)
        have hws : (bldE A c [.int .i64 0, .str [], .imm [] [] true, .str [], .int .i64 0, .int .i64 0, .str [], .imm [] [] true] i).set i (tf l.es[i]).C = bldE A c [.int .i64 0, .str [], .imm [] [] true, .str [], .int .i64 0, .int .i64 0, .str [], .imm [] [] true] (i + 1) := by rw [← hAg i hlt]; exact bldE_set (by omega) (by omega)
        have hwb : ∀ m, ((bldE A c [.int .i64 0, .str [], .imm [] [] true, .str [], .int .i64 0, .int .i64 0, .str [], .imm [] [] true] (i + 1)).all fun e => e.all (bdV m)) = true := bld_bd (bldE_pure hA hz)
        have hlc : (i : Int) < (c : Int) := by omega
        have hgi := hg l.es[i] (List.getElem_mem hlt)
        have c1 := hgi
        have hy := And.intro (hlt) (And.intro (hwl) (And.intro (hlc) (And.intro (hwg) (And.intro (hws) (hwb)))))
        have hdf := hy0
        have eL := @toDeclS_L1.eq_1
        have hm0 := hm
        have hlt0 := hlt
        exact wk1n
      · have hge : l.es.length ≤ i := by first | (simpa using hc) | (simp at hc; omega)
        try simp -implicitDefEqProofs [-List.map_take, -List.map_drop, go_sem, bldE_zero]
        obtain rfl : i = l.es.length := by omega
        have hwf0 : bldF A r [.int .i64 0, .str [], .imm [] [] true, .str [], .int .i64 0, .int .i64 0, .str [], .imm [] [] true] fillDecl.C 0 = bldE A c [.int .i64 0, .str [], .imm [] [] true, .str [], .int .i64 0, .int .i64 0, .str [], .imm [] [] true] l.es.length := by rw [← hAl]; exact bldF_zero (by omega)
        have hwb : ∀ m, ((bldE A c [.int .i64 0, .str [], .imm [] [] true, .str [], .int .i64 0, .int .i64 0, .str [], .imm [] [] true] l.es.length).all fun e => e.all (bdV m)) = true := bld_bd (bldE_pure hA hz)
        refine run_iter (r) (toDeclS_L2 l A c r) (fun i2 a2 => True) () (gh_auto (by simp [go_sem, toDeclS_L2, hwf0, hwb])) (by first | (simp; done) | (simp []; done) | (simp []; omega) | grind) ?_
        intro i2 a2 hi2 hj2
        simp -implicitDefEqProofs [-List.map_take, -List.map_drop, go_sem, toDeclS_L2, hwf0, hwb]
        refine cnd_split (fun hc2 => ?_) (fun hc2 => ?_)
        · have hlt2 : i2 < r := by first | (simpa using hc2) | (simp at hc2; omega)
          simp -implicitDefEqProofs [-List.map_take, -List.map_drop, go_sem, hlt2, hwf0, hwb]
          have hwl2 : (bldF A r [.int .i64 0, .str [], .imm [] [] true, .str [], .int .i64 0, .int .i64 0, .str [], .imm [] [] true] fillDecl.C i2).length = c := by rw [bldF_len (by omega)]; omega
          have hwg2 : (bldF A r [.int .i64 0, .str [], .imm [] [] true, .str [], .int .i64 0, .int .i64 0, .str [], .imm [] [] true] fillDecl.C i2)[l.es.length + i2]? = some [.int .i64 0, .str [], .imm [] [] true, .str [], .int .i64 0, .int .i64 0, .str [], .imm [] [] true] := by rw [← hAl]; exact bldF_get (by omega)
          have hws2 : (bldF A r [.int .i64 0, .str [], .imm [] [] true, .str [], .int .i64 0, .int .i64 0, .str [], .imm [] [] true] fillDecl.C i2).set (l.es.length + i2) fillDecl.C = bldF A r [.int .i64 0, .str [], .imm [] [] true, .str [], .int .i64 0, .int .i64 0, .str [], .imm [] [] true] fillDecl.C (i2 + 1) := by rw [← hAl]; exact bldF_set (by omega)
          have hwb2 : ∀ m, ((bldF A r [.int .i64 0, .str [], .imm [] [] true, .str [], .int .i64 0, .int .i64 0, .str [], .imm [] [] true] fillDecl.C (i2 + 1)).all fun e => e.all (bdV m)) = true := bld_bd (bldF_pure hA hz hfp)
          have hlc2 : (0 : Int) ≤ (l.es.length : Int) + (i2 : Int) ∧ (l.es.length : Int) + (i2 : Int) < (c : Int) := by omega
          have hwt2 : ((l.es.length : Int) + (i2 : Int)).toNat = l.es.length + i2 := by omega
          have hwi2 : IntKind.i64.wrap ((l.es.length : Int) + (i2 : Int) + 1) = (l.es.length : Int) + ((i2 : Int) + 1) := by rw [wrap_small (by omega) (by omega)]; omega
          have hm2 : r ≤ maxLen := by simp only [maxLen]; omega
          have c1 := fillDecl_ct
          have hy := And.intro (hlt2) (And.intro (hwl2) (And.intro (hlc2) (And.intro (hwt2) (And.intro (hwg2) (And.intro (hws2) (And.intro (hwb2) (hwi2)))))))
          have hdf := hy0
          have eL := @toDeclS_L2.eq_1
          have hm0 := hm2
          have hlt0 := hlt2
          exact wk1n
        · have hge2 : r ≤ i2 := by first | (simpa using hc2) | (simp at hc2; omega)
          try simp -implicitDefEqProofs [-List.map_take, -List.map_drop, go_sem, hwf0, hwb]
          obtain rfl : i2 = r := by omega
          have hwl3 : (bldF A i2 [.int .i64 0, .str [], .imm [] [] true, .str [], .int .i64 0, .int .i64 0, .str [], .imm [] [] true] fillDecl.C i2).length = c := by rw [bldF_len (by omega)]; omega
          have hwsl : slV [some ⟨bldF A i2 [.int .i64 0, .str [], .imm [] [] true, .str [], .int .i64 0, .int .i64 0, .str [], .imm [] [] true] fillDecl.C i2, 8, 72, true, false⟩] 8 (.ref 0 c 0 c (some c)) none (some (.int .i64 (l.es.length : Int))) none = .ob True (.ref 0 c 0 l.es.length (some c)) := sl_own rfl hwl3 (by omega)
          simp -implicitDefEqProofs [-List.map_take, -List.map_drop, go_sem, hwsl]
          refine end_ref (o := 0) (c := c) (k := l.es.length) (es := bldF A i2 [.int .i64 0, .str [], .imm [] [] true, .str [], .int .i64 0, .int .i64 0, .str [], .imm [] [] true] fillDecl.C i2) (sz := 8) (ty := 72) (arr := true) (frz := false) (by simp) (by simp [go_sem]) (by simp [go_sem]) hwl3 (bldF_pure hA hz hfp) ?_
          rw [bldF_full, ← hAl, List.take_left, List.drop_left]
    · try simp only [Bool.true_and, beq_eq_false_iff_ne, ne_eq] at hb
      have hbz : ((l.es.length : Int) == 0) = decide (l.es.length = 0) := by rw [Bool.eq_iff_iff]; simp
      simp -implicitDefEqProofs [-List.map_take, -List.map_drop, go_sem]
      repeat' first
        | ((first | refine gv_split (fun h => ?_) (fun h => ?_) | refine cnd_split (fun h => ?_) (fun h => ?_) | refine cgv_split (fun h => ?_) (fun h => ?_)) <;> (try (have hp := h; simp at hp)) <;> simp -implicitDefEqProofs [-List.map_take, -List.map_drop, go_sem, h, hw0, hb, hbz])
        | (refine And.intro (by first | omega | (simp only [maxLen]; omega) | (simp_all; done) | (simp_all; omega)) ?_; try simp -implicitDefEqProofs [-List.map_take, -List.map_drop, go_sem, hw0, hb, hbz])
        | ((first | refine stp_ct (hrm) (by simp [go_sem, hw0, hb, hbz]) ?_ ?_ | refine cstp_ct (hrm) (by simp [go_sem, hw0, hb, hbz]) ?_ ?_); (simp [go_sem]); simp -implicitDefEqProofs [-List.map_take, -List.map_drop, go_sem, hw0, hb, hbz])
        | (refine run_dreg' (by decide) ?_; simp -implicitDefEqProofs [-List.map_take, -List.map_drop, go_sem, hw0, hb, hbz])
        | ((first | refine end_tup _ (by simp) (by simp [go_sem]; rfl) (by simp [go_sem]) ?_); first | (simp [go_sem, *]; done) | grind | (simp [go_sem]; grind) | (simp_all [go_sem]; done) | (simp_all [go_sem]; omega))
      refine run_iter (l.es.length) (toDeclS_L1 l true A c) (fun i a => True) () (gh_auto (by simp [go_sem, toDeclS_L1, bldE_zero])) (by first | (simp; done) | (simp []; done) | (simp []; omega) | grind) ?_
      intro i a hi hj
      simp -implicitDefEqProofs [-List.map_take, -List.map_drop, go_sem, toDeclS_L1, bldE_zero]
      refine cnd_split (fun hc => ?_) (fun hc => ?_)
      · have hlt : i < l.es.length := by first | (simpa using hc) | (simp at hc; omega)
        simp -implicitDefEqProofs [-List.map_take, -List.map_drop, go_sem, hlt, bldE_zero]
        have hwl : (bldE A c [.int .i64 0, .str [], .imm [] [] true, .str [], .int .i64 0, .int .i64 0, .str [], .imm [] [] true] i).length = c := bldE_len (by omega) (by omega)
        have hwg : (bldE A c [.int .i64 0, .str [], .imm [] [] true, .str [], .int .i64 0, .int .i64 0, .str [], .imm [] [] true] i)[i]? = some [.int .i64 0, .str [], .imm [] [] true, .str [], .int .i64 0, .int .i64 0, .str [], .imm [] [] true] := bldE_get (by omega) (by omega)
        have hws : (bldE A c [.int .i64 0, .str [], .imm [] [] true, .str [], .int .i64 0, .int .i64 0, .str [], .imm [] [] true] i).set i (tf l.es[i]).C = bldE A c [.int .i64 0, .str [], .imm [] [] true, .str [], .int .i64 0, .int .i64 0, .str [], .imm [] [] true] (i + 1) := by rw [← hAg i hlt]; exact bldE_set (by omega) (by omega)
        have hwb : ∀ m, ((bldE A c [.int .i64 0, .str [], .imm [] [] true, .str [], .int .i64 0, .int .i64 0, .str [], .imm [] [] true] (i + 1)).all fun e => e.all (bdV m)) = true := bld_bd (bldE_pure hA hz)
        have hlc : (i : Int) < (c : Int) := by omega
        have hgi := hg l.es[i] (List.getElem_mem hlt)
        have c1 := hgi
        have hy := And.intro (hlt) (And.intro (hwl) (And.intro (hlc) (And.intro (hwg) (And.intro (hws) (hwb)))))
        have hdf := hy0
        have eL := @toDeclS_L1.eq_1
        have hm0 := hm
        have hlt0 := hlt
        exact wk1n
      · have hge : l.es.length ≤ i := by first | (simpa using hc) | (simp at hc; omega)
        try simp -implicitDefEqProofs [-List.map_take, -List.map_drop, go_sem, bldE_zero]
        obtain rfl : i = l.es.length := by omega
        have hwf0 : bldF A r [.int .i64 0, .str [], .imm [] [] true, .str [], .int .i64 0, .int .i64 0, .str [], .imm [] [] true] fillDecl.C 0 = bldE A c [.int .i64 0, .str [], .imm [] [] true, .str [], .int .i64 0, .int .i64 0, .str [], .imm [] [] true] l.es.length := by rw [← hAl]; exact bldF_zero (by omega)
        have hwb : ∀ m, ((bldE A c [.int .i64 0, .str [], .imm [] [] true, .str [], .int .i64 0, .int .i64 0, .str [], .imm [] [] true] l.es.length).all fun e => e.all (bdV m)) = true := bld_bd (bldE_pure hA hz)
        refine run_iter (r) (toDeclS_L2 l A c r) (fun i2 a2 => True) () (gh_auto (by simp [go_sem, toDeclS_L2, hwf0, hwb])) (by first | (simp; done) | (simp []; done) | (simp []; omega) | grind) ?_
        intro i2 a2 hi2 hj2
        simp -implicitDefEqProofs [-List.map_take, -List.map_drop, go_sem, toDeclS_L2, hwf0, hwb]
        refine cnd_split (fun hc2 => ?_) (fun hc2 => ?_)
        · have hlt2 : i2 < r := by first | (simpa using hc2) | (simp at hc2; omega)
          simp -implicitDefEqProofs [-List.map_take, -List.map_drop, go_sem, hlt2, hwf0, hwb]
          have hwl2 : (bldF A r [.int .i64 0, .str [], .imm [] [] true, .str [], .int .i64 0, .int .i64 0, .str [], .imm [] [] true] fillDecl.C i2).length = c := by rw [bldF_len (by omega)]; omega
          have hwg2 : (bldF A r [.int .i64 0, .str [], .imm [] [] true, .str [], .int .i64 0, .int .i64 0, .str [], .imm [] [] true] fillDecl.C i2)[l.es.length + i2]? = some [.int .i64 0, .str [], .imm [] [] true, .str [], .int .i64 0, .int .i64 0, .str [], .imm [] [] true] := by rw [← hAl]; exact bldF_get (by omega)
          have hws2 : (bldF A r [.int .i64 0, .str [], .imm [] [] true, .str [], .int .i64 0, .int .i64 0, .str [], .imm [] [] true] fillDecl.C i2).set (l.es.length + i2) fillDecl.C = bldF A r [.int .i64 0, .str [], .imm [] [] true, .str [], .int .i64 0, .int .i64 0, .str [], .imm [] [] true] fillDecl.C (i2 + 1) := by rw [← hAl]; exact bldF_set (by omega)
          have hwb2 : ∀ m, ((bldF A r [.int .i64 0, .str [], .imm [] [] true, .str [], .int .i64 0, .int .i64 0, .str [], .imm [] [] true] fillDecl.C (i2 + 1)).all fun e => e.all (bdV m)) = true := bld_bd (bldF_pure hA hz hfp)
          have hlc2 : (0 : Int) ≤ (l.es.length : Int) + (i2 : Int) ∧ (l.es.length : Int) + (i2 : Int) < (c : Int) := by omega
          have hwt2 : ((l.es.length : Int) + (i2 : Int)).toNat = l.es.length + i2 := by omega
          have hwi2 : IntKind.i64.wrap ((l.es.length : Int) + (i2 : Int) + 1) = (l.es.length : Int) + ((i2 : Int) + 1) := by rw [wrap_small (by omega) (by omega)]; omega
          have hm2 : r ≤ maxLen := by simp only [maxLen]; omega
          have c1 := fillDecl_ct
          have hy := And.intro (hlt2) (And.intro (hwl2) (And.intro (hlc2) (And.intro (hwt2) (And.intro (hwg2) (And.intro (hws2) (And.intro (hwb2) (hwi2)))))))
          have hdf := hy0
          have eL := @toDeclS_L2.eq_1
          have hm0 := hm2
          have hlt0 := hlt2
          exact wk1n
        · have hge2 : r ≤ i2 := by first | (simpa using hc2) | (simp at hc2; omega)
          try simp -implicitDefEqProofs [-List.map_take, -List.map_drop, go_sem, hwf0, hwb]
          obtain rfl : i2 = r := by omega
          have hwl3 : (bldF A i2 [.int .i64 0, .str [], .imm [] [] true, .str [], .int .i64 0, .int .i64 0, .str [], .imm [] [] true] fillDecl.C i2).length = c := by rw [bldF_len (by omega)]; omega
          have hwsl : slV [some ⟨bldF A i2 [.int .i64 0, .str [], .imm [] [] true, .str [], .int .i64 0, .int .i64 0, .str [], .imm [] [] true] fillDecl.C i2, 8, 72, true, false⟩] 8 (.ref 0 c 0 c (some c)) none (some (.int .i64 (l.es.length : Int))) none = .ob True (.ref 0 c 0 l.es.length (some c)) := sl_own rfl hwl3 (by omega)
          simp -implicitDefEqProofs [-List.map_take, -List.map_drop, go_sem, hwsl]
          refine end_ref (o := 0) (c := c) (k := l.es.length) (es := bldF A i2 [.int .i64 0, .str [], .imm [] [] true, .str [], .int .i64 0, .int .i64 0, .str [], .imm [] [] true] fillDecl.C i2) (sz := 8) (ty := 72) (arr := true) (frz := false) (by simp) (by simp [go_sem]) (by simp [go_sem]) hwl3 (bldF_pure hA hz hfp) ?_
          rw [bldF_full, ← hAl, List.take_left, List.drop_left]
  · have h1 := hcase hb
    subst h1
    simp at hb
    obtain ⟨rfl, hb⟩ := hb
    have hbt : ((l.es.length : Int) == 0) = true := by simp [hb]
    simp -implicitDefEqProofs [-List.map_take, -List.map_drop, go_sem, hbt]
    have hy := hbt
    have hdf := hy0
    exact wk0
theorem Decl.Sm_of {m : LModule} (h : m.core.Sm) {d : LDecl} (hd : d ∈ m.decls.es) : d.core.Sm := h.2.2.2.2 _ (by rw [LModule.core_decls]; exact List.mem_map_of_mem hd)
open Z in
def mf_laws_toModule : MF := ⟨20, [(.cell 4 3 true)], q (r [k 2 (.box 56 (t 0)), k 4 (.alloc 61 [.str [], .imm [] [] true, .imm [] [] true])]) (q (r [k 5 (.alloc 61 [.str [], .imm [] [] true, .imm [] [] true])]) (q (r [k 6 (.fadr 0 (t 2)), k 7 (.load false 1 (t 6)), k 8 (.fadr 0 (t 5)), n (.store 1 (t 8) (t 7))]) (q (r [k 9 (.fadr 1 (t 2)), k 10 (.load false 1 (t 9)), m 11 1, k 12 (c 67 [t 10, t 11]), k 13 (.fadr 1 (t 5)), n (.store 1 (t 13) (t 12))]) (q (r [k 14 (.fadr 2 (t 2)), k 15 (.load false 1 (t 14)), m 16 1, k 17 (c 68 [t 15, t 16]), k 18 (.fadr 2 (t 5)), n (.store 1 (t 18) (t 17))]) (q (r [k 19 (.load true 3 (t 5)), n (.store 3 (t 4) (t 19))]) .ret)))))⟩
theorem fit_laws_toModule : Fit Tryz.prog 31 Tryz.f31 mf_laws_toModule := ⟨by kernel_rfl, Tryz.func31, by kernel_rfl, by kernel_rfl, by kernel_rfl, by kernel_rfl⟩
theorem toModule_ct (m : LModule) (bare : Bool) (hs : m.core.Sm) : Ct Tryz.prog 31 [.agg m.C, .bool bare] (.agg (toM bare m).C) := by
  have h1 := usesS_ct m.uses bare hs.2.1
  have h2 := toDeclS_ct m.decls bare (by simpa using hs.2.2.2.1) (toD bare) (fun a ha => toDecl_ct a bare (Decl.Sm_of hs ha))
  refine ct_of_run fit_laws_toModule (by simp [mf_laws_toModule]) (by simp [go_sem]) fun hd => ?_
  simp -implicitDefEqProofs [-List.map_take, -List.map_drop, go_sem, mf_laws_toModule]
  have c1 := h1
  have c2 := h2
  have hy := hy0
  have e1 := @toM.eq_1
  have e2 := @LModule.C.eq_1
  have hdf := And.intro (@e1) (@e2)
  exact wk1
open Z in
def mf_laws_fillerModule : MF := ⟨6, [(.cell 0 3 true)], q (r [k 0 (.alloc 61 [.str [], .imm [] [] true, .imm [] [] true])]) (q (r [k 1 (c 69 []), k 2 (.bsl 99 2 1 [.str [], .str []] [(0, t 1)]), k 3 (c 70 []), k 4 (.bsl 72 8 1 [.int .i64 0, .str [], .imm [] [] true, .str [], .int .i64 0, .int .i64 0, .str [], .imm [] [] true] [(0, t 3)]), k 5 (.build [.str [], .imm [] [] true, .imm [] [] true] [(0, (1, s [126, 115, 112, 97, 114, 101, 126])), (1, (1, t 2)), (2, (1, t 4))]), n (.store 3 (t 0) (t 5))]) .ret)⟩
theorem fit_laws_fillerModule : Fit Tryz.prog 32 Tryz.f32 mf_laws_fillerModule := ⟨by kernel_rfl, Tryz.func32, by kernel_rfl, by kernel_rfl, by kernel_rfl, by kernel_rfl⟩
theorem fillModule_ct : Ct Tryz.prog 32 [] (.agg fillModule.C) := by
  refine ct_of_run fit_laws_fillerModule (by simp [mf_laws_fillerModule]) (by simp [go_sem]) fun hd => ?_
  simp -implicitDefEqProofs [-List.map_take, -List.map_drop, go_sem, mf_laws_fillerModule]
  repeat' first
    | ((first | refine gv_split (fun h => ?_) (fun h => ?_) | refine cnd_split (fun h => ?_) (fun h => ?_) | refine cgv_split (fun h => ?_) (fun h => ?_)) <;> (try (have hp := h; simp at hp)) <;> simp -implicitDefEqProofs [-List.map_take, -List.map_drop, go_sem, h])
    | (refine And.intro (by first | omega | (simp only [maxLen]; omega) | (simp_all; done) | (simp_all; omega)) ?_; try simp -implicitDefEqProofs [-List.map_take, -List.map_drop, go_sem])
    | ((first | refine stp_ct (fillUse_ct) (by simp [go_sem]) ?_ ?_ | refine cstp_ct (fillUse_ct) (by simp [go_sem]) ?_ ?_ | refine stp_ct (fillDecl_ct) (by simp [go_sem]) ?_ ?_ | refine cstp_ct (fillDecl_ct) (by simp [go_sem]) ?_ ?_); (simp [go_sem]); simp -implicitDefEqProofs [-List.map_take, -List.map_drop, go_sem])
    | (refine run_dreg' (by decide) ?_; simp -implicitDefEqProofs [-List.map_take, -List.map_drop, go_sem])
    | ((first | refine end_tup _ (by simp) (by simp [go_sem]; rfl) (by simp [go_sem]) ?_); first | (simp [go_sem, *]; done) | grind | (simp [go_sem]; grind) | (simp_all [go_sem]; done) | (simp_all [go_sem]; omega))
  exact end_snapG 3 _ _ (by simp) rfl rfl rfl
def toModuleS_L1 (l : Sl LModule) (bare : Bool) (A : List (List PV)) (c : Nat) (i : Nat) (_ : Unit) : St := ⟨lk [(0, l.I LModule.C), (1, .bool bare), (5, .ref 0 c 0 c (some c)), (6, .int .i64 i)], [some ⟨bldE A c [.str [], .imm [] [] true, .imm [] [] true] i, 3, 61, true, false⟩], []⟩
def toModuleS_L2 (l : Sl LModule) (A : List (List PV)) (c r : Nat) (j : Nat) (_ : Unit) : St := ⟨lk [(0, l.I LModule.C), (5, .ref 0 c 0 c (some c)), (7, .int .i64 ((l.es.length : Int) + (j : Int)))], [some ⟨bldF A r [.str [], .imm [] [] true, .imm [] [] true] fillModule.C j, 3, 61, true, false⟩], []⟩
open Z in
def mf_laws_toModuleS : MF := ⟨52, [(.t 4)], q (r [k 4 (.mov (.c (.imm [] [] true)))]) (q (q (r [m 8 1, m 9 8, g 10 (.mov (t 0)) 9 true, g 11 (.lenl (t 10)) 9 true, g 12 (.bin .eql (t 11) (i 0)) 9 true, k 13 (.pick (t 9) (t 12) (b false))]) (.cond (t 13) (q (r [k 4 (.mov (.c (.imm [] [] true)))]) .ret) .skip)) (q (r [m 14 0, k 15 (.lenl (t 14)), m 16 0, k 17 (.lenl (t 16)), k 18 (c 30 [t 17]), k 19 (.bin .add (t 15) (t 18)), k 20 (.mks 61 3 64 [.str [], .imm [] [] true, .imm [] [] true] (t 19) (t 19)), m 5 20]) (q (q (r [k 6 (.mov (i 0))]) (.blk 0 (.loop (q (q (r [m 21 6, m 22 0, k 23 (.lenl (t 22)), k 24 (.bin .lss (t 21) (t 23))]) (.cond (t 24) .skip (.exit 0))) (q (.blk 1 (r [m 27 5, m 28 6, m 29 0, m 30 6, k 31 (.iadr 3 (t 29) (t 30)), k 32 (.load true 3 (t 31)), m 33 1, k 34 (c 31 [t 32, t 33]), k 35 (.iadr 3 (t 27) (t 28)), n (.store 3 (t 35) (t 34))])) (r [m 25 6, k 26 (.bin .add (t 25) (i 1)), m 6 26])))))) (q (q (r [m 36 0, k 37 (.lenl (t 36)), m 7 37]) (.blk 2 (.loop (q (q (r [m 38 7, m 39 5, k 40 (.lenl (t 39)), k 41 (.bin .lss (t 38) (t 40))]) (.cond (t 41) .skip (.exit 2))) (q (.blk 3 (r [m 44 5, m 45 7, k 46 (c 32 []), k 47 (.iadr 3 (t 44) (t 45)), n (.store 3 (t 47) (t 46))])) (r [m 42 7, k 43 (.bin .add (t 42) (i 1)), m 7 43])))))) (q (r [m 48 5, m 49 0, k 50 (.lenl (t 49)), k 51 (.sl 3 (t 48) none (some (t 50)) none), m 4 51]) .ret)))))⟩
theorem fit_laws_toModuleS : Fit Tryz.prog 10 Tryz.f10 mf_laws_toModuleS := ⟨by kernel_rfl, Tryz.func10, by kernel_rfl, by kernel_rfl, by kernel_rfl, by kernel_rfl⟩
theorem toModuleS_ct (l : Sl LModule) (bare : Bool) (hl : l.es.length ≤ 1000000) (tf : LModule → LModule) (hg : ∀ a, a ∈ l.es → Ct Tryz.prog 31 [.agg a.C, .bool bare] (.agg (tf a).C)) :
    Ct Tryz.prog 10 [l.I LModule.C, .bool bare] ((toS LModule.C fillModule bare (l.es.map tf)).I LModule.C) := by
  obtain ⟨Y, hY⟩ : ∃ Y, Y = (toS LModule.C fillModule bare (l.es.map tf)).I LModule.C := ⟨_, rfl⟩
  rw [← hY]
  refine ct_of_run fit_laws_toModuleS (by simp [mf_laws_toModuleS]) (by simp [go_sem]) fun hd => ?_
  simp -implicitDefEqProofs [-List.map_take, -List.map_drop, go_sem, mf_laws_toModuleS]
  have hm : l.es.length ≤ maxLen := sl_deep hd.1
  have hA : ∀ e, e ∈ l.es.map (fun x => (tf x).C) → pureL e = true := by
    intro e he
    obtain ⟨x, _, rfl⟩ := List.mem_map.1 he
    exact LModule.C_pure _
  obtain ⟨A, hAe⟩ : ∃ A, A = l.es.map (fun x => (tf x).C) := ⟨_, rfl⟩
  have hAl : A.length = l.es.length := by rw [hAe, List.length_map]
  have hAg : ∀ (i : Nat) (h : i < l.es.length), A[i]'(by omega) = (tf l.es[i]).C := fun i h => by subst hAe; simp
  rw [← hAe] at hA
  have hrl := room_le l.es.length
  have hcase : (bare && l.es.length == 0) = true → Y = .imm [] [] true := fun h => by
    rw [hY]; simp only [toS, List.length_map, h, if_true, Sl.I, List.map_nil]
  have hcase2 : (bare && l.es.length == 0) = false → Y = .imm A (List.replicate (room l.es.length) fillModule.C) true := fun h => by
    rw [hY]
    simp only [toS, List.length_map, h, Bool.false_eq_true, if_false, Sl.I, List.map_map, hAe, List.map_replicate]
    rfl
  cases hb : (bare && l.es.length == 0)
  · have h1 := hcase2 hb
    obtain ⟨r, hr⟩ : ∃ r, r = room l.es.length := ⟨_, rfl⟩
    obtain ⟨c, hc⟩ : ∃ c, c = l.es.length + r := ⟨_, rfl⟩
    rw [← hr] at hrl h1
    subst h1
    clear hY hcase hcase2
    have hw0 : IntKind.i64.wrap ((l.es.length : Int) + (r : Int)) = (c : Int) := by rw [wrap_small (by omega) (by omega)]; omega
    have hrm := room_ct l.es.length
    rw [← hr] at hrm
    have hz : pureL [.str [], .imm [] [] true, .imm [] [] true] = true := rfl
    have hfp : pureL fillModule.C = true := LModule.C_pure _
    have hbnd : c * 1000 ≤ 140737488355328 := by omega
    cases bare
    · try simp only [Bool.true_and, beq_eq_false_iff_ne, ne_eq] at hb
      have hbz : ((l.es.length : Int) == 0) = decide (l.es.length = 0) := by rw [Bool.eq_iff_iff]; simp
      simp -implicitDefEqProofs [-List.map_take, -List.map_drop, go_sem]
      repeat' first
        | ((first | refine gv_split (fun h => ?_) (fun h => ?_) | refine cnd_split (fun h => ?_) (fun h => ?_) | refine cgv_split (fun h => ?_) (fun h => ?_)) <;> (try (have hp := h; simp at hp)) <;> simp -implicitDefEqProofs [-List.map_take, -List.map_drop, go_sem, h, hw0, hb, hbz])
        | (refine And.intro (by first | omega | (simp only [maxLen]; omega) | (simp_all; done) | (simp_all; omega)) ?_; try simp -implicitDefEqProofs [-List.map_take, -List.map_drop, go_sem, hw0, hb, hbz])
        | ((first | refine stp_ct (hrm) (by simp [go_sem, hw0, hb, hbz]) ?_ ?_ | refine cstp_ct (hrm) (by simp [go_sem, hw0, hb, hbz]) ?_ ?_); (simp [go_sem]); simp -implicitDefEqProofs [-List.map_take, -List.map_drop, go_sem, hw0, hb, hbz])
        | (refine run_dreg' (by decide) ?_; simp -implicitDefEqProofs [-List.map_take, -List.map_drop, go_sem, hw0, hb, hbz])
        | ((first | refine end_tup _ (by simp) (by simp [go_sem]; rfl) (by simp [go_sem]) ?_); first | (simp [go_sem, *]; done) | grind | (simp [go_sem]; grind) | (simp_all [go_sem]; done) | (simp_all [go_sem]; omega))
      refine run_iter (l.es.length) (toModuleS_L1 l false A c) (fun i a => True) () (gh_auto (by simp [go_sem, toModuleS_L1, bldE_zero])) (by first | (simp; done) | (simp []; done) | (simp []; omega) | grind) ?_
      intro i a hi hj
      simp -implicitDefEqProofs [-List.map_take, -List.map_drop, go_sem, toModuleS_L1, bldE_zero]
      refine cnd_split (fun hc => ?_) (fun hc => ?_)
      · have hlt : i < l.es.length := by first | (simpa using hc) | (simp at hc; omega)
        simp -implicitDefEqProofs [-List.map_take, -List.map_drop, go_sem, hlt, bldE_zero]
        have hwl : (bldE A c [.str [], .imm [] [] true, .imm [] [] true] i).length = c := bldE_len (by omega) (by omega)
        have hwg : (bldE A c [.str [], .imm [] [] true, .imm [] [] true] i)[i]? = some [.str [], .imm [] [] true, .imm [] [] true] := bldE_get (by omega) (by omega)
        have hws : (bldE A c [.str [], .imm [] [] true, .imm [] [] true] i).set i (tf l.es[i]).C = bldE A c [.str [], .imm [] [] true, .imm [] [] true] (i + 1) := by rw [← hAg i hlt]; exact bldE_set (by omega) (by omega)
        have hwb : ∀ m, ((bldE A c [.str [], .imm [] [] true, .imm [] [] true] (i + 1)).all fun e => e.all (bdV m)) = true := bld_bd (bldE_pure hA hz)
        have hlc : (i : Int) < (c : Int) := by omega
        have hgi := hg l.es[i] (List.getElem_mem hlt)
        have c1 := hgi
        have hy := And.intro (hlt) (And.intro (hwl) (And.intro (hlc) (And.intro (hwg) (And.intro (hws) (hwb)))))
        have hdf := hy0
        have eL := @toModuleS_L1.eq_1
        have hm0 := hm
        have hlt0 := hlt
        exact wk1n
      · have hge : l.es.length ≤ i := by first | (simpa using hc) | (simp at hc; omega)
        try simp -implicitDefEqProofs [-List.map_take, -List.map_drop, go_sem, bldE_zero]
        obtain rfl : i = l.es.length := by omega
        have hwf0 : bldF A r [.str [], .imm [] [] true, .imm [] [] true] fillModule.C 0 = bldE A c [.str [], .imm [] [] true, .imm [] [] true] l.es.length := by rw [← hAl]; exact bldF_zero (by omega)
        have hwb : ∀ m, ((bldE A c [.str [], .imm [] [] true, .imm [] [] true] l.es.length).all fun e => e.all (bdV m)) = true := bld_bd (bldE_pure hA hz)
        refine run_iter (r) (toModuleS_L2 l A c r) (fun i2 a2 => True) () (gh_auto (by simp [go_sem, toModuleS_L2, hwf0, hwb])) (by first | (simp; done) | (simp []; done) | (simp []; omega) | grind) ?_
        intro i2 a2 hi2 hj2
        simp -implicitDefEqProofs [-List.map_take, -List.map_drop, go_sem, toModuleS_L2, hwf0, hwb]
        refine cnd_split (fun hc2 => ?_) (fun hc2 => ?_)
        · have hlt2 : i2 < r := by first | (simpa using hc2) | (simp at hc2; omega)
          simp -implicitDefEqProofs [-List.map_take, -List.map_drop, go_sem, hlt2, hwf0, hwb]
          have hwl2 : (bldF A r [.str [], .imm [] [] true, .imm [] [] true] fillModule.C i2).length = c := by rw [bldF_len (by omega)]; omega
          have hwg2 : (bldF A r [.str [], .imm [] [] true, .imm [] [] true] fillModule.C i2)[l.es.length + i2]? = some [.str [], .imm [] [] true, .imm [] [] true] := by rw [← hAl]; exact bldF_get (by omega)
          have hws2 : (bldF A r [.str [], .imm [] [] true, .imm [] [] true] fillModule.C i2).set (l.es.length + i2) fillModule.C = bldF A r [.str [], .imm [] [] true, .imm [] [] true] fillModule.C (i2 + 1) := by rw [← hAl]; exact bldF_set (by omega)
          have hwb2 : ∀ m, ((bldF A r [.str [], .imm [] [] true, .imm [] [] true] fillModule.C (i2 + 1)).all fun e => e.all (bdV m)) = true := bld_bd (bldF_pure hA hz hfp)
          have hlc2 : (0 : Int) ≤ (l.es.length : Int) + (i2 : Int) ∧ (l.es.length : Int) + (i2 : Int) < (c : Int) := by omega
          have hwt2 : ((l.es.length : Int) + (i2 : Int)).toNat = l.es.length + i2 := by omega
          have hwi2 : IntKind.i64.wrap ((l.es.length : Int) + (i2 : Int) + 1) = (l.es.length : Int) + ((i2 : Int) + 1) := by rw [wrap_small (by omega) (by omega)]; omega
          have hm2 : r ≤ maxLen := by simp only [maxLen]; omega
          have c1 := fillModule_ct
          have hy := And.intro (hlt2) (And.intro (hwl2) (And.intro (hlc2) (And.intro (hwt2) (And.intro (hwg2) (And.intro (hws2) (And.intro (hwb2) (hwi2)))))))
          have hdf := hy0
          have eL := @toModuleS_L2.eq_1
          have hm0 := hm2
          have hlt0 := hlt2
          exact wk1n
        · have hge2 : r ≤ i2 := by first | (simpa using hc2) | (simp at hc2; omega)
          try simp -implicitDefEqProofs [-List.map_take, -List.map_drop, go_sem, hwf0, hwb]
          obtain rfl : i2 = r := by omega
          have hwl3 : (bldF A i2 [.str [], .imm [] [] true, .imm [] [] true] fillModule.C i2).length = c := by rw [bldF_len (by omega)]; omega
          have hwsl : slV [some ⟨bldF A i2 [.str [], .imm [] [] true, .imm [] [] true] fillModule.C i2, 3, 61, true, false⟩] 3 (.ref 0 c 0 c (some c)) none (some (.int .i64 (l.es.length : Int))) none = .ob True (.ref 0 c 0 l.es.length (some c)) := sl_own rfl hwl3 (by omega)
          simp -implicitDefEqProofs [-List.map_take, -List.map_drop, go_sem, hwsl]
          refine end_ref (o := 0) (c := c) (k := l.es.length) (es := bldF A i2 [.str [], .imm [] [] true, .imm [] [] true] fillModule.C i2) (sz := 3) (ty := 61) (arr := true) (frz := false) (by simp) (by simp [go_sem]) (by simp [go_sem]) hwl3 (bldF_pure hA hz hfp) ?_
          rw [bldF_full, ← hAl, List.take_left, List.drop_left]
    · try simp only [Bool.true_and, beq_eq_false_iff_ne, ne_eq] at hb
      have hbz : ((l.es.length : Int) == 0) = decide (l.es.length = 0) := by rw [Bool.eq_iff_iff]; simp
      simp -implicitDefEqProofs [-List.map_take, -List.map_drop, go_sem]
      repeat' first
        | ((first | refine gv_split (fun h => ?_) (fun h => ?_) | refine cnd_split (fun h => ?_) (fun h => ?_) | refine cgv_split (fun h => ?_) (fun h => ?_)) <;> (try (have hp := h; simp at hp)) <;> simp -implicitDefEqProofs [-List.map_take, -List.map_drop, go_sem, h, hw0, hb, hbz])
        | (refine And.intro (by first | omega | (simp only [maxLen]; omega) | (simp_all; done) | (simp_all; omega)) ?_; try simp -implicitDefEqProofs [-List.map_take, -List.map_drop, go_sem, hw0, hb, hbz])
        | ((first | refine stp_ct (hrm) (by simp [go_sem, hw0, hb, hbz]) ?_ ?_ | refine cstp_ct (hrm) (by simp [go_sem, hw0, hb, hbz]) ?_ ?_); (simp [go_sem]); simp -implicitDefEqProofs [-List.map_take, -List.map_drop, go_sem, hw0, hb, hbz])
        | (refine run_dreg' (by decide) ?_; simp -implicitDefEqProofs [-List.map_take, -List.map_drop, go_sem, hw0, hb, hbz])
        | ((first | refine end_tup _ (by simp) (by simp [go_sem]; rfl) (by simp [go_sem]) ?_); first | (simp [go_sem, *]; done) | grind | (simp [go_sem]; grind) | (simp_all [go_sem]; done) | (simp_all [go_sem]; omega))
      refine run_iter (l.es.length) (toModuleS_L1 l true A c) (fun i a => True) () (gh_auto (by simp [go_sem, toModuleS_L1, bldE_zero])) (by first | (simp; done) | (simp []; done) | (simp []; omega) | grind) ?_
      intro i a hi hj
      simp -implicitDefEqProofs [-List.map_take, -List.map_drop, go_sem, toModuleS_L1, bldE_zero]
      refine cnd_split (fun hc => ?_) (fun hc => ?_)
      · have hlt : i < l.es.length := by first | (simpa using hc) | (simp at hc; omega)
        simp -implicitDefEqProofs [-List.map_take, -List.map_drop, go_sem, hlt, bldE_zero]
        have hwl : (bldE A c [.str [], .imm [] [] true, .imm [] [] true] i).length = c := bldE_len (by omega) (by omega)
        have hwg : (bldE A c [.str [], .imm [] [] true, .imm [] [] true] i)[i]? = some [.str [], .imm [] [] true, .imm [] [] true] := bldE_get (by omega) (by omega)
        have hws : (bldE A c [.str [], .imm [] [] true, .imm [] [] true] i).set i (tf l.es[i]).C = bldE A c [.str [], .imm [] [] true, .imm [] [] true] (i + 1) := by rw [← hAg i hlt]; exact bldE_set (by omega) (by omega)
        have hwb : ∀ m, ((bldE A c [.str [], .imm [] [] true, .imm [] [] true] (i + 1)).all fun e => e.all (bdV m)) = true := bld_bd (bldE_pure hA hz)
        have hlc : (i : Int) < (c : Int) := by omega
        have hgi := hg l.es[i] (List.getElem_mem hlt)
        have c1 := hgi
        have hy := And.intro (hlt) (And.intro (hwl) (And.intro (hlc) (And.intro (hwg) (And.intro (hws) (hwb)))))
        have hdf := hy0
        have eL := @toModuleS_L1.eq_1
        have hm0 := hm
        have hlt0 := hlt
        exact wk1n
      · have hge : l.es.length ≤ i := by first | (simpa using hc) | (simp at hc; omega)
        try simp -implicitDefEqProofs [-List.map_take, -List.map_drop, go_sem, bldE_zero]
        obtain rfl : i = l.es.length := by omega
        have hwf0 : bldF A r [.str [], .imm [] [] true, .imm [] [] true] fillModule.C 0 = bldE A c [.str [], .imm [] [] true, .imm [] [] true] l.es.length := by rw [← hAl]; exact bldF_zero (by omega)
        have hwb : ∀ m, ((bldE A c [.str [], .imm [] [] true, .imm [] [] true] l.es.length).all fun e => e.all (bdV m)) = true := bld_bd (bldE_pure hA hz)
        refine run_iter (r) (toModuleS_L2 l A c r) (fun i2 a2 => True) () (gh_auto (by simp [go_sem, toModuleS_L2, hwf0, hwb])) (by first | (simp; done) | (simp []; done) | (simp []; omega) | grind) ?_
        intro i2 a2 hi2 hj2
        simp -implicitDefEqProofs [-List.map_take, -List.map_drop, go_sem, toModuleS_L2, hwf0, hwb]
        refine cnd_split (fun hc2 => ?_) (fun hc2 => ?_)
        · have hlt2 : i2 < r := by first | (simpa using hc2) | (simp at hc2; omega)
          simp -implicitDefEqProofs [-List.map_take, -List.map_drop, go_sem, hlt2, hwf0, hwb]
          have hwl2 : (bldF A r [.str [], .imm [] [] true, .imm [] [] true] fillModule.C i2).length = c := by rw [bldF_len (by omega)]; omega
          have hwg2 : (bldF A r [.str [], .imm [] [] true, .imm [] [] true] fillModule.C i2)[l.es.length + i2]? = some [.str [], .imm [] [] true, .imm [] [] true] := by rw [← hAl]; exact bldF_get (by omega)
          have hws2 : (bldF A r [.str [], .imm [] [] true, .imm [] [] true] fillModule.C i2).set (l.es.length + i2) fillModule.C = bldF A r [.str [], .imm [] [] true, .imm [] [] true] fillModule.C (i2 + 1) := by rw [← hAl]; exact bldF_set (by omega)
          have hwb2 : ∀ m, ((bldF A r [.str [], .imm [] [] true, .imm [] [] true] fillModule.C (i2 + 1)).all fun e => e.all (bdV m)) = true := bld_bd (bldF_pure hA hz hfp)
          have hlc2 : (0 : Int) ≤ (l.es.length : Int) + (i2 : Int) ∧ (l.es.length : Int) + (i2 : Int) < (c : Int) := by omega
          have hwt2 : ((l.es.length : Int) + (i2 : Int)).toNat = l.es.length + i2 := by omega
          have hwi2 : IntKind.i64.wrap ((l.es.length : Int) + (i2 : Int) + 1) = (l.es.length : Int) + ((i2 : Int) + 1) := by rw [wrap_small (by omega) (by omega)]; omega
          have hm2 : r ≤ maxLen := by simp only [maxLen]; omega
          have c1 := fillModule_ct
          have hy := And.intro (hlt2) (And.intro (hwl2) (And.intro (hlc2) (And.intro (hwt2) (And.intro (hwg2) (And.intro (hws2) (And.intro (hwb2) (hwi2)))))))
          have hdf := hy0
          have eL := @toModuleS_L2.eq_1
          have hm0 := hm2
          have hlt0 := hlt2
          exact wk1n
        · have hge2 : r ≤ i2 := by first | (simpa using hc2) | (simp at hc2; omega)
          try simp -implicitDefEqProofs [-List.map_take, -List.map_drop, go_sem, hwf0, hwb]
          obtain rfl : i2 = r := by omega
          have hwl3 : (bldF A i2 [.str [], .imm [] [] true, .imm [] [] true] fillModule.C i2).length = c := by rw [bldF_len (by omega)]; omega
          have hwsl : slV [some ⟨bldF A i2 [.str [], .imm [] [] true, .imm [] [] true] fillModule.C i2, 3, 61, true, false⟩] 3 (.ref 0 c 0 c (some c)) none (some (.int .i64 (l.es.length : Int))) none = .ob True (.ref 0 c 0 l.es.length (some c)) := sl_own rfl hwl3 (by omega)
          simp -implicitDefEqProofs [-List.map_take, -List.map_drop, go_sem, hwsl]
          refine end_ref (o := 0) (c := c) (k := l.es.length) (es := bldF A i2 [.str [], .imm [] [] true, .imm [] [] true] fillModule.C i2) (sz := 3) (ty := 61) (arr := true) (frz := false) (by simp) (by simp [go_sem]) (by simp [go_sem]) hwl3 (bldF_pure hA hz hfp) ?_
          rw [bldF_full, ← hAl, List.take_left, List.drop_left]
  · have h1 := hcase hb
    subst h1
    simp at hb
    obtain ⟨rfl, hb⟩ := hb
    have hbt : ((l.es.length : Int) == 0) = true := by simp [hb]
    simp -implicitDefEqProofs [-List.map_take, -List.map_drop, go_sem, hbt]
    have hy := hbt
    have hdf := hy0
    exact wk0
theorem toP_ct (p : Sl LModule) (bare : Bool) (hs : SmP (p.es.map LModule.core)) : Ct Tryz.prog 10 [p.I LModule.C, .bool bare] ((toP bare p.es).I LModule.C) :=
  toModuleS_ct p bare (by simpa using hs.1) (toM bare) (fun a ha => toModule_ct a bare (hs.2 _ (List.mem_map_of_mem ha)))

theorem Use.beq_eq (x y : Use) : (x == y) = (x.module == y.module && x.name == y.name) := by cases x; cases y; rw [Bool.eq_iff_iff]; simp
theorem Bind.beq_eq (x y : Bind) : (x == y) = (x.name == y.name && x.type == y.type) := by cases x; cases y; rw [Bool.eq_iff_iff]; simp
theorem all2_same' : ∀ (xs ys : List LExpr), all2 (fun a b => Expr.same a.core b.core) xs ys = Expr.sames (xs.map LExpr.core) (ys.map LExpr.core)
  | [], [] => rfl
  | [], _ :: _ => rfl
  | _ :: _, [] => rfl
  | x :: xs, y :: ys => by simp [all2, Expr.sames, all2_same' xs ys]
theorem all2_map' {α β : Type} (f : α → β) (p : β → β → Bool) : ∀ (xs ys : List α), all2 (fun a b => p (f a) (f b)) xs ys = all2 p (xs.map f) (ys.map f)
  | [], [] => rfl
  | [], _ :: _ => rfl
  | _ :: _, [] => rfl
  | x :: xs, y :: ys => by simp [all2, all2_map' f p xs ys]
/-- A slice and all that lies behind it. -/
theorem slV_full {α : Type} {f : α → List PV} {l s : List α} {lim : Bool} {n : Nat} {σ : Heap} {k : IntKind} {m : Int} (hm : m = ((l.length + s.length : Nat) : Int)) (hf : ∀ x, (f x).length = n) :
    slV σ n (.imm (l.map f) (s.map f) lim) none (some (.int k m)) none = .ob True (.imm ((l ++ s).map f) [] lim) := by
  subst hm
  simp only [slV, optI, Int.toNat_zero, List.drop_zero, Int.toNat_natCast, List.length_map]
  have h2 : ((l.length : Int) + (s.length : Int)).toNat = l.length + s.length := by omega
  have h3 : (List.map f l ++ List.map f s).take (l.length + s.length) = (l ++ s).map f := by rw [List.take_of_length_le (by simp), List.map_append]
  rw [h2, h3, List.drop_of_length_le (by simp)]
  have h4 : (0 ≤ (0 : Int) ∧ (0 : Int) ≤ ((l.length + s.length : Nat) : Int) ∧ ((l.length + s.length : Nat) : Int) ≤ (l.length : Int) + (s.length : Int) ∧ (l.length : Int) + (s.length : Int) ≤ (l.length : Int) + (s.length : Int) ∧ ∀ e, e ∈ l.map f ++ s.map f → e.length = n) = True := by
    refine eq_true ⟨by omega, by omega, by omega, by omega, fun e he => ?_⟩
    rw [← List.map_append] at he
    obtain ⟨x, _, rfl⟩ := List.mem_map.1 he
    exact hf x
  simp only [h4]
  simp
/-- What lies behind a slice. -/
theorem slV_behind {α : Type} {f : α → List PV} {l s : List α} {lim : Bool} {n : Nat} {σ : Heap} {k : IntKind} {m : Int} (hm : m = ((l.length + s.length : Nat) : Int)) (hf : ∀ x, (f x).length = n) :
    slV σ n (.imm (l.map f) (s.map f) lim) (some (.int k (l.length : Int))) (some (.int k m)) none = .ob True (.imm (s.map f) [] lim) := by
  subst hm
  simp only [slV, optI, Int.toNat_natCast, List.length_map]
  have h2 : ((l.length : Int) + (s.length : Int)).toNat = l.length + s.length := by omega
  have h3 : (List.map f l ++ List.map f s).take (l.length + s.length) = l.map f ++ s.map f := List.take_of_length_le (by simp)
  have h5 : (l.map f ++ s.map f).drop l.length = s.map f := by rw [List.drop_left' (by simp)]
  rw [h2, h3, h5, List.drop_of_length_le (by simp)]
  have h4 : (0 ≤ (l.length : Int) ∧ (l.length : Int) ≤ ((l.length + s.length : Nat) : Int) ∧ ((l.length + s.length : Nat) : Int) ≤ (l.length : Int) + (s.length : Int) ∧ (l.length : Int) + (s.length : Int) ≤ (l.length : Int) + (s.length : Int) ∧ ∀ e, e ∈ l.map f ++ s.map f → e.length = n) = True := by
    refine eq_true ⟨by omega, by omega, by omega, by omega, fun e he => ?_⟩
    rw [← List.map_append] at he
    obtain ⟨x, _, rfl⟩ := List.mem_map.1 he
    exact hf x
  simp only [h4]
  simp
open Z in
def mf_laws_eqUse : MF := ⟨15, [(.t 4)], q (r [k 2 (.box 99 (t 0)), k 3 (.box 99 (t 1)), k 4 (.mov (b false))]) (q (q (r [k 5 (.fadr 0 (t 2)), k 6 (.load false 1 (t 5)), k 7 (.fadr 0 (t 3)), k 8 (.load false 1 (t 7)), k 9 (.seq true (t 6) (t 8))]) (.cond (t 9) (q (r [k 4 (.mov (b false))]) .ret) .skip)) (q (q (r [k 10 (.fadr 1 (t 2)), k 11 (.load false 1 (t 10)), k 12 (.fadr 1 (t 3)), k 13 (.load false 1 (t 12)), k 14 (.seq true (t 11) (t 13))]) (.cond (t 14) (q (r [k 4 (.mov (b false))]) .ret) .skip)) (q (r [k 4 (.mov (b true))]) .ret)))⟩
theorem fit_laws_eqUse : Fit Tryz.prog 181 Tryz.f181 mf_laws_eqUse := ⟨by kernel_rfl, Tryz.func181, by kernel_rfl, by kernel_rfl, by kernel_rfl, by kernel_rfl⟩
theorem eqUse_ct (x y : Use) : Ct Tryz.prog 181 [.agg x.C, .agg y.C] (.bool (x == y)) := by
  rw [Use.beq_eq]
  refine ct_of_run fit_laws_eqUse (by simp [mf_laws_eqUse]) (by simp [go_sem]) fun hd => ?_
  simp -implicitDefEqProofs [-List.map_take, -List.map_drop, go_sem, mf_laws_eqUse]
  have hy := hy0
  have hdf := hy0
  exact wk0
open Z in
def mf_laws_eqBind : MF := ⟨15, [(.t 4)], q (r [k 2 (.box 118 (t 0)), k 3 (.box 118 (t 1)), k 4 (.mov (b false))]) (q (q (r [k 5 (.fadr 0 (t 2)), k 6 (.load false 1 (t 5)), k 7 (.fadr 0 (t 3)), k 8 (.load false 1 (t 7)), k 9 (.seq true (t 6) (t 8))]) (.cond (t 9) (q (r [k 4 (.mov (b false))]) .ret) .skip)) (q (q (r [k 10 (.fadr 1 (t 2)), k 11 (.load false 1 (t 10)), k 12 (.fadr 1 (t 3)), k 13 (.load false 1 (t 12)), k 14 (.seq true (t 11) (t 13))]) (.cond (t 14) (q (r [k 4 (.mov (b false))]) .ret) .skip)) (q (r [k 4 (.mov (b true))]) .ret)))⟩
theorem fit_laws_eqBind : Fit Tryz.prog 218 Tryz.f218 mf_laws_eqBind := ⟨by kernel_rfl, Tryz.func218, by kernel_rfl, by kernel_rfl, by kernel_rfl, by kernel_rfl⟩
theorem eqBind_ct (x y : Bind) : Ct Tryz.prog 218 [.agg x.C, .agg y.C] (.bool (x == y)) := by
  rw [Bind.beq_eq]
  refine ct_of_run fit_laws_eqBind (by simp [mf_laws_eqBind]) (by simp [go_sem]) fun hd => ?_
  simp -implicitDefEqProofs [-List.map_take, -List.map_drop, go_sem, mf_laws_eqBind]
  have hy := hy0
  have hdf := hy0
  exact wk0
def eqUseS_L (x y : Sl Use) (i : Nat) (_ : Unit) : St := ⟨lk [(0, x.I Use.C), (1, y.I Use.C), (5, .int .i64 i)], [], []⟩
open Z in
def mf_laws_eqUseS : MF := ⟨27, [(.t 4)], q (r [k 4 (.mov (b false))]) (q (q (r [m 6 0, k 7 (.lenl (t 6)), m 8 1, k 9 (.lenl (t 8)), k 10 (.bin .neq (t 7) (t 9))]) (.cond (t 10) (q (r [k 4 (.mov (b false))]) .ret) .skip)) (q (q (r [k 5 (.mov (i 0))]) (.blk 0 (.loop (q (q (r [m 11 5, m 12 0, k 13 (.lenl (t 12)), k 14 (.bin .lss (t 11) (t 13))]) (.cond (t 14) .skip (.exit 0))) (q (.blk 1 (q (.dreg [(m 17 0, []), (m 18 5, []), (k 19 (.iadr 2 (t 17) (t 18)), [0, 1]), (k 20 (.load true 2 (t 19)), [2]), (m 21 1, []), (m 22 5, []), (k 23 (.iadr 2 (t 21) (t 22)), [4, 5]), (k 24 (.load true 2 (t 23)), [6]), (k 25 (c 181 [t 20, t 24]), [3, 7]), (k 26 (.not (t 25)), [8])]) (.cond (t 26) (q (r [k 4 (.mov (b false))]) .ret) .skip))) (r [m 15 5, k 16 (.bin .add (t 15) (i 1)), m 5 16])))))) (q (r [k 4 (.mov (b true))]) .ret)))⟩
theorem fit_laws_eqUseS : Fit Tryz.prog 141 Tryz.f141 mf_laws_eqUseS := ⟨by kernel_rfl, Tryz.func141, by kernel_rfl, by kernel_rfl, by kernel_rfl, by kernel_rfl⟩
theorem eqUseS_ct (x y : Sl Use) (p : Use → Use → Bool) (hg : ∀ a, a ∈ x.es → ∀ b, Ct Tryz.prog 181 [.agg a.C, .agg b.C] (.bool (p a b))) : Ct Tryz.prog 141 [x.I Use.C, y.I Use.C] (.bool (all2 p x.es y.es)) := by
  refine ct_of_run fit_laws_eqUseS (by simp [mf_laws_eqUseS]) (by simp [go_sem]) fun hd => ?_
  simp -implicitDefEqProofs [-List.map_take, -List.map_drop, go_sem, mf_laws_eqUseS]
  have hm : x.es.length ≤ maxLen := sl_deep hd.1
  have hne := all2_ne p x.es y.es
  repeat' first
    | ((first | refine gv_split (fun h => ?_) (fun h => ?_) | refine cnd_split (fun h => ?_) (fun h => ?_) | refine cgv_split (fun h => ?_) (fun h => ?_)) <;> (try (have hp := h; simp at hp)) <;> simp -implicitDefEqProofs [-List.map_take, -List.map_drop, go_sem, h])
    | (refine And.intro (by first | omega | (simp only [maxLen]; omega) | (simp_all; done) | (simp_all; omega)) ?_; try simp -implicitDefEqProofs [-List.map_take, -List.map_drop, go_sem])
    | (refine run_dreg' (by decide) ?_; simp -implicitDefEqProofs [-List.map_take, -List.map_drop, go_sem])
    | ((first | refine end_tup _ (by simp) (by simp [go_sem]; rfl) (by simp [go_sem]) ?_); first | (simp [go_sem, *]; done) | grind | (simp [go_sem]; grind) | (simp_all [go_sem]; done) | (simp_all [go_sem]; omega))
  have hlen : x.es.length = y.es.length := by omega
  refine run_iter (x.es.length) (eqUseS_L x y) (fun i a => all2 p (x.es.drop i) (y.es.drop i) = all2 p x.es y.es) () (gh_auto (by simp [go_sem, eqUseS_L])) (by first | (simp; done) | (simp []; done) | (simp []; omega) | grind) ?_
  intro i a hi hj
  simp -implicitDefEqProofs [-List.map_take, -List.map_drop, go_sem, eqUseS_L]
  refine cnd_split (fun hc => ?_) (fun hc => ?_)
  · have hlt : i < x.es.length := by first | (simpa using hc) | (simp at hc; omega)
    rw [List.drop_eq_getElem_cons (l := x.es) (by omega)] at hj
    have hlt_1 : i < y.es.length := by omega
    rw [List.drop_eq_getElem_cons (l := y.es) (by omega)] at hj
    simp only [List.map_cons, all2] at hj
    simp -implicitDefEqProofs [-List.map_take, -List.map_drop, go_sem, hlt, hlt_1]
    have c1 := hg x.es[i] (List.getElem_mem hlt) y.es[i]
    have hy := And.intro (hlt) (hlt_1)
    have hdf := hy0
    have eL := @eqUseS_L.eq_1
    have hm0 := hm
    have hlt0 := hlt
    exact wk1n
  · have hge : x.es.length ≤ i := by first | (simpa using hc) | (simp at hc; omega)
    rw [List.drop_of_length_le (l := x.es) (by omega)] at hj
    rw [List.drop_of_length_le (l := y.es) (by omega)] at hj
    simp only [List.map_nil, all2] at hj
    try simp -implicitDefEqProofs [-List.map_take, -List.map_drop, go_sem]
    have hy := hy0
    have hdf := hy0
    exact wk0
def eqBindS_L (x y : Sl Bind) (i : Nat) (_ : Unit) : St := ⟨lk [(0, x.I Bind.C), (1, y.I Bind.C), (5, .int .i64 i)], [], []⟩
open Z in
def mf_laws_eqBindS : MF := ⟨27, [(.t 4)], q (r [k 4 (.mov (b false))]) (q (q (r [m 6 0, k 7 (.lenl (t 6)), m 8 1, k 9 (.lenl (t 8)), k 10 (.bin .neq (t 7) (t 9))]) (.cond (t 10) (q (r [k 4 (.mov (b false))]) .ret) .skip)) (q (q (r [k 5 (.mov (i 0))]) (.blk 0 (.loop (q (q (r [m 11 5, m 12 0, k 13 (.lenl (t 12)), k 14 (.bin .lss (t 11) (t 13))]) (.cond (t 14) .skip (.exit 0))) (q (.blk 1 (q (.dreg [(m 17 0, []), (m 18 5, []), (k 19 (.iadr 2 (t 17) (t 18)), [0, 1]), (k 20 (.load true 2 (t 19)), [2]), (m 21 1, []), (m 22 5, []), (k 23 (.iadr 2 (t 21) (t 22)), [4, 5]), (k 24 (.load true 2 (t 23)), [6]), (k 25 (c 218 [t 20, t 24]), [3, 7]), (k 26 (.not (t 25)), [8])]) (.cond (t 26) (q (r [k 4 (.mov (b false))]) .ret) .skip))) (r [m 15 5, k 16 (.bin .add (t 15) (i 1)), m 5 16])))))) (q (r [k 4 (.mov (b true))]) .ret)))⟩
theorem fit_laws_eqBindS : Fit Tryz.prog 208 Tryz.f208 mf_laws_eqBindS := ⟨by kernel_rfl, Tryz.func208, by kernel_rfl, by kernel_rfl, by kernel_rfl, by kernel_rfl⟩
theorem eqBindS_ct (x y : Sl Bind) (p : Bind → Bind → Bool) (hg : ∀ a, a ∈ x.es → ∀ b, Ct Tryz.prog 218 [.agg a.C, .agg b.C] (.bool (p a b))) : Ct Tryz.prog 208 [x.I Bind.C, y.I Bind.C] (.bool (all2 p x.es y.es)) := by
  refine ct_of_run fit_laws_eqBindS (by simp [mf_laws_eqBindS]) (by simp [go_sem]) fun hd => ?_
  simp -implicitDefEqProofs [-List.map_take, -List.map_drop, go_sem, mf_laws_eqBindS]
  have hm : x.es.length ≤ maxLen := sl_deep hd.1
  have hne := all2_ne p x.es y.es
  repeat' first
    | ((first | refine gv_split (fun h => ?_) (fun h => ?_) | refine cnd_split (fun h => ?_) (fun h => ?_) | refine cgv_split (fun h => ?_) (fun h => ?_)) <;> (try (have hp := h; simp at hp)) <;> simp -implicitDefEqProofs [-List.map_take, -List.map_drop, go_sem, h])
    | (refine And.intro (by first | omega | (simp only [maxLen]; omega) | (simp_all; done) | (simp_all; omega)) ?_; try simp -implicitDefEqProofs [-List.map_take, -List.map_drop, go_sem])
    | (refine run_dreg' (by decide) ?_; simp -implicitDefEqProofs [-List.map_take, -List.map_drop, go_sem])
    | ((first | refine end_tup _ (by simp) (by simp [go_sem]; rfl) (by simp [go_sem]) ?_); first | (simp [go_sem, *]; done) | grind | (simp [go_sem]; grind) | (simp_all [go_sem]; done) | (simp_all [go_sem]; omega))
  have hlen : x.es.length = y.es.length := by omega
  refine run_iter (x.es.length) (eqBindS_L x y) (fun i a => all2 p (x.es.drop i) (y.es.drop i) = all2 p x.es y.es) () (gh_auto (by simp [go_sem, eqBindS_L])) (by first | (simp; done) | (simp []; done) | (simp []; omega) | grind) ?_
  intro i a hi hj
  simp -implicitDefEqProofs [-List.map_take, -List.map_drop, go_sem, eqBindS_L]
  refine cnd_split (fun hc => ?_) (fun hc => ?_)
  · have hlt : i < x.es.length := by first | (simpa using hc) | (simp at hc; omega)
    rw [List.drop_eq_getElem_cons (l := x.es) (by omega)] at hj
    have hlt_1 : i < y.es.length := by omega
    rw [List.drop_eq_getElem_cons (l := y.es) (by omega)] at hj
    simp only [List.map_cons, all2] at hj
    simp -implicitDefEqProofs [-List.map_take, -List.map_drop, go_sem, hlt, hlt_1]
    have c1 := hg x.es[i] (List.getElem_mem hlt) y.es[i]
    have hy := And.intro (hlt) (hlt_1)
    have hdf := hy0
    have eL := @eqBindS_L.eq_1
    have hm0 := hm
    have hlt0 := hlt
    exact wk1n
  · have hge : x.es.length ≤ i := by first | (simpa using hc) | (simp at hc; omega)
    rw [List.drop_of_length_le (l := x.es) (by omega)] at hj
    rw [List.drop_of_length_le (l := y.es) (by omega)] at hj
    simp only [List.map_nil, all2] at hj
    try simp -implicitDefEqProofs [-List.map_take, -List.map_drop, go_sem]
    have hy := hy0
    have hdf := hy0
    exact wk0
def eqExprS_L (x y : Sl LExpr) (i : Nat) (_ : Unit) : St := ⟨lk [(0, x.I LExpr.C), (1, y.I LExpr.C), (5, .int .i64 i)], [], []⟩
open Z in
def mf_laws_eqExprS : MF := ⟨27, [(.t 4)], q (r [k 4 (.mov (b false))]) (q (q (r [m 6 0, k 7 (.lenl (t 6)), m 8 1, k 9 (.lenl (t 8)), k 10 (.bin .neq (t 7) (t 9))]) (.cond (t 10) (q (r [k 4 (.mov (b false))]) .ret) .skip)) (q (q (r [k 5 (.mov (i 0))]) (.blk 0 (.loop (q (q (r [m 11 5, m 12 0, k 13 (.lenl (t 12)), k 14 (.bin .lss (t 11) (t 13))]) (.cond (t 14) .skip (.exit 0))) (q (.blk 1 (q (.dreg [(m 17 0, []), (m 18 5, []), (k 19 (.iadr 4 (t 17) (t 18)), [0, 1]), (k 20 (.load true 4 (t 19)), [2]), (m 21 1, []), (m 22 5, []), (k 23 (.iadr 4 (t 21) (t 22)), [4, 5]), (k 24 (.load true 4 (t 23)), [6]), (k 25 (c 168 [t 20, t 24]), [3, 7]), (k 26 (.not (t 25)), [8])]) (.cond (t 26) (q (r [k 4 (.mov (b false))]) .ret) .skip))) (r [m 15 5, k 16 (.bin .add (t 15) (i 1)), m 5 16])))))) (q (r [k 4 (.mov (b true))]) .ret)))⟩
theorem fit_laws_eqExprS : Fit Tryz.prog 113 Tryz.f113 mf_laws_eqExprS := ⟨by kernel_rfl, Tryz.func113, by kernel_rfl, by kernel_rfl, by kernel_rfl, by kernel_rfl⟩
theorem eqExprS_ct (x y : Sl LExpr) (p : LExpr → LExpr → Bool) (hg : ∀ a, a ∈ x.es → ∀ b, Ct Tryz.prog 168 [.agg a.C, .agg b.C] (.bool (p a b))) : Ct Tryz.prog 113 [x.I LExpr.C, y.I LExpr.C] (.bool (all2 p x.es y.es)) := by
  refine ct_of_run fit_laws_eqExprS (by simp [mf_laws_eqExprS]) (by simp [go_sem]) fun hd => ?_
  simp -implicitDefEqProofs [-List.map_take, -List.map_drop, go_sem, mf_laws_eqExprS]
  have hm : x.es.length ≤ maxLen := sl_deep hd.1
  have hne := all2_ne p x.es y.es
  repeat' first
    | ((first | refine gv_split (fun h => ?_) (fun h => ?_) | refine cnd_split (fun h => ?_) (fun h => ?_) | refine cgv_split (fun h => ?_) (fun h => ?_)) <;> (try (have hp := h; simp at hp)) <;> simp -implicitDefEqProofs [-List.map_take, -List.map_drop, go_sem, h])
    | (refine And.intro (by first | omega | (simp only [maxLen]; omega) | (simp_all; done) | (simp_all; omega)) ?_; try simp -implicitDefEqProofs [-List.map_take, -List.map_drop, go_sem])
    | (refine run_dreg' (by decide) ?_; simp -implicitDefEqProofs [-List.map_take, -List.map_drop, go_sem])
    | ((first | refine end_tup _ (by simp) (by simp [go_sem]; rfl) (by simp [go_sem]) ?_); first | (simp [go_sem, *]; done) | grind | (simp [go_sem]; grind) | (simp_all [go_sem]; done) | (simp_all [go_sem]; omega))
  have hlen : x.es.length = y.es.length := by omega
  refine run_iter (x.es.length) (eqExprS_L x y) (fun i a => all2 p (x.es.drop i) (y.es.drop i) = all2 p x.es y.es) () (gh_auto (by simp [go_sem, eqExprS_L])) (by first | (simp; done) | (simp []; done) | (simp []; omega) | grind) ?_
  intro i a hi hj
  simp -implicitDefEqProofs [-List.map_take, -List.map_drop, go_sem, eqExprS_L]
  refine cnd_split (fun hc => ?_) (fun hc => ?_)
  · have hlt : i < x.es.length := by first | (simpa using hc) | (simp at hc; omega)
    rw [List.drop_eq_getElem_cons (l := x.es) (by omega)] at hj
    have hlt_1 : i < y.es.length := by omega
    rw [List.drop_eq_getElem_cons (l := y.es) (by omega)] at hj
    simp only [List.map_cons, all2] at hj
    simp -implicitDefEqProofs [-List.map_take, -List.map_drop, go_sem, hlt, hlt_1]
    have c1 := hg x.es[i] (List.getElem_mem hlt) y.es[i]
    have hy := And.intro (hlt) (hlt_1)
    have hdf := hy0
    have eL := @eqExprS_L.eq_1
    have hm0 := hm
    have hlt0 := hlt
    exact wk1n
  · have hge : x.es.length ≤ i := by first | (simpa using hc) | (simp at hc; omega)
    rw [List.drop_of_length_le (l := x.es) (by omega)] at hj
    rw [List.drop_of_length_le (l := y.es) (by omega)] at hj
    simp only [List.map_nil, all2] at hj
    try simp -implicitDefEqProofs [-List.map_take, -List.map_drop, go_sem]
    have hy := hy0
    have hdf := hy0
    exact wk0
open Z in
def mf_laws_eqExpr : MF := ⟨26, [(.t 4)], q (r [k 2 (.box 48 (t 0)), k 3 (.box 48 (t 1)), k 4 (.mov (b false))]) (q (q (r [k 5 (.fadr 0 (t 2)), k 6 (.load false 1 (t 5)), k 7 (.fadr 0 (t 3)), k 8 (.load false 1 (t 7)), k 9 (.bin .neq (t 6) (t 8))]) (.cond (t 9) (q (r [k 4 (.mov (b false))]) .ret) .skip)) (q (q (r [k 10 (.fadr 1 (t 2)), k 11 (.load false 1 (t 10)), k 12 (.fadr 1 (t 3)), k 13 (.load false 1 (t 12)), k 14 (.bin .neq (t 11) (t 13))]) (.cond (t 14) (q (r [k 4 (.mov (b false))]) .ret) .skip)) (q (q (r [k 15 (.fadr 2 (t 2)), k 16 (.load false 1 (t 15)), k 17 (.fadr 2 (t 3)), k 18 (.load false 1 (t 17)), k 19 (.seq true (t 16) (t 18))]) (.cond (t 19) (q (r [k 4 (.mov (b false))]) .ret) .skip)) (q (q (r [k 20 (.fadr 3 (t 2)), k 21 (.load false 1 (t 20)), k 22 (.fadr 3 (t 3)), k 23 (.load false 1 (t 22)), k 24 (c 113 [t 21, t 23]), k 25 (.not (t 24))]) (.cond (t 25) (q (r [k 4 (.mov (b false))]) .ret) .skip)) (q (r [k 4 (.mov (b true))]) .ret)))))⟩
theorem fit_laws_eqExpr : Fit Tryz.prog 168 Tryz.f168 mf_laws_eqExpr := ⟨by kernel_rfl, Tryz.func168, by kernel_rfl, by kernel_rfl, by kernel_rfl, by kernel_rfl⟩
theorem eqExpr_ct (x y : LExpr) : Ct Tryz.prog 168 [.agg x.C, .agg y.C] (.bool (Expr.same x.core y.core)) := by
  have h1 := Expr.same_eq x.core y.core
  rw [LExpr.core_kind, LExpr.core_num, LExpr.core_text, LExpr.core_kids, LExpr.core_kind, LExpr.core_num, LExpr.core_text, LExpr.core_kids, ← all2_same'] at h1
  have h2 := eqExprS_ct ⟨x.kids, x.sp, x.lim⟩ ⟨y.kids, y.sp, y.lim⟩ (fun a b => Expr.same a.core b.core) fun a ha b => eqExpr_ct a b
  rw [h1]
  clear h1
  refine ct_of_run fit_laws_eqExpr (by simp [mf_laws_eqExpr]) (by simp [go_sem]) fun hd => ?_
  simp -implicitDefEqProofs [-List.map_take, -List.map_drop, go_sem, mf_laws_eqExpr]
  have c1 := h2
  have hy := hy0
  have hdf := hy0
  exact wk1
termination_by SizeOf.sizeOf x
decreasing_by exact LExpr.kid_lt ha
open Z in
def mf_laws_eqDecl : MF := ⟨32, [(.t 4)], q (r [k 2 (.box 72 (t 0)), k 3 (.box 72 (t 1)), k 4 (.mov (b false))]) (q (q (r [k 5 (.fadr 0 (t 2)), k 6 (.load false 1 (t 5)), k 7 (.fadr 0 (t 3)), k 8 (.load false 1 (t 7)), k 9 (.bin .neq (t 6) (t 8))]) (.cond (t 9) (q (r [k 4 (.mov (b false))]) .ret) .skip)) (q (q (r [k 10 (.fadr 1 (t 2)), k 11 (.load false 1 (t 10)), k 12 (.fadr 1 (t 3)), k 13 (.load false 1 (t 12)), k 14 (.seq true (t 11) (t 13))]) (.cond (t 14) (q (r [k 4 (.mov (b false))]) .ret) .skip)) (q (q (r [k 15 (.fadr 2 (t 2)), k 16 (.load false 1 (t 15)), k 17 (.fadr 2 (t 3)), k 18 (.load false 1 (t 17)), k 19 (c 208 [t 16, t 18]), k 20 (.not (t 19))]) (.cond (t 20) (q (r [k 4 (.mov (b false))]) .ret) .skip)) (q (q (r [k 21 (.fadr 3 (t 2)), k 22 (.load false 1 (t 21)), k 23 (.fadr 3 (t 3)), k 24 (.load false 1 (t 23)), k 25 (.seq true (t 22) (t 24))]) (.cond (t 25) (q (r [k 4 (.mov (b false))]) .ret) .skip)) (q (q (r [k 26 (.fadr 4 (t 2)), k 27 (.load true 4 (t 26)), k 28 (.fadr 4 (t 3)), k 29 (.load true 4 (t 28)), k 30 (c 168 [t 27, t 29]), k 31 (.not (t 30))]) (.cond (t 31) (q (r [k 4 (.mov (b false))]) .ret) .skip)) (q (r [k 4 (.mov (b true))]) .ret))))))⟩
theorem fit_laws_eqDecl : Fit Tryz.prog 183 Tryz.f183 mf_laws_eqDecl := ⟨by kernel_rfl, Tryz.func183, by kernel_rfl, by kernel_rfl, by kernel_rfl, by kernel_rfl⟩
theorem eqDecl_ct (x y : LDecl) : Ct Tryz.prog 183 [.agg x.C, .agg y.C] (.bool (sameDecl x.core y.core)) := by
  have h1 := eqBindS_ct x.binds y.binds (· == ·) (fun a _ b => eqBind_ct a b)
  refine ct_of_run fit_laws_eqDecl (by simp [mf_laws_eqDecl]) (by simp [go_sem]) fun hd => ?_
  simp -implicitDefEqProofs [-List.map_take, -List.map_drop, go_sem, mf_laws_eqDecl]
  have c1 := h1
  have c2 := eqExpr_ct x.body y.body
  have hy := hy0
  have e1 := @sameDecl.eq_1
  have hdf := @e1
  exact wk1
def eqDeclS_L (x y : Sl LDecl) (i : Nat) (_ : Unit) : St := ⟨lk [(0, x.I LDecl.C), (1, y.I LDecl.C), (5, .int .i64 i)], [], []⟩
open Z in
def mf_laws_eqDeclS : MF := ⟨27, [(.t 4)], q (r [k 4 (.mov (b false))]) (q (q (r [m 6 0, k 7 (.lenl (t 6)), m 8 1, k 9 (.lenl (t 8)), k 10 (.bin .neq (t 7) (t 9))]) (.cond (t 10) (q (r [k 4 (.mov (b false))]) .ret) .skip)) (q (q (r [k 5 (.mov (i 0))]) (.blk 0 (.loop (q (q (r [m 11 5, m 12 0, k 13 (.lenl (t 12)), k 14 (.bin .lss (t 11) (t 13))]) (.cond (t 14) .skip (.exit 0))) (q (.blk 1 (q (.dreg [(m 17 0, []), (m 18 5, []), (k 19 (.iadr 8 (t 17) (t 18)), [0, 1]), (k 20 (.load true 8 (t 19)), [2]), (m 21 1, []), (m 22 5, []), (k 23 (.iadr 8 (t 21) (t 22)), [4, 5]), (k 24 (.load true 8 (t 23)), [6]), (k 25 (c 183 [t 20, t 24]), [3, 7]), (k 26 (.not (t 25)), [8])]) (.cond (t 26) (q (r [k 4 (.mov (b false))]) .ret) .skip))) (r [m 15 5, k 16 (.bin .add (t 15) (i 1)), m 5 16])))))) (q (r [k 4 (.mov (b true))]) .ret)))⟩
theorem fit_laws_eqDeclS : Fit Tryz.prog 143 Tryz.f143 mf_laws_eqDeclS := ⟨by kernel_rfl, Tryz.func143, by kernel_rfl, by kernel_rfl, by kernel_rfl, by kernel_rfl⟩
theorem eqDeclS_ct (x y : Sl LDecl) (p : LDecl → LDecl → Bool) (hg : ∀ a, a ∈ x.es → ∀ b, Ct Tryz.prog 183 [.agg a.C, .agg b.C] (.bool (p a b))) : Ct Tryz.prog 143 [x.I LDecl.C, y.I LDecl.C] (.bool (all2 p x.es y.es)) := by
  refine ct_of_run fit_laws_eqDeclS (by simp [mf_laws_eqDeclS]) (by simp [go_sem]) fun hd => ?_
  simp -implicitDefEqProofs [-List.map_take, -List.map_drop, go_sem, mf_laws_eqDeclS]
  have hm : x.es.length ≤ maxLen := sl_deep hd.1
  have hne := all2_ne p x.es y.es
  repeat' first
    | ((first | refine gv_split (fun h => ?_) (fun h => ?_) | refine cnd_split (fun h => ?_) (fun h => ?_) | refine cgv_split (fun h => ?_) (fun h => ?_)) <;> (try (have hp := h; simp at hp)) <;> simp -implicitDefEqProofs [-List.map_take, -List.map_drop, go_sem, h])
    | (refine And.intro (by first | omega | (simp only [maxLen]; omega) | (simp_all; done) | (simp_all; omega)) ?_; try simp -implicitDefEqProofs [-List.map_take, -List.map_drop, go_sem])
    | (refine run_dreg' (by decide) ?_; simp -implicitDefEqProofs [-List.map_take, -List.map_drop, go_sem])
    | ((first | refine end_tup _ (by simp) (by simp [go_sem]; rfl) (by simp [go_sem]) ?_); first | (simp [go_sem, *]; done) | grind | (simp [go_sem]; grind) | (simp_all [go_sem]; done) | (simp_all [go_sem]; omega))
  have hlen : x.es.length = y.es.length := by omega
  refine run_iter (x.es.length) (eqDeclS_L x y) (fun i a => all2 p (x.es.drop i) (y.es.drop i) = all2 p x.es y.es) () (gh_auto (by simp [go_sem, eqDeclS_L])) (by first | (simp; done) | (simp []; done) | (simp []; omega) | grind) ?_
  intro i a hi hj
  simp -implicitDefEqProofs [-List.map_take, -List.map_drop, go_sem, eqDeclS_L]
  refine cnd_split (fun hc => ?_) (fun hc => ?_)
  · have hlt : i < x.es.length := by first | (simpa using hc) | (simp at hc; omega)
    rw [List.drop_eq_getElem_cons (l := x.es) (by omega)] at hj
    have hlt_1 : i < y.es.length := by omega
    rw [List.drop_eq_getElem_cons (l := y.es) (by omega)] at hj
    simp only [List.map_cons, all2] at hj
    simp -implicitDefEqProofs [-List.map_take, -List.map_drop, go_sem, hlt, hlt_1]
    have c1 := hg x.es[i] (List.getElem_mem hlt) y.es[i]
    have hy := And.intro (hlt) (hlt_1)
    have hdf := hy0
    have eL := @eqDeclS_L.eq_1
    have hm0 := hm
    have hlt0 := hlt
    exact wk1n
  · have hge : x.es.length ≤ i := by first | (simpa using hc) | (simp at hc; omega)
    rw [List.drop_of_length_le (l := x.es) (by omega)] at hj
    rw [List.drop_of_length_le (l := y.es) (by omega)] at hj
    simp only [List.map_nil, all2] at hj
    try simp -implicitDefEqProofs [-List.map_take, -List.map_drop, go_sem]
    have hy := hy0
    have hdf := hy0
    exact wk0
open Z in
def mf_laws_eqModule : MF := ⟨22, [(.t 4)], q (r [k 2 (.box 61 (t 0)), k 3 (.box 61 (t 1)), k 4 (.mov (b false))]) (q (q (r [k 5 (.fadr 0 (t 2)), k 6 (.load false 1 (t 5)), k 7 (.fadr 0 (t 3)), k 8 (.load false 1 (t 7)), k 9 (.seq true (t 6) (t 8))]) (.cond (t 9) (q (r [k 4 (.mov (b false))]) .ret) .skip)) (q (q (r [k 10 (.fadr 1 (t 2)), k 11 (.load false 1 (t 10)), k 12 (.fadr 1 (t 3)), k 13 (.load false 1 (t 12)), k 14 (c 141 [t 11, t 13]), k 15 (.not (t 14))]) (.cond (t 15) (q (r [k 4 (.mov (b false))]) .ret) .skip)) (q (q (r [k 16 (.fadr 2 (t 2)), k 17 (.load false 1 (t 16)), k 18 (.fadr 2 (t 3)), k 19 (.load false 1 (t 18)), k 20 (c 143 [t 17, t 19]), k 21 (.not (t 20))]) (.cond (t 21) (q (r [k 4 (.mov (b false))]) .ret) .skip)) (q (r [k 4 (.mov (b true))]) .ret))))⟩
theorem fit_laws_eqModule : Fit Tryz.prog 81 Tryz.f81 mf_laws_eqModule := ⟨by kernel_rfl, Tryz.func81, by kernel_rfl, by kernel_rfl, by kernel_rfl, by kernel_rfl⟩
theorem eqModule_ct (x y : LModule) : Ct Tryz.prog 81 [.agg x.C, .agg y.C] (.bool (sameModule x.core y.core)) := by
  have h1 := eqUseS_ct x.uses y.uses (· == ·) (fun a _ b => eqUse_ct a b)
  have h2 := eqDeclS_ct x.decls y.decls (fun a b => sameDecl a.core b.core) (fun a _ b => eqDecl_ct a b)
  refine ct_of_run fit_laws_eqModule (by simp [mf_laws_eqModule]) (by simp [go_sem]) fun hd => ?_
  simp -implicitDefEqProofs [-List.map_take, -List.map_drop, go_sem, mf_laws_eqModule]
  repeat' first
    | ((first | refine gv_split (fun h => ?_) (fun h => ?_) | refine cnd_split (fun h => ?_) (fun h => ?_) | refine cgv_split (fun h => ?_) (fun h => ?_)) <;> (try (have hp := h; simp at hp)) <;> simp -implicitDefEqProofs [-List.map_take, -List.map_drop, go_sem, h])
    | (refine And.intro (by first | omega | (simp only [maxLen]; omega) | (simp_all; done) | (simp_all; omega)) ?_; try simp -implicitDefEqProofs [-List.map_take, -List.map_drop, go_sem])
    | ((first | refine stp_ct (h1) (by simp [go_sem]) ?_ ?_ | refine cstp_ct (h1) (by simp [go_sem]) ?_ ?_ | refine stp_ct (h2) (by simp [go_sem]) ?_ ?_ | refine cstp_ct (h2) (by simp [go_sem]) ?_ ?_); (simp [go_sem]); simp -implicitDefEqProofs [-List.map_take, -List.map_drop, go_sem])
    | (refine run_dreg' (by decide) ?_; simp -implicitDefEqProofs [-List.map_take, -List.map_drop, go_sem])
    | ((first | refine end_tup _ (by simp) (by simp [go_sem]; rfl) (by simp [go_sem]) ?_); first | (simp [go_sem, *, sameModule, all2_map']; done) | grind [sameModule, all2_map'] | (simp [go_sem, sameModule, all2_map']; grind [sameModule, all2_map']) | (simp_all [go_sem, sameModule, all2_map']; done) | (simp_all [go_sem, sameModule, all2_map']; omega))
def eqModuleS_L (x y : Sl LModule) (i : Nat) (_ : Unit) : St := ⟨lk [(0, x.I LModule.C), (1, y.I LModule.C), (5, .int .i64 i)], [], []⟩
open Z in
def mf_laws_eqModuleS : MF := ⟨27, [(.t 4)], q (r [k 4 (.mov (b false))]) (q (q (r [m 6 0, k 7 (.lenl (t 6)), m 8 1, k 9 (.lenl (t 8)), k 10 (.bin .neq (t 7) (t 9))]) (.cond (t 10) (q (r [k 4 (.mov (b false))]) .ret) .skip)) (q (q (r [k 5 (.mov (i 0))]) (.blk 0 (.loop (q (q (r [m 11 5, m 12 0, k 13 (.lenl (t 12)), k 14 (.bin .lss (t 11) (t 13))]) (.cond (t 14) .skip (.exit 0))) (q (.blk 1 (q (.dreg [(m 17 0, []), (m 18 5, []), (k 19 (.iadr 3 (t 17) (t 18)), [0, 1]), (k 20 (.load true 3 (t 19)), [2]), (m 21 1, []), (m 22 5, []), (k 23 (.iadr 3 (t 21) (t 22)), [4, 5]), (k 24 (.load true 3 (t 23)), [6]), (k 25 (c 81 [t 20, t 24]), [3, 7]), (k 26 (.not (t 25)), [8])]) (.cond (t 26) (q (r [k 4 (.mov (b false))]) .ret) .skip))) (r [m 15 5, k 16 (.bin .add (t 15) (i 1)), m 5 16])))))) (q (r [k 4 (.mov (b true))]) .ret)))⟩
theorem fit_laws_eqModuleS : Fit Tryz.prog 36 Tryz.f36 mf_laws_eqModuleS := ⟨by kernel_rfl, Tryz.func36, by kernel_rfl, by kernel_rfl, by kernel_rfl, by kernel_rfl⟩
theorem eqModuleS_ct (x y : Sl LModule) (p : LModule → LModule → Bool) (hg : ∀ a, a ∈ x.es → ∀ b, Ct Tryz.prog 81 [.agg a.C, .agg b.C] (.bool (p a b))) : Ct Tryz.prog 36 [x.I LModule.C, y.I LModule.C] (.bool (all2 p x.es y.es)) := by
  refine ct_of_run fit_laws_eqModuleS (by simp [mf_laws_eqModuleS]) (by simp [go_sem]) fun hd => ?_
  simp -implicitDefEqProofs [-List.map_take, -List.map_drop, go_sem, mf_laws_eqModuleS]
  have hm : x.es.length ≤ maxLen := sl_deep hd.1
  have hne := all2_ne p x.es y.es
  repeat' first
    | ((first | refine gv_split (fun h => ?_) (fun h => ?_) | refine cnd_split (fun h => ?_) (fun h => ?_) | refine cgv_split (fun h => ?_) (fun h => ?_)) <;> (try (have hp := h; simp at hp)) <;> simp -implicitDefEqProofs [-List.map_take, -List.map_drop, go_sem, h])
    | (refine And.intro (by first | omega | (simp only [maxLen]; omega) | (simp_all; done) | (simp_all; omega)) ?_; try simp -implicitDefEqProofs [-List.map_take, -List.map_drop, go_sem])
    | (refine run_dreg' (by decide) ?_; simp -implicitDefEqProofs [-List.map_take, -List.map_drop, go_sem])
    | ((first | refine end_tup _ (by simp) (by simp [go_sem]; rfl) (by simp [go_sem]) ?_); first | (simp [go_sem, *]; done) | grind | (simp [go_sem]; grind) | (simp_all [go_sem]; done) | (simp_all [go_sem]; omega))
  have hlen : x.es.length = y.es.length := by omega
  refine run_iter (x.es.length) (eqModuleS_L x y) (fun i a => all2 p (x.es.drop i) (y.es.drop i) = all2 p x.es y.es) () (gh_auto (by simp [go_sem, eqModuleS_L])) (by first | (simp; done) | (simp []; done) | (simp []; omega) | grind) ?_
  intro i a hi hj
  simp -implicitDefEqProofs [-List.map_take, -List.map_drop, go_sem, eqModuleS_L]
  refine cnd_split (fun hc => ?_) (fun hc => ?_)
  · have hlt : i < x.es.length := by first | (simpa using hc) | (simp at hc; omega)
    rw [List.drop_eq_getElem_cons (l := x.es) (by omega)] at hj
    have hlt_1 : i < y.es.length := by omega
    rw [List.drop_eq_getElem_cons (l := y.es) (by omega)] at hj
    simp only [List.map_cons, all2] at hj
    simp -implicitDefEqProofs [-List.map_take, -List.map_drop, go_sem, hlt, hlt_1]
    have c1 := hg x.es[i] (List.getElem_mem hlt) y.es[i]
    have hy := And.intro (hlt) (hlt_1)
    have hdf := hy0
    have eL := @eqModuleS_L.eq_1
    have hm0 := hm
    have hlt0 := hlt
    exact wk1n
  · have hge : x.es.length ≤ i := by first | (simpa using hc) | (simp at hc; omega)
    rw [List.drop_of_length_le (l := x.es) (by omega)] at hj
    rw [List.drop_of_length_le (l := y.es) (by omega)] at hj
    simp only [List.map_nil, all2] at hj
    try simp -implicitDefEqProofs [-List.map_take, -List.map_drop, go_sem]
    have hy := hy0
    have hdf := hy0
    exact wk0
open Z in
def mf_laws_intactUseS : MF := ⟨26, [(.t 4)], q (r [k 4 (.mov (b false))]) (q (r [m 6 1, k 7 (.lenl (t 6)), m 8 1, k 9 (.lenl (t 8)), k 10 (c 30 [t 9]), k 11 (.bin .add (t 7) (t 10)), m 5 11]) (q (.dreg [(m 12 0, []), (k 13 (.lenl (t 12)), [0]), (m 14 1, []), (k 15 (.lenl (t 14)), [2]), (k 16 (.bin .eql (t 13) (t 15)), [1, 3]), (m 17 16, [4]), (g 18 (.mov (t 0)) 17 true, [5]), (g 19 (.mov (t 5)) 17 true, [5]), (g 20 (.sl 2 (t 18) none (some (t 19)) none) 17 true, [6, 7, 5]), (g 21 (.mov (t 1)) 17 true, [5]), (g 22 (.mov (t 5)) 17 true, [5]), (g 23 (.sl 2 (t 21) none (some (t 22)) none) 17 true, [9, 10, 5]), (g 24 (c 141 [t 20, t 23]) 17 true, [8, 11, 5, 5]), (k 25 (.pick (t 17) (t 24) (b false)), [5, 12]), (m 4 25, [13, 12, 0, 1, 2, 3, 4, 5, 6, 7, 8, 9, 10, 11, 12, 13])]) .ret))⟩
theorem fit_laws_intactUseS : Fit Tryz.prog 79 Tryz.f79 mf_laws_intactUseS := ⟨by kernel_rfl, Tryz.func79, by kernel_rfl, by kernel_rfl, by kernel_rfl, by kernel_rfl⟩
theorem intactUseS_ct (es : List Use) (hl : es.length ≤ 1000000) : Ct Tryz.prog 79 [(toS Use.C fillUse false es).I Use.C, (toS Use.C fillUse false es).I Use.C] (.bool true) := by
  have hY : (toS Use.C fillUse false es).I Use.C = .imm (es.map Use.C) ((List.replicate (room es.length) fillUse).map Use.C) true := by simp [toS, Sl.I]
  rw [hY]
  have hr := room_le es.length
  have hrm := room_ct es.length
  have hw : IntKind.i64.wrap ((es.length : Int) + (room es.length : Int)) = (es.length : Int) + (room es.length : Int) := wrap_small (by omega) (by omega)
  have hwsl := fun (σ : Heap) => slV_full (σ := σ) (k := .i64) (f := Use.C) (l := es) (s := List.replicate (room es.length) fillUse) (lim := true) (m := (es.length : Int) + (room es.length : Int)) (n := 2) (by simp) Use.C_len
  have h1 := eqUseS_ct ⟨es ++ List.replicate (room es.length) fillUse, [], true⟩ ⟨es ++ List.replicate (room es.length) fillUse, [], true⟩ (· == ·) (fun a _ b => eqUse_ct a b)
  rw [all2_refl (fun a => by simp)] at h1
  simp only [List.map_append, List.map_replicate] at hwsl
  simp only [Sl.I, List.map_append, List.map_replicate] at h1
  refine ct_of_run fit_laws_intactUseS (by simp [mf_laws_intactUseS]) (by simp [go_sem]) fun hd => ?_
  simp -implicitDefEqProofs [-List.map_take, -List.map_drop, go_sem, mf_laws_intactUseS]
  have c1 := hrm
  have c2 := h1
  have hy := And.intro (hw) (hwsl)
  have hdf := hy0
  exact wk1
open Z in
def mf_laws_intactBindS : MF := ⟨26, [(.t 4)], q (r [k 4 (.mov (b false))]) (q (r [m 6 1, k 7 (.lenl (t 6)), m 8 1, k 9 (.lenl (t 8)), k 10 (c 30 [t 9]), k 11 (.bin .add (t 7) (t 10)), m 5 11]) (q (.dreg [(m 12 0, []), (k 13 (.lenl (t 12)), [0]), (m 14 1, []), (k 15 (.lenl (t 14)), [2]), (k 16 (.bin .eql (t 13) (t 15)), [1, 3]), (m 17 16, [4]), (g 18 (.mov (t 0)) 17 true, [5]), (g 19 (.mov (t 5)) 17 true, [5]), (g 20 (.sl 2 (t 18) none (some (t 19)) none) 17 true, [6, 7, 5]), (g 21 (.mov (t 1)) 17 true, [5]), (g 22 (.mov (t 5)) 17 true, [5]), (g 23 (.sl 2 (t 21) none (some (t 22)) none) 17 true, [9, 10, 5]), (g 24 (c 208 [t 20, t 23]) 17 true, [8, 11, 5, 5]), (k 25 (.pick (t 17) (t 24) (b false)), [5, 12]), (m 4 25, [13, 12, 0, 1, 2, 3, 4, 5, 6, 7, 8, 9, 10, 11, 12, 13])]) .ret))⟩
theorem fit_laws_intactBindS : Fit Tryz.prog 182 Tryz.f182 mf_laws_intactBindS := ⟨by kernel_rfl, Tryz.func182, by kernel_rfl, by kernel_rfl, by kernel_rfl, by kernel_rfl⟩
theorem intactBindS_ct (es : List Bind) (hl : es.length ≤ 1000000) : Ct Tryz.prog 182 [(toS Bind.C fillBind false es).I Bind.C, (toS Bind.C fillBind false es).I Bind.C] (.bool true) := by
  have hY : (toS Bind.C fillBind false es).I Bind.C = .imm (es.map Bind.C) ((List.replicate (room es.length) fillBind).map Bind.C) true := by simp [toS, Sl.I]
  rw [hY]
  have hr := room_le es.length
  have hrm := room_ct es.length
  have hw : IntKind.i64.wrap ((es.length : Int) + (room es.length : Int)) = (es.length : Int) + (room es.length : Int) := wrap_small (by omega) (by omega)
  have hwsl := fun (σ : Heap) => slV_full (σ := σ) (k := .i64) (f := Bind.C) (l := es) (s := List.replicate (room es.length) fillBind) (lim := true) (m := (es.length : Int) + (room es.length : Int)) (n := 2) (by simp) Bind.C_len
  have h1 := eqBindS_ct ⟨es ++ List.replicate (room es.length) fillBind, [], true⟩ ⟨es ++ List.replicate (room es.length) fillBind, [], true⟩ (· == ·) (fun a _ b => eqBind_ct a b)
  rw [all2_refl (fun a => by simp)] at h1
  simp only [List.map_append, List.map_replicate] at hwsl
  simp only [Sl.I, List.map_append, List.map_replicate] at h1
  refine ct_of_run fit_laws_intactBindS (by simp [mf_laws_intactBindS]) (by simp [go_sem]) fun hd => ?_
  simp -implicitDefEqProofs [-List.map_take, -List.map_drop, go_sem, mf_laws_intactBindS]
  have c1 := hrm
  have c2 := h1
  have hy := And.intro (hw) (hwsl)
  have hdf := hy0
  exact wk1

def intactExprS_L (Y : PV) (n : Int) (i : Nat) (_ : Unit) : St := ⟨lk [(0, Y), (1, Y), (5, .int .i64 n), (6, .int .i64 i)], [], []⟩
open Z in
def mf_laws_intactExprS : MF := ⟨45, [(.t 4)], q (r [k 4 (.mov (b false))]) (q (r [m 7 1, k 8 (.lenl (t 7)), m 9 1, k 10 (.lenl (t 9)), k 11 (c 30 [t 10]), k 12 (.bin .add (t 8) (t 11)), m 5 12]) (q (q (r [m 13 0, k 14 (.lenl (t 13)), m 15 1, k 16 (.lenl (t 15)), k 17 (.bin .neq (t 14) (t 16))]) (.cond (t 17) (q (r [k 4 (.mov (b false))]) .ret) .skip)) (q (q (r [k 6 (.mov (i 0))]) (.blk 0 (.loop (q (q (r [m 18 6, m 19 1, k 20 (.lenl (t 19)), k 21 (.bin .lss (t 18) (t 20))]) (.cond (t 21) .skip (.exit 0))) (q (.blk 1 (q (.dreg [(m 24 0, []), (m 25 6, []), (k 26 (.iadr 4 (t 24) (t 25)), [0, 1]), (k 27 (.load true 4 (t 26)), [2]), (m 28 1, []), (m 29 6, []), (k 30 (.iadr 4 (t 28) (t 29)), [4, 5]), (k 31 (.load true 4 (t 30)), [6]), (k 32 (c 24 [t 27, t 31]), [3, 7]), (k 33 (.not (t 32)), [8])]) (.cond (t 33) (q (r [k 4 (.mov (b false))]) .ret) .skip))) (r [m 22 6, k 23 (.bin .add (t 22) (i 1)), m 6 23])))))) (q (.dreg [(m 34 0, []), (m 35 1, []), (k 36 (.lenl (t 35)), [1]), (m 37 5, []), (k 38 (.sl 4 (t 34) (some (t 36)) (some (t 37)) none), [0, 2, 3]), (m 39 1, []), (m 40 1, []), (k 41 (.lenl (t 40)), [6]), (m 42 5, []), (k 43 (.sl 4 (t 39) (some (t 41)) (some (t 42)) none), [5, 7, 8]), (k 44 (c 113 [t 38, t 43]), [4, 9]), (m 4 44, [10, 10, 0, 1, 2, 3, 4, 5, 6, 7, 8, 9, 10])]) .ret))))⟩
theorem fit_laws_intactExprS : Fit Tryz.prog 56 Tryz.f56 mf_laws_intactExprS := ⟨by kernel_rfl, Tryz.func56, by kernel_rfl, by kernel_rfl, by kernel_rfl, by kernel_rfl⟩
theorem intactExprS_ct (es : List LExpr) (hl : es.length ≤ 1000000) (hg : ∀ a, a ∈ es → Ct Tryz.prog 24 [.agg a.C, .agg a.C] (.bool true)) (q : LExpr → LExpr → Bool) (hq : ∀ a, q a a = true) (hqc : ∀ a b, Ct Tryz.prog 168 [.agg a.C, .agg b.C] (.bool (q a b))) :
    Ct Tryz.prog 56 [(toS LExpr.C fillExpr false es).I LExpr.C, (toS LExpr.C fillExpr false es).I LExpr.C] (.bool true) := by
  have hY : (toS LExpr.C fillExpr false es).I LExpr.C = .imm (es.map LExpr.C) ((List.replicate (room es.length) fillExpr).map LExpr.C) true := by simp [toS, Sl.I]
  rw [hY]
  have hr := room_le es.length
  have hrm := room_ct es.length
  have hm : es.length ≤ maxLen := Nat.le_trans hl (by decide)
  have hw : IntKind.i64.wrap ((es.length : Int) + (room es.length : Int)) = (es.length : Int) + (room es.length : Int) := wrap_small (by omega) (by omega)
  have hwsl := fun (σ : Heap) => slV_behind (σ := σ) (k := .i64) (f := LExpr.C) (l := es) (s := List.replicate (room es.length) fillExpr) (lim := true) (m := (es.length : Int) + (room es.length : Int)) (n := 4) (by simp) LExpr.C_len
  have h1 := eqExprS_ct ⟨List.replicate (room es.length) fillExpr, [], true⟩ ⟨List.replicate (room es.length) fillExpr, [], true⟩ q (fun a _ b => hqc a b)
  rw [all2_refl hq] at h1
  simp only [List.map_replicate] at hwsl
  simp only [Sl.I, List.map_replicate] at h1
  refine ct_of_run fit_laws_intactExprS (by simp [mf_laws_intactExprS]) (by simp [go_sem]) fun hd => ?_
  simp -implicitDefEqProofs [-List.map_take, -List.map_drop, go_sem, mf_laws_intactExprS]
  repeat' first
    | ((first | refine gv_split (fun h => ?_) (fun h => ?_) | refine cnd_split (fun h => ?_) (fun h => ?_) | refine cgv_split (fun h => ?_) (fun h => ?_)) <;> (try (have hp := h; simp at hp)) <;> simp -implicitDefEqProofs [-List.map_take, -List.map_drop, go_sem, h, hw])
    | (refine And.intro (by first | omega | (simp only [maxLen]; omega) | (simp_all; done) | (simp_all; omega)) ?_; try simp -implicitDefEqProofs [-List.map_take, -List.map_drop, go_sem, hw])
    | ((first | refine stp_ct (hrm) (by simp [go_sem, hw]) ?_ ?_ | refine cstp_ct (hrm) (by simp [go_sem, hw]) ?_ ?_); (simp [go_sem]); simp -implicitDefEqProofs [-List.map_take, -List.map_drop, go_sem, hw])
    | (refine run_dreg' (by decide) ?_; simp -implicitDefEqProofs [-List.map_take, -List.map_drop, go_sem, hw])
    | ((first | refine end_tup _ (by simp) (by simp [go_sem]; rfl) (by simp [go_sem]) ?_); first | (simp [go_sem, *]; done) | grind | (simp [go_sem]; grind) | (simp_all [go_sem]; done) | (simp_all [go_sem]; omega))
  refine run_iter (es.length) (intactExprS_L (.imm (es.map LExpr.C) ((List.replicate (room es.length) fillExpr).map LExpr.C) true) ((es.length : Int) + (room es.length : Int))) (fun i a => True) () (gh_auto (by simp [go_sem, intactExprS_L, hw])) (by first | (simp; done) | (simp []; done) | (simp []; omega) | grind) ?_
  intro i a hi hj
  simp -implicitDefEqProofs [-List.map_take, -List.map_drop, go_sem, intactExprS_L, hw]
  refine cnd_split (fun hc => ?_) (fun hc => ?_)
  · have hlt : i < es.length := by first | (simpa using hc) | (simp at hc; omega)
    simp -implicitDefEqProofs [-List.map_take, -List.map_drop, go_sem, hlt, hw]
    have hgi := hg es[i] (List.getElem_mem hlt)
    have c1 := hgi
    have hy := hlt
    have hdf := hy0
    have eL := @intactExprS_L.eq_1
    have hm0 := hm
    have hlt0 := hlt
    exact wk1n
  · have hge : es.length ≤ i := by first | (simpa using hc) | (simp at hc; omega)
    try simp -implicitDefEqProofs [-List.map_take, -List.map_drop, go_sem, hw]
    have c1 := h1
    have hy := hwsl
    have hdf := hy0
    exact wk1
theorem toE_kidsI (e : LExpr) : PV.imm ((toE false e).kids.map LExpr.C) (toE false e).sp (toE false e).lim = (toS LExpr.C fillExpr false (e.kids.map (toE false))).I LExpr.C := by
  cases e with
  | mk k n t ks sp lim => simp only [toE, LExpr.kids, LExpr.sp, LExpr.lim, Sl.I, toS_es, toEs_map]
open Z in
def mf_laws_intactExpr : MF := ⟨26, [(.t 4)], q (r [k 2 (.box 48 (t 0)), k 3 (.box 48 (t 1)), k 4 (.mov (b false))]) (q (q (r [k 5 (.fadr 0 (t 2)), k 6 (.load false 1 (t 5)), k 7 (.fadr 0 (t 3)), k 8 (.load false 1 (t 7)), k 9 (.bin .neq (t 6) (t 8))]) (.cond (t 9) (q (r [k 4 (.mov (b false))]) .ret) .skip)) (q (q (r [k 10 (.fadr 1 (t 2)), k 11 (.load false 1 (t 10)), k 12 (.fadr 1 (t 3)), k 13 (.load false 1 (t 12)), k 14 (.bin .neq (t 11) (t 13))]) (.cond (t 14) (q (r [k 4 (.mov (b false))]) .ret) .skip)) (q (q (r [k 15 (.fadr 2 (t 2)), k 16 (.load false 1 (t 15)), k 17 (.fadr 2 (t 3)), k 18 (.load false 1 (t 17)), k 19 (.seq true (t 16) (t 18))]) (.cond (t 19) (q (r [k 4 (.mov (b false))]) .ret) .skip)) (q (q (r [k 20 (.fadr 3 (t 2)), k 21 (.load false 1 (t 20)), k 22 (.fadr 3 (t 3)), k 23 (.load false 1 (t 22)), k 24 (c 56 [t 21, t 23]), k 25 (.not (t 24))]) (.cond (t 25) (q (r [k 4 (.mov (b false))]) .ret) .skip)) (q (r [k 4 (.mov (b true))]) .ret)))))⟩
theorem fit_laws_intactExpr : Fit Tryz.prog 24 Tryz.f24 mf_laws_intactExpr := ⟨by kernel_rfl, Tryz.func24, by kernel_rfl, by kernel_rfl, by kernel_rfl, by kernel_rfl⟩
theorem intactExpr_ct (e : LExpr) (hs : e.core.Sm) : Ct Tryz.prog 24 [.agg (toE false e).C, .agg (toE false e).C] (.bool true) := by
  have hl : (e.kids.map (toE false)).length ≤ 1000000 := by have := hs; rw [Expr.Sm_eq] at this; simpa using this.2.1
  have h1 := intactExprS_ct (e.kids.map (toE false)) hl (fun a ha => by
    obtain ⟨x, hx, rfl⟩ := List.mem_map.1 ha
    exact intactExpr_ct x (by obtain ⟨i, hi, rfl⟩ := List.getElem_of_mem hx; exact Expr.Sm_kid hs hi)) (fun a b => Expr.same a.core b.core) (fun a => same_refl _) eqExpr_ct
  rw [← toE_kidsI] at h1
  refine ct_of_run fit_laws_intactExpr (by simp [mf_laws_intactExpr]) (by simp [go_sem]) fun hd => ?_
  simp -implicitDefEqProofs [-List.map_take, -List.map_drop, go_sem, mf_laws_intactExpr]
  have c1 := h1
  have hy := hy0
  have hdf := hy0
  exact wk1
termination_by SizeOf.sizeOf e
decreasing_by exact LExpr.kid_lt hx
open Z in
def mf_laws_intactDecl : MF := ⟨32, [(.t 4)], q (r [k 2 (.box 72 (t 0)), k 3 (.box 72 (t 1)), k 4 (.mov (b false))]) (q (q (r [k 5 (.fadr 0 (t 2)), k 6 (.load false 1 (t 5)), k 7 (.fadr 0 (t 3)), k 8 (.load false 1 (t 7)), k 9 (.bin .neq (t 6) (t 8))]) (.cond (t 9) (q (r [k 4 (.mov (b false))]) .ret) .skip)) (q (q (r [k 10 (.fadr 1 (t 2)), k 11 (.load false 1 (t 10)), k 12 (.fadr 1 (t 3)), k 13 (.load false 1 (t 12)), k 14 (.seq true (t 11) (t 13))]) (.cond (t 14) (q (r [k 4 (.mov (b false))]) .ret) .skip)) (q (q (r [k 15 (.fadr 2 (t 2)), k 16 (.load false 1 (t 15)), k 17 (.fadr 2 (t 3)), k 18 (.load false 1 (t 17)), k 19 (c 182 [t 16, t 18]), k 20 (.not (t 19))]) (.cond (t 20) (q (r [k 4 (.mov (b false))]) .ret) .skip)) (q (q (r [k 21 (.fadr 3 (t 2)), k 22 (.load false 1 (t 21)), k 23 (.fadr 3 (t 3)), k 24 (.load false 1 (t 23)), k 25 (.seq true (t 22) (t 24))]) (.cond (t 25) (q (r [k 4 (.mov (b false))]) .ret) .skip)) (q (q (r [k 26 (.fadr 4 (t 2)), k 27 (.load true 4 (t 26)), k 28 (.fadr 4 (t 3)), k 29 (.load true 4 (t 28)), k 30 (c 24 [t 27, t 29]), k 31 (.not (t 30))]) (.cond (t 31) (q (r [k 4 (.mov (b false))]) .ret) .skip)) (q (r [k 4 (.mov (b true))]) .ret))))))⟩
theorem fit_laws_intactDecl : Fit Tryz.prog 142 Tryz.f142 mf_laws_intactDecl := ⟨by kernel_rfl, Tryz.func142, by kernel_rfl, by kernel_rfl, by kernel_rfl, by kernel_rfl⟩
theorem intactDecl_ct (d : LDecl) (hs : d.core.Sm) : Ct Tryz.prog 142 [.agg (toD false d).C, .agg (toD false d).C] (.bool true) := by
  have h1 := intactBindS_ct d.binds.es hs.2.1
  have h2 := intactExpr_ct d.body hs.2.2.2
  have hb : (toD false d).binds = toS Bind.C fillBind false d.binds.es := rfl
  have hbo : (toD false d).body = toE false d.body := rfl
  rw [← hb] at h1
  rw [← hbo] at h2
  refine ct_of_run fit_laws_intactDecl (by simp [mf_laws_intactDecl]) (by simp [go_sem]) fun hd => ?_
  simp -implicitDefEqProofs [-List.map_take, -List.map_drop, go_sem, mf_laws_intactDecl]
  have c1 := h1
  have c2 := h2
  have hy := hy0
  have hdf := hy0
  exact wk1
def intactDeclS_L (Y : PV) (n : Int) (i : Nat) (_ : Unit) : St := ⟨lk [(0, Y), (1, Y), (5, .int .i64 n), (6, .int .i64 i)], [], []⟩
open Z in
def mf_laws_intactDeclS : MF := ⟨45, [(.t 4)], q (r [k 4 (.mov (b false))]) (q (r [m 7 1, k 8 (.lenl (t 7)), m 9 1, k 10 (.lenl (t 9)), k 11 (c 30 [t 10]), k 12 (.bin .add (t 8) (t 11)), m 5 12]) (q (q (r [m 13 0, k 14 (.lenl (t 13)), m 15 1, k 16 (.lenl (t 15)), k 17 (.bin .neq (t 14) (t 16))]) (.cond (t 17) (q (r [k 4 (.mov (b false))]) .ret) .skip)) (q (q (r [k 6 (.mov (i 0))]) (.blk 0 (.loop (q (q (r [m 18 6, m 19 1, k 20 (.lenl (t 19)), k 21 (.bin .lss (t 18) (t 20))]) (.cond (t 21) .skip (.exit 0))) (q (.blk 1 (q (.dreg [(m 24 0, []), (m 25 6, []), (k 26 (.iadr 8 (t 24) (t 25)), [0, 1]), (k 27 (.load true 8 (t 26)), [2]), (m 28 1, []), (m 29 6, []), (k 30 (.iadr 8 (t 28) (t 29)), [4, 5]), (k 31 (.load true 8 (t 30)), [6]), (k 32 (c 142 [t 27, t 31]), [3, 7]), (k 33 (.not (t 32)), [8])]) (.cond (t 33) (q (r [k 4 (.mov (b false))]) .ret) .skip))) (r [m 22 6, k 23 (.bin .add (t 22) (i 1)), m 6 23])))))) (q (.dreg [(m 34 0, []), (m 35 1, []), (k 36 (.lenl (t 35)), [1]), (m 37 5, []), (k 38 (.sl 8 (t 34) (some (t 36)) (some (t 37)) none), [0, 2, 3]), (m 39 1, []), (m 40 1, []), (k 41 (.lenl (t 40)), [6]), (m 42 5, []), (k 43 (.sl 8 (t 39) (some (t 41)) (some (t 42)) none), [5, 7, 8]), (k 44 (c 143 [t 38, t 43]), [4, 9]), (m 4 44, [10, 10, 0, 1, 2, 3, 4, 5, 6, 7, 8, 9, 10])]) .ret))))⟩
theorem fit_laws_intactDeclS : Fit Tryz.prog 80 Tryz.f80 mf_laws_intactDeclS := ⟨by kernel_rfl, Tryz.func80, by kernel_rfl, by kernel_rfl, by kernel_rfl, by kernel_rfl⟩
theorem intactDeclS_ct (es : List LDecl) (hl : es.length ≤ 1000000) (hg : ∀ a, a ∈ es → Ct Tryz.prog 142 [.agg a.C, .agg a.C] (.bool true)) (q : LDecl → LDecl → Bool) (hq : ∀ a, q a a = true) (hqc : ∀ a b, Ct Tryz.prog 183 [.agg a.C, .agg b.C] (.bool (q a b))) :
    Ct Tryz.prog 80 [(toS LDecl.C fillDecl false es).I LDecl.C, (toS LDecl.C fillDecl false es).I LDecl.C] (.bool true) := by
  have hY : (toS LDecl.C fillDecl false es).I LDecl.C = .imm (es.map LDecl.C) ((List.replicate (room es.length) fillDecl).map LDecl.C) true := by simp [toS, Sl.I]
  rw [hY]
  have hr := room_le es.length
  have hrm := room_ct es.length
  have hm : es.length ≤ maxLen := Nat.le_trans hl (by decide)
  have hw : IntKind.i64.wrap ((es.length : Int) + (room es.length : Int)) = (es.length : Int) + (room es.length : Int) := wrap_small (by omega) (by omega)
  have hwsl := fun (σ : Heap) => slV_behind (σ := σ) (k := .i64) (f := LDecl.C) (l := es) (s := List.replicate (room es.length) fillDecl) (lim := true) (m := (es.length : Int) + (room es.length : Int)) (n := 8) (by simp) LDecl.C_len
  have h1 := eqDeclS_ct ⟨List.replicate (room es.length) fillDecl, [], true⟩ ⟨List.replicate (room es.length) fillDecl, [], true⟩ q (fun a _ b => hqc a b)
  rw [all2_refl hq] at h1
  simp only [List.map_replicate] at hwsl
  simp only [Sl.I, List.map_replicate] at h1
  refine ct_of_run fit_laws_intactDeclS (by simp [mf_laws_intactDeclS]) (by simp [go_sem]) fun hd => ?_
  simp -implicitDefEqProofs [-List.map_take, -List.map_drop, go_sem, mf_laws_intactDeclS]
  repeat' first
    | ((first | refine gv_split (fun h => ?_) (fun h => ?_) | refine cnd_split (fun h => ?_) (fun h => ?_) | refine cgv_split (fun h => ?_) (fun h => ?_)) <;> (try (have hp := h; simp at hp)) <;> simp -implicitDefEqProofs [-List.map_take, -List.map_drop, go_sem, h, hw])
    | (refine And.intro (by first | omega | (simp only [maxLen]; omega) | (simp_all; done) | (simp_all; omega)) ?_; try simp -implicitDefEqProofs [-List.map_take, -List.map_drop, go_sem, hw])
    | ((first | refine stp_ct (hrm) (by simp [go_sem, hw]) ?_ ?_ | refine cstp_ct (hrm) (by simp [go_sem, hw]) ?_ ?_); (simp [go_sem]); simp -implicitDefEqProofs [-List.map_take, -List.map_drop, go_sem, hw])
    | (refine run_dreg' (by decide) ?_; simp -implicitDefEqProofs [-List.map_take, -List.map_drop, go_sem, hw])
    | ((first | refine end_tup _ (by simp) (by simp [go_sem]; rfl) (by simp [go_sem]) ?_); first | (simp [go_sem, *]; done) | grind | (simp [go_sem]; grind) | (simp_all [go_sem]; done) | (simp_all [go_sem]; omega))
  refine run_iter (es.length) (intactDeclS_L (.imm (es.map LDecl.C) ((List.replicate (room es.length) fillDecl).map LDecl.C) true) ((es.length : Int) + (room es.length : Int))) (fun i a => True) () (gh_auto (by simp [go_sem, intactDeclS_L, hw])) (by first | (simp; done) | (simp []; done) | (simp []; omega) | grind) ?_
  intro i a hi hj
  simp -implicitDefEqProofs [-List.map_take, -List.map_drop, go_sem, intactDeclS_L, hw]
  refine cnd_split (fun hc => ?_) (fun hc => ?_)
  · have hlt : i < es.length := by first | (simpa using hc) | (simp at hc; omega)
    simp -implicitDefEqProofs [-List.map_take, -List.map_drop, go_sem, hlt, hw]
    have hgi := hg es[i] (List.getElem_mem hlt)
    have c1 := hgi
    have hy := hlt
    have hdf := hy0
    have eL := @intactDeclS_L.eq_1
    have hm0 := hm
    have hlt0 := hlt
    exact wk1n
  · have hge : es.length ≤ i := by first | (simpa using hc) | (simp at hc; omega)
    try simp -implicitDefEqProofs [-List.map_take, -List.map_drop, go_sem, hw]
    have c1 := h1
    have hy := hwsl
    have hdf := hy0
    exact wk1
open Z in
def mf_laws_intactModule : MF := ⟨22, [(.t 4)], q (r [k 2 (.box 61 (t 0)), k 3 (.box 61 (t 1)), k 4 (.mov (b false))]) (q (q (r [k 5 (.fadr 0 (t 2)), k 6 (.load false 1 (t 5)), k 7 (.fadr 0 (t 3)), k 8 (.load false 1 (t 7)), k 9 (.seq true (t 6) (t 8))]) (.cond (t 9) (q (r [k 4 (.mov (b false))]) .ret) .skip)) (q (q (r [k 10 (.fadr 1 (t 2)), k 11 (.load false 1 (t 10)), k 12 (.fadr 1 (t 3)), k 13 (.load false 1 (t 12)), k 14 (c 79 [t 11, t 13]), k 15 (.not (t 14))]) (.cond (t 15) (q (r [k 4 (.mov (b false))]) .ret) .skip)) (q (q (r [k 16 (.fadr 2 (t 2)), k 17 (.load false 1 (t 16)), k 18 (.fadr 2 (t 3)), k 19 (.load false 1 (t 18)), k 20 (c 80 [t 17, t 19]), k 21 (.not (t 20))]) (.cond (t 21) (q (r [k 4 (.mov (b false))]) .ret) .skip)) (q (r [k 4 (.mov (b true))]) .ret))))⟩
theorem fit_laws_intactModule : Fit Tryz.prog 35 Tryz.f35 mf_laws_intactModule := ⟨by kernel_rfl, Tryz.func35, by kernel_rfl, by kernel_rfl, by kernel_rfl, by kernel_rfl⟩
theorem intactModule_ct (m : LModule) (hs : m.core.Sm) : Ct Tryz.prog 35 [.agg (toM false m).C, .agg (toM false m).C] (.bool true) := by
  have h1 := intactUseS_ct m.uses.es hs.2.1
  have h2 := intactDeclS_ct (m.decls.es.map (toD false)) (by simpa using hs.2.2.2.1) (fun a ha => by
    obtain ⟨x, hx, rfl⟩ := List.mem_map.1 ha
    exact intactDecl_ct x (Decl.Sm_of hs hx)) (fun a b => sameDecl a.core b.core) (fun a => sameDecl_refl _) eqDecl_ct
  have hu : (toM false m).uses = toS Use.C fillUse false m.uses.es := rfl
  have hd2 : (toM false m).decls = toS LDecl.C fillDecl false (m.decls.es.map (toD false)) := rfl
  rw [← hu] at h1
  rw [← hd2] at h2
  refine ct_of_run fit_laws_intactModule (by simp [mf_laws_intactModule]) (by simp [go_sem]) fun hd => ?_
  simp -implicitDefEqProofs [-List.map_take, -List.map_drop, go_sem, mf_laws_intactModule]
  have c1 := h1
  have c2 := h2
  have hy := hy0
  have hdf := hy0
  exact wk1
def intactModuleS_L (Y : PV) (n : Int) (i : Nat) (_ : Unit) : St := ⟨lk [(0, Y), (1, Y), (5, .int .i64 n), (6, .int .i64 i)], [], []⟩
open Z in
def mf_laws_intactModuleS : MF := ⟨45, [(.t 4)], q (r [k 4 (.mov (b false))]) (q (r [m 7 1, k 8 (.lenl (t 7)), m 9 1, k 10 (.lenl (t 9)), k 11 (c 30 [t 10]), k 12 (.bin .add (t 8) (t 11)), m 5 12]) (q (q (r [m 13 0, k 14 (.lenl (t 13)), m 15 1, k 16 (.lenl (t 15)), k 17 (.bin .neq (t 14) (t 16))]) (.cond (t 17) (q (r [k 4 (.mov (b false))]) .ret) .skip)) (q (q (r [k 6 (.mov (i 0))]) (.blk 0 (.loop (q (q (r [m 18 6, m 19 1, k 20 (.lenl (t 19)), k 21 (.bin .lss (t 18) (t 20))]) (.cond (t 21) .skip (.exit 0))) (q (.blk 1 (q (.dreg [(m 24 0, []), (m 25 6, []), (k 26 (.iadr 3 (t 24) (t 25)), [0, 1]), (k 27 (.load true 3 (t 26)), [2]), (m 28 1, []), (m 29 6, []), (k 30 (.iadr 3 (t 28) (t 29)), [4, 5]), (k 31 (.load true 3 (t 30)), [6]), (k 32 (c 35 [t 27, t 31]), [3, 7]), (k 33 (.not (t 32)), [8])]) (.cond (t 33) (q (r [k 4 (.mov (b false))]) .ret) .skip))) (r [m 22 6, k 23 (.bin .add (t 22) (i 1)), m 6 23])))))) (q (.dreg [(m 34 0, []), (m 35 1, []), (k 36 (.lenl (t 35)), [1]), (m 37 5, []), (k 38 (.sl 3 (t 34) (some (t 36)) (some (t 37)) none), [0, 2, 3]), (m 39 1, []), (m 40 1, []), (k 41 (.lenl (t 40)), [6]), (m 42 5, []), (k 43 (.sl 3 (t 39) (some (t 41)) (some (t 42)) none), [5, 7, 8]), (k 44 (c 36 [t 38, t 43]), [4, 9]), (m 4 44, [10, 10, 0, 1, 2, 3, 4, 5, 6, 7, 8, 9, 10])]) .ret))))⟩
theorem fit_laws_intactModuleS : Fit Tryz.prog 12 Tryz.f12 mf_laws_intactModuleS := ⟨by kernel_rfl, Tryz.func12, by kernel_rfl, by kernel_rfl, by kernel_rfl, by kernel_rfl⟩
theorem intactModuleS_ct (es : List LModule) (hl : es.length ≤ 1000000) (hg : ∀ a, a ∈ es → Ct Tryz.prog 35 [.agg a.C, .agg a.C] (.bool true)) (q : LModule → LModule → Bool) (hq : ∀ a, q a a = true) (hqc : ∀ a b, Ct Tryz.prog 81 [.agg a.C, .agg b.C] (.bool (q a b))) :
    Ct Tryz.prog 12 [(toS LModule.C fillModule false es).I LModule.C, (toS LModule.C fillModule false es).I LModule.C] (.bool true) := by
  have hY : (toS LModule.C fillModule false es).I LModule.C = .imm (es.map LModule.C) ((List.replicate (room es.length) fillModule).map LModule.C) true := by simp [toS, Sl.I]
  rw [hY]
  have hr := room_le es.length
  have hrm := room_ct es.length
  have hm : es.length ≤ maxLen := Nat.le_trans hl (by decide)
  have hw : IntKind.i64.wrap ((es.length : Int) + (room es.length : Int)) = (es.length : Int) + (room es.length : Int) := wrap_small (by omega) (by omega)
  have hwsl := fun (σ : Heap) => slV_behind (σ := σ) (k := .i64) (f := LModule.C) (l := es) (s := List.replicate (room es.length) fillModule) (lim := true) (m := (es.length : Int) + (room es.length : Int)) (n := 3) (by simp) LModule.C_len
  have h1 := eqModuleS_ct ⟨List.replicate (room es.length) fillModule, [], true⟩ ⟨List.replicate (room es.length) fillModule, [], true⟩ q (fun a _ b => hqc a b)
  rw [all2_refl hq] at h1
  simp only [List.map_replicate] at hwsl
  simp only [Sl.I, List.map_replicate] at h1
  refine ct_of_run fit_laws_intactModuleS (by simp [mf_laws_intactModuleS]) (by simp [go_sem]) fun hd => ?_
  simp -implicitDefEqProofs [-List.map_take, -List.map_drop, go_sem, mf_laws_intactModuleS]
  repeat' first
    | ((first | refine gv_split (fun h => ?_) (fun h => ?_) | refine cnd_split (fun h => ?_) (fun h => ?_) | refine cgv_split (fun h => ?_) (fun h => ?_)) <;> (try (have hp := h; simp at hp)) <;> simp -implicitDefEqProofs [-List.map_take, -List.map_drop, go_sem, h, hw])
    | (refine And.intro (by first | omega | (simp only [maxLen]; omega) | (simp_all; done) | (simp_all; omega)) ?_; try simp -implicitDefEqProofs [-List.map_take, -List.map_drop, go_sem, hw])
    | ((first | refine stp_ct (hrm) (by simp [go_sem, hw]) ?_ ?_ | refine cstp_ct (hrm) (by simp [go_sem, hw]) ?_ ?_); (simp [go_sem]); simp -implicitDefEqProofs [-List.map_take, -List.map_drop, go_sem, hw])
    | (refine run_dreg' (by decide) ?_; simp -implicitDefEqProofs [-List.map_take, -List.map_drop, go_sem, hw])
    | ((first | refine end_tup _ (by simp) (by simp [go_sem]; rfl) (by simp [go_sem]) ?_); first | (simp [go_sem, *]; done) | grind | (simp [go_sem]; grind) | (simp_all [go_sem]; done) | (simp_all [go_sem]; omega))
  refine run_iter (es.length) (intactModuleS_L (.imm (es.map LModule.C) ((List.replicate (room es.length) fillModule).map LModule.C) true) ((es.length : Int) + (room es.length : Int))) (fun i a => True) () (gh_auto (by simp [go_sem, intactModuleS_L, hw])) (by first | (simp; done) | (simp []; done) | (simp []; omega) | grind) ?_
  intro i a hi hj
  simp -implicitDefEqProofs [-List.map_take, -List.map_drop, go_sem, intactModuleS_L, hw]
  refine cnd_split (fun hc => ?_) (fun hc => ?_)
  · have hlt : i < es.length := by first | (simpa using hc) | (simp at hc; omega)
    simp -implicitDefEqProofs [-List.map_take, -List.map_drop, go_sem, hlt, hw]
    have hgi := hg es[i] (List.getElem_mem hlt)
    have c1 := hgi
    have hy := hlt
    have hdf := hy0
    have eL := @intactModuleS_L.eq_1
    have hm0 := hm
    have hlt0 := hlt
    exact wk1n
  · have hge : es.length ≤ i := by first | (simpa using hc) | (simp at hc; omega)
    try simp -implicitDefEqProofs [-List.map_take, -List.map_drop, go_sem, hw]
    have c1 := h1
    have hy := hwsl
    have hdf := hy0
    exact wk1
theorem intactP_ct (p : Sl LModule) (hs : SmP (p.es.map LModule.core)) : Ct Tryz.prog 12 [(toP false p.es).I LModule.C, (toP false p.es).I LModule.C] (.bool true) :=
  intactModuleS_ct (p.es.map (toM false)) (by simpa using hs.1) (fun a ha => by
    obtain ⟨x, hx, rfl⟩ := List.mem_map.1 ha
    exact intactModule_ct x (hs.2 _ (List.mem_map_of_mem hx))) (fun a b => sameModule a.core b.core) (fun a => sameModule_refl _) eqModule_ct
end Go.Mach
