import Derived.Test.YtgkpfkfomonmgaaGreatWk
/- The laws' arguments, laid anew: walked. -/
set_option maxHeartbeats 4000000
namespace Go.Mach
open Go Go.Proofs
set_option linter.unusedVariables false
set_option linter.unusedSimpArgs false
attribute [local go_sem] run_seq run_skip run_reg run_blk run_exit run_ret run_cond cnd_true cnd_false kx_seq_normal kx_seq_exit kx_seq_ret kx_blk_normal kx_blk_same kx_blk_other kx_blk_ret kx_loop_exit kx_loop_ret kx_done ops_nil ops_plain ops_grd gv_tt gv_ff gv_tf gv_ft gv_tup stp_ok stp_ob stp_hp stp_bad stp_if get_t get_c putO_some putO_none put_same put_ne put_σ put_base withσ_τ withσ_σ withσ_base withσ_put withσ_withσ mk_τ mk_σ mk_base mk_withσ entry_τ entry_σ entry_base calm_nil calm_plain calm_grd cgv_tt cgv_ff cgv_tf cgv_ft cgv_tup cstp_ok cstp_ob cstp_if
attribute [local irreducible] Ct Co Cs
attribute [local go_sem] evalOp notV negV pickV binV intB seqV beqV catV lensV lenlV boxV_eq newV cellsOf cellV fadrV fldV fldC loadV loadC_ag loadC_one plainV isOwn iadrV storeV lk bdV bdL renO renL renV pureV pureL noOwnV noOwnL idxV slsV optI extV resL resV ret1 mmV cnviV cnvsV nilcV eqnV bslV bslGo appV elems okE appE getD_map okO_none okO_some strC intC Sl.I
attribute [local simp] Bind.eqa Use.eqa loadC_str loadC_int Bind.C_len Bind.C_pure Bind.C_noOwn Bind.C_cell Bind.C_bd Bind.C_bdL Bind.C_ren Bind.C_any Bind.C_any0 Bind.C_any1 Bind.C_anyt Bind.C_take Bind.C_load Bind.C_load0 Bind.C_load1 Bind.C_fld Bind.C_box Bind.C_fold Use.C_len Use.C_pure Use.C_noOwn Use.C_cell Use.C_bd Use.C_bdL Use.C_ren Use.C_any Use.C_any0 Use.C_any1 Use.C_anyt Use.C_take Use.C_load Use.C_load0 Use.C_load1 Use.C_fld Use.C_box Use.C_fold LExpr.C_len LExpr.C_pure LExpr.C_noOwn LExpr.C_cell LExpr.C_bd LExpr.C_bdL LExpr.C_ren LExpr.C_any LExpr.C_any0 LExpr.C_any1 LExpr.C_anyt LExpr.C_take LExpr.C_load LExpr.C_load0 LExpr.C_load1 LExpr.C_fld LExpr.C_box LExpr.C_fold LDecl.C_len LDecl.C_pure LDecl.C_noOwn LDecl.C_cell LDecl.C_bd LDecl.C_bdL LDecl.C_ren LDecl.C_any LDecl.C_any0 LDecl.C_any1 LDecl.C_anyt LDecl.C_take LDecl.C_load LDecl.C_load0 LDecl.C_load1 LDecl.C_fld LDecl.C_box LDecl.C_fold LModule.C_len LModule.C_pure LModule.C_noOwn LModule.C_cell LModule.C_bd LModule.C_bdL LModule.C_ren LModule.C_any LModule.C_any0 LModule.C_any1 LModule.C_anyt LModule.C_take LModule.C_load LModule.C_load0 LModule.C_load1 LModule.C_fld LModule.C_box LModule.C_fold

attribute [local go_sem] buildV fillC mksV
/-- The first of a list of the maker's own. -/
theorem sl_own {σ : Heap} {o c k sz n : Nat} {es : List (List PV)} {ty : TypeId} {arr frz : Bool} {ik : IntKind} (ho : σ[o]? = some (some ⟨es, sz, ty, arr, frz⟩)) (hl : es.length = c) (hn : n ≤ c) :
    slV σ sz (.ref o c 0 k (some c)) none (some (.int ik n)) none = .ob True (.ref o c 0 n (some c)) := by
  simp only [slV, ho, hl, and_self, if_true, optI, Option.getD_some, Option.isSome_none, Bool.false_eq_true, if_false, Option.map_some, Int.toNat_zero, Int.toNat_natCast, Nat.zero_add, Nat.sub_zero]
  have : (0 ≤ (0 : Int) ∧ (0 : Int) ≤ (n : Int) ∧ (n : Int) ≤ (c : Int) ∧ (c : Int) ≤ ((c : Nat) : Int)) = True := eq_true ⟨by omega, by omega, by omega, by omega⟩
  rw [this]
theorem storeV_at {σ : Heap} {o c i sz : Nat} {es : List (List PV)} {ty : TypeId} {e v : List PV} (ho : σ[o]? = some (some ⟨es, sz, ty, true, false⟩)) (hl : es.length = c) (he : es[i]? = some e) (hez : e.length = sz) (hv : v.length = sz) (hc : v.all cellV = true) :
    storeV σ sz (.ptr o c i 0) (.agg v) = .hp True (.tup []) (σ.set o (some ⟨es.set i v, sz, ty, true, false⟩)) := by
  simp only [storeV, ho, hl, cellsOf, hv, hc, he, true_and, and_true, Nat.zero_add, Nat.le_refl, if_true, List.take_zero, List.nil_append]
  have : List.drop sz e = [] := List.drop_of_length_le (by omega)
  rw [this, List.append_nil]
def toUseS_L1 (l : Sl Use) (bare : Bool) (A : List (List PV)) (c : Nat) (i : Nat) (_ : Unit) : St := ⟨lk [(0, l.I Use.C), (1, .bool bare), (5, .ref 0 c 0 c (some c)), (6, .int .i64 i)], [some ⟨bldE A c [.str [], .str []] i, 2, 101, true, false⟩], []⟩
def toUseS_L2 (l : Sl Use) (A : List (List PV)) (c r : Nat) (j : Nat) (_ : Unit) : St := ⟨lk [(0, l.I Use.C), (5, .ref 0 c 0 c (some c)), (7, .int .i64 ((l.es.length : Int) + (j : Int)))], [some ⟨bldF A r [.str [], .str []] fillUse.C j, 2, 101, true, false⟩], []⟩
def mf_laws_toUseS : MF := ⟨51, [(.t 4)], (.seq (.reg [⟨(some 4), (.mov (.c (.imm [] [] true))), none⟩]) (.seq (.seq (.reg [⟨(some 8), (.mov (.t 1)), none⟩, ⟨(some 9), (.mov (.t 8)), none⟩, ⟨(some 10), (.mov (.t 0)), (some (9, true))⟩, ⟨(some 11), (.lenl (.t 10)), (some (9, true))⟩, ⟨(some 12), (.bin .eql (.t 11) (.c (.int .i64 0))), (some (9, true))⟩, ⟨(some 13), (.pick (.t 9) (.t 12) (.c (.bool false))), none⟩]) (.cond (.t 13) (.seq (.reg [⟨(some 4), (.mov (.c (.imm [] [] true))), none⟩]) .ret) .skip)) (.seq (.reg [⟨(some 14), (.mov (.t 0)), none⟩, ⟨(some 15), (.lenl (.t 14)), none⟩, ⟨(some 16), (.mov (.t 0)), none⟩, ⟨(some 17), (.lenl (.t 16)), none⟩, ⟨(some 18), (.call (.c (.fn 47 [])) [(.t 17)]), none⟩, ⟨(some 19), (.bin .add (.t 15) (.t 18)), none⟩, ⟨(some 20), (.mks 101 2 32 [(.str []), (.str [])] (.t 19) (.t 19)), none⟩, ⟨(some 5), (.mov (.t 20)), none⟩]) (.seq (.seq (.reg [⟨(some 6), (.mov (.c (.int .i64 0))), none⟩]) (.blk 0 (.loop (.seq (.seq (.reg [⟨(some 21), (.mov (.t 6)), none⟩, ⟨(some 22), (.mov (.t 0)), none⟩, ⟨(some 23), (.lenl (.t 22)), none⟩, ⟨(some 24), (.bin .lss (.t 21) (.t 23)), none⟩]) (.cond (.t 24) .skip (.exit 0))) (.seq (.blk 1 (.reg [⟨(some 27), (.mov (.t 5)), none⟩, ⟨(some 28), (.mov (.t 6)), none⟩, ⟨(some 29), (.mov (.t 0)), none⟩, ⟨(some 30), (.mov (.t 6)), none⟩, ⟨(some 31), (.iadr 2 (.t 29) (.t 30)), none⟩, ⟨(some 32), (.load true 2 (.t 31)), none⟩, ⟨(some 33), (.call (.c (.fn 207 [])) [(.t 32)]), none⟩, ⟨(some 34), (.iadr 2 (.t 27) (.t 28)), none⟩, ⟨none, (.store 2 (.t 34) (.t 33)), none⟩])) (.reg [⟨(some 25), (.mov (.t 6)), none⟩, ⟨(some 26), (.bin .add (.t 25) (.c (.int .i64 1))), none⟩, ⟨(some 6), (.mov (.t 26)), none⟩])))))) (.seq (.seq (.reg [⟨(some 35), (.mov (.t 0)), none⟩, ⟨(some 36), (.lenl (.t 35)), none⟩, ⟨(some 7), (.mov (.t 36)), none⟩]) (.blk 2 (.loop (.seq (.seq (.reg [⟨(some 37), (.mov (.t 7)), none⟩, ⟨(some 38), (.mov (.t 5)), none⟩, ⟨(some 39), (.lenl (.t 38)), none⟩, ⟨(some 40), (.bin .lss (.t 37) (.t 39)), none⟩]) (.cond (.t 40) .skip (.exit 2))) (.seq (.blk 3 (.reg [⟨(some 43), (.mov (.t 5)), none⟩, ⟨(some 44), (.mov (.t 7)), none⟩, ⟨(some 45), (.call (.c (.fn 125 [])) []), none⟩, ⟨(some 46), (.iadr 2 (.t 43) (.t 44)), none⟩, ⟨none, (.store 2 (.t 46) (.t 45)), none⟩])) (.reg [⟨(some 41), (.mov (.t 7)), none⟩, ⟨(some 42), (.bin .add (.t 41) (.c (.int .i64 1))), none⟩, ⟨(some 7), (.mov (.t 42)), none⟩])))))) (.seq (.reg [⟨(some 47), (.mov (.t 5)), none⟩, ⟨(some 48), (.mov (.t 0)), none⟩, ⟨(some 49), (.lenl (.t 48)), none⟩, ⟨(some 50), (.sl 2 (.t 47) none (some (.t 49)) none), none⟩, ⟨(some 4), (.mov (.t 50)), none⟩]) .ret))))))⟩
theorem fit_laws_toUseS : Fit Tryz.prog 123 Tryz.f123 mf_laws_toUseS := ⟨by kernel_rfl, Tryz.func123, by kernel_rfl, by kernel_rfl, by kernel_rfl, by kernel_rfl⟩
theorem toUseS_ct (l : Sl Use) (bare : Bool) (hl : l.es.length ≤ 1000000) (tf : Use → Use) (hg : ∀ a, a ∈ l.es → Ct Tryz.prog 207 [.agg a.C] (.agg (tf a).C)) :
    Ct Tryz.prog 123 [l.I Use.C, .bool bare] ((toS Use.C fillUse bare (l.es.map tf)).I Use.C) := by
  obtain ⟨Y, hY⟩ : ∃ Y, Y = (toS Use.C fillUse bare (l.es.map tf)).I Use.C := ⟨_, rfl⟩
  rw [← hY]
  refine ct_of_run fit_laws_toUseS (by simp [mf_laws_toUseS]) (by simp [go_sem]) fun hd => ?_
  simp -implicitDefEqProofs [-List.map_take, -List.map_drop, go_sem, mf_laws_toUseS]
  have hm : l.es.length ≤ maxLen := sl_deep hd.1
  have hA : ∀ e, e ∈ l.es.map (fun x => (tf x).C) → pureL e = true := by
    intro e he
    obtain ⟨x, _, rfl⟩ := List.mem_map.1 he
    exact Use.C_pure _
  obtain ⟨A, hAe⟩ : ∃ A, A = l.es.map (fun x => (tf x).C) := ⟨_, rfl⟩
  have hAl : A.length = l.es.length := by rw [hAe, List.length_map]
  have hAg : ∀ (i : Nat) (h : i < l.es.length), A[i]'(by omega) = (tf l.es[i]).C := fun i h => by subst hAe; simp
  rw [← hAe] at hA
  have hrl := room_le l.es.length
  have hcase : (bare && l.es.length == 0) = true → Y = .imm [] [] true := fun h => by
    rw [hY]; simp only [toS, List.length_map, h, if_true, Sl.I, List.map_nil]
  have hcase2 : (bare && l.es.length == 0) = false → Y = .imm A (List.replicate (room l.es.length) fillUse.C) true := fun h => by
    rw [hY]
    simp only [toS, List.length_map, h, Bool.false_eq_true, if_false, Sl.I, List.map_map, hAe, List.map_replicate]
    rfl
  cases hb : (bare && l.es.length == 0)
  · have h1 := hcase2 hb
    obtain ⟨r, hr⟩ : ∃ r, r = room l.es.length := ⟨_, rfl⟩
    obtain ⟨c, hc⟩ : ∃ c, c = l.es.length + r := ⟨_, rfl⟩
    rw [← hr] at hrl h1
    subst h1
    clear hY hcase hcase2
    have hw0 : IntKind.i64.wrap ((l.es.length : Int) + (r : Int)) = (c : Int) := by rw [wrap_small (by omega) (by omega)]; omega
    have hrm := room_ct l.es.length
    rw [← hr] at hrm
    have hz : pureL [.str [], .str []] = true := rfl
    have hfp : pureL fillUse.C = true := Use.C_pure _
    have hbnd : c * 1000 ≤ 140737488355328 := by omega
    cases bare
    · try simp only [Bool.true_and, beq_eq_false_iff_ne, ne_eq] at hb
      have hbz : ((l.es.length : Int) == 0) = decide (l.es.length = 0) := by rw [Bool.eq_iff_iff]; simp
      simp -implicitDefEqProofs [-List.map_take, -List.map_drop, go_sem]
      repeat' first
        | ((first | refine gv_split (fun h => ?_) (fun h => ?_) | refine cnd_split (fun h => ?_) (fun h => ?_) | refine cgv_split (fun h => ?_) (fun h => ?_)) <;> (try (have hp := h; simp at hp)) <;> simp -implicitDefEqProofs [-List.map_take, -List.map_drop, go_sem, h, hw0, hb, hbz])
        | (refine And.intro (by first | omega | (simp only [maxLen]; omega) | (simp_all; done) | (simp_all; omega)) ?_; try simp -implicitDefEqProofs [-List.map_take, -List.map_drop, go_sem, hw0, hb, hbz])
        | ((first | refine stp_ct (hrm) (by simp [go_sem, hw0, hb, hbz]) ?_ ?_ | refine cstp_ct (hrm) (by simp [go_sem, hw0, hb, hbz]) ?_ ?_); (simp [go_sem]); simp -implicitDefEqProofs [-List.map_take, -List.map_drop, go_sem, hw0, hb, hbz])
        | (refine run_dreg' (by decide) ?_; simp -implicitDefEqProofs [-List.map_take, -List.map_drop, go_sem, hw0, hb, hbz])
        | ((first | refine end_tup _ (by simp) (by simp [go_sem]; rfl) (by simp [go_sem]) ?_); first | (simp [go_sem, *]; done) | grind | (simp [go_sem]; grind) | (simp_all [go_sem]; done) | (simp_all [go_sem]; omega))
      refine run_iter (l.es.length) (toUseS_L1 l false A c) (fun i a => True) () (gh_auto (by simp [go_sem, toUseS_L1, bldE_zero])) (by first | (simp; done) | (simp []; done) | (simp []; omega) | grind) ?_
      intro i a hi hj
      simp -implicitDefEqProofs [-List.map_take, -List.map_drop, go_sem, toUseS_L1, bldE_zero]
      refine cnd_split (fun hc => ?_) (fun hc => ?_)
      · have hlt : i < l.es.length := by first | (simpa using hc) | (simp at hc; omega)
        simp -implicitDefEqProofs [-List.map_take, -List.map_drop, go_sem, hlt, bldE_zero]
        have hwl : (bldE A c [.str [], .str []] i).length = c := bldE_len (by omega) (by omega)
        have hwg : (bldE A c [.str [], .str []] i)[i]? = some [.str [], .str []] := bldE_get (by omega) (by omega)
        have hws : (bldE A c [.str [], .str []] i).set i (tf l.es[i]).C = bldE A c [.str [], .str []] (i + 1) := by rw [← hAg i hlt]; exact bldE_set (by omega) (by omega)
        have hwb : ∀ m, ((bldE A c [.str [], .str []] (i + 1)).all fun e => e.all (bdV m)) = true := bld_bd (bldE_pure hA hz)
        have hlc : (i : Int) < (c : Int) := by omega
        have hgi := hg l.es[i] (List.getElem_mem hlt)
        repeat' first
          | ((first | refine gv_split (fun h => ?_) (fun h => ?_) | refine cnd_split (fun h => ?_) (fun h => ?_) | refine cgv_split (fun h => ?_) (fun h => ?_)) <;> (try (have hp := h; simp at hp)) <;> simp -implicitDefEqProofs [-List.map_take, -List.map_drop, go_sem, h, hlt, hwl, hlc, hwg, hws, hwb])
          | (refine And.intro (by first | omega | (simp only [maxLen]; omega) | (simp_all; done) | (simp_all; omega)) ?_; try simp -implicitDefEqProofs [-List.map_take, -List.map_drop, go_sem, hlt, hwl, hlc, hwg, hws, hwb])
          | ((first | refine stp_ct (hgi) (by simp [go_sem, hlt, hwl, hlc, hwg, hws, hwb]) ?_ ?_ | refine cstp_ct (hgi) (by simp [go_sem, hlt, hwl, hlc, hwg, hws, hwb]) ?_ ?_); (simp [go_sem]); simp -implicitDefEqProofs [-List.map_take, -List.map_drop, go_sem, hlt, hwl, hlc, hwg, hws, hwb])
          | (refine run_dreg' (by decide) ?_; simp -implicitDefEqProofs [-List.map_take, -List.map_drop, go_sem, hlt, hwl, hlc, hwg, hws, hwb])
          | ((first | refine kx_next () hlt (gh_auto (by simp [go_sem, toUseS_L1, wrap_succ hlt hm, hlt, hwl, hlc, hwg, hws, hwb])) ?_ | refine end_tup _ (by simp) (by simp [go_sem]; rfl) (by simp [go_sem]) ?_); first | (simp [go_sem, *]; done) | grind | (simp [go_sem]; grind) | (simp_all [go_sem]; done) | (simp_all [go_sem]; omega))
      · have hge : l.es.length ≤ i := by first | (simpa using hc) | (simp at hc; omega)
        try simp -implicitDefEqProofs [-List.map_take, -List.map_drop, go_sem, bldE_zero]
        obtain rfl : i = l.es.length := by omega
        have hwf0 : bldF A r [.str [], .str []] fillUse.C 0 = bldE A c [.str [], .str []] l.es.length := by rw [← hAl]; exact bldF_zero (by omega)
        have hwb : ∀ m, ((bldE A c [.str [], .str []] l.es.length).all fun e => e.all (bdV m)) = true := bld_bd (bldE_pure hA hz)
        refine run_iter (r) (toUseS_L2 l A c r) (fun i2 a2 => True) () (gh_auto (by simp [go_sem, toUseS_L2, hwf0, hwb])) (by first | (simp; done) | (simp []; done) | (simp []; omega) | grind) ?_
        intro i2 a2 hi2 hj2
        simp -implicitDefEqProofs [-List.map_take, -List.map_drop, go_sem, toUseS_L2, hwf0, hwb]
        refine cnd_split (fun hc2 => ?_) (fun hc2 => ?_)
        · have hlt2 : i2 < r := by first | (simpa using hc2) | (simp at hc2; omega)
          simp -implicitDefEqProofs [-List.map_take, -List.map_drop, go_sem, hlt2, hwf0, hwb]
          have hwl2 : (bldF A r [.str [], .str []] fillUse.C i2).length = c := by rw [bldF_len (by omega)]; omega
          have hwg2 : (bldF A r [.str [], .str []] fillUse.C i2)[l.es.length + i2]? = some [.str [], .str []] := by rw [← hAl]; exact bldF_get (by omega)
          have hws2 : (bldF A r [.str [], .str []] fillUse.C i2).set (l.es.length + i2) fillUse.C = bldF A r [.str [], .str []] fillUse.C (i2 + 1) := by rw [← hAl]; exact bldF_set (by omega)
          have hwb2 : ∀ m, ((bldF A r [.str [], .str []] fillUse.C (i2 + 1)).all fun e => e.all (bdV m)) = true := bld_bd (bldF_pure hA hz hfp)
          have hlc2 : (0 : Int) ≤ (l.es.length : Int) + (i2 : Int) ∧ (l.es.length : Int) + (i2 : Int) < (c : Int) := by omega
          have hwt2 : ((l.es.length : Int) + (i2 : Int)).toNat = l.es.length + i2 := by omega
          have hwi2 : IntKind.i64.wrap ((l.es.length : Int) + (i2 : Int) + 1) = (l.es.length : Int) + ((i2 : Int) + 1) := by rw [wrap_small (by omega) (by omega)]; omega
          have hm2 : r ≤ maxLen := by simp only [maxLen]; omega
          repeat' first
            | ((first | refine gv_split (fun h => ?_) (fun h => ?_) | refine cnd_split (fun h => ?_) (fun h => ?_) | refine cgv_split (fun h => ?_) (fun h => ?_)) <;> (try (have hp := h; simp at hp)) <;> simp -implicitDefEqProofs [-List.map_take, -List.map_drop, go_sem, h, hlt2, hwl2, hlc2, hwt2, hwg2, hws2, hwb2, hwi2])
            | (refine And.intro (by first | omega | (simp only [maxLen]; omega) | (simp_all; done) | (simp_all; omega)) ?_; try simp -implicitDefEqProofs [-List.map_take, -List.map_drop, go_sem, hlt2, hwl2, hlc2, hwt2, hwg2, hws2, hwb2, hwi2])
            | ((first | refine stp_ct (fillUse_ct) (by simp [go_sem, hlt2, hwl2, hlc2, hwt2, hwg2, hws2, hwb2, hwi2]) ?_ ?_ | refine cstp_ct (fillUse_ct) (by simp [go_sem, hlt2, hwl2, hlc2, hwt2, hwg2, hws2, hwb2, hwi2]) ?_ ?_); (simp [go_sem]); simp -implicitDefEqProofs [-List.map_take, -List.map_drop, go_sem, hlt2, hwl2, hlc2, hwt2, hwg2, hws2, hwb2, hwi2])
            | (refine run_dreg' (by decide) ?_; simp -implicitDefEqProofs [-List.map_take, -List.map_drop, go_sem, hlt2, hwl2, hlc2, hwt2, hwg2, hws2, hwb2, hwi2])
            | ((first | refine kx_next () hlt2 (gh_auto (by simp [go_sem, toUseS_L2, wrap_succ hlt2 hm2, hlt2, hwl2, hlc2, hwt2, hwg2, hws2, hwb2, hwi2])) ?_ | refine end_tup _ (by simp) (by simp [go_sem]; rfl) (by simp [go_sem]) ?_); first | (simp [go_sem, *]; done) | grind | (simp [go_sem]; grind) | (simp_all [go_sem]; done) | (simp_all [go_sem]; omega))
        · have hge2 : r ≤ i2 := by first | (simpa using hc2) | (simp at hc2; omega)
          try simp -implicitDefEqProofs [-List.map_take, -List.map_drop, go_sem, hwf0, hwb]
          obtain rfl : i2 = r := by omega
          have hwl3 : (bldF A i2 [.str [], .str []] fillUse.C i2).length = c := by rw [bldF_len (by omega)]; omega
          have hwsl : slV [some ⟨bldF A i2 [.str [], .str []] fillUse.C i2, 2, 101, true, false⟩] 2 (.ref 0 c 0 c (some c)) none (some (.int .i64 (l.es.length : Int))) none = .ob True (.ref 0 c 0 l.es.length (some c)) := sl_own rfl hwl3 (by omega)
          simp -implicitDefEqProofs [-List.map_take, -List.map_drop, go_sem, hwsl]
          refine end_ref (o := 0) (c := c) (k := l.es.length) (es := bldF A i2 [.str [], .str []] fillUse.C i2) (sz := 2) (ty := 101) (arr := true) (frz := false) (by simp) (by simp [go_sem]) (by simp [go_sem]) hwl3 (bldF_pure hA hz hfp) ?_
          rw [bldF_full, ← hAl, List.take_left, List.drop_left]
    · try simp only [Bool.true_and, beq_eq_false_iff_ne, ne_eq] at hb
      have hbz : ((l.es.length : Int) == 0) = decide (l.es.length = 0) := by rw [Bool.eq_iff_iff]; simp
      simp -implicitDefEqProofs [-List.map_take, -List.map_drop, go_sem]
      repeat' first
        | ((first | refine gv_split (fun h => ?_) (fun h => ?_) | refine cnd_split (fun h => ?_) (fun h => ?_) | refine cgv_split (fun h => ?_) (fun h => ?_)) <;> (try (have hp := h; simp at hp)) <;> simp -implicitDefEqProofs [-List.map_take, -List.map_drop, go_sem, h, hw0, hb, hbz])
        | (refine And.intro (by first | omega | (simp only [maxLen]; omega) | (simp_all; done) | (simp_all; omega)) ?_; try simp -implicitDefEqProofs [-List.map_take, -List.map_drop, go_sem, hw0, hb, hbz])
        | ((first | refine stp_ct (hrm) (by simp [go_sem, hw0, hb, hbz]) ?_ ?_ | refine cstp_ct (hrm) (by simp [go_sem, hw0, hb, hbz]) ?_ ?_); (simp [go_sem]); simp -implicitDefEqProofs [-List.map_take, -List.map_drop, go_sem, hw0, hb, hbz])
        | (refine run_dreg' (by decide) ?_; simp -implicitDefEqProofs [-List.map_take, -List.map_drop, go_sem, hw0, hb, hbz])
        | ((first | refine end_tup _ (by simp) (by simp [go_sem]; rfl) (by simp [go_sem]) ?_); first | (simp [go_sem, *]; done) | grind | (simp [go_sem]; grind) | (simp_all [go_sem]; done) | (simp_all [go_sem]; omega))
      refine run_iter (l.es.length) (toUseS_L1 l true A c) (fun i a => True) () (gh_auto (by simp [go_sem, toUseS_L1, bldE_zero])) (by first | (simp; done) | (simp []; done) | (simp []; omega) | grind) ?_
      intro i a hi hj
      simp -implicitDefEqProofs [-List.map_take, -List.map_drop, go_sem, toUseS_L1, bldE_zero]
      refine cnd_split (fun hc => ?_) (fun hc => ?_)
      · have hlt : i < l.es.length := by first | (simpa using hc) | (simp at hc; omega)
        simp -implicitDefEqProofs [-List.map_take, -List.map_drop, go_sem, hlt, bldE_zero]
        have hwl : (bldE A c [.str [], .str []] i).length = c := bldE_len (by omega) (by omega)
        have hwg : (bldE A c [.str [], .str []] i)[i]? = some [.str [], .str []] := bldE_get (by omega) (by omega)
        have hws : (bldE A c [.str [], .str []] i).set i (tf l.es[i]).C = bldE A c [.str [], .str []] (i + 1) := by rw [← hAg i hlt]; exact bldE_set (by omega) (by omega)
        have hwb : ∀ m, ((bldE A c [.str [], .str []] (i + 1)).all fun e => e.all (bdV m)) = true := bld_bd (bldE_pure hA hz)
        have hlc : (i : Int) < (c : Int) := by omega
        have hgi := hg l.es[i] (List.getElem_mem hlt)
        repeat' first
          | ((first | refine gv_split (fun h => ?_) (fun h => ?_) | refine cnd_split (fun h => ?_) (fun h => ?_) | refine cgv_split (fun h => ?_) (fun h => ?_)) <;> (try (have hp := h; simp at hp)) <;> simp -implicitDefEqProofs [-List.map_take, -List.map_drop, go_sem, h, hlt, hwl, hlc, hwg, hws, hwb])
          | (refine And.intro (by first | omega | (simp only [maxLen]; omega) | (simp_all; done) | (simp_all; omega)) ?_; try simp -implicitDefEqProofs [-List.map_take, -List.map_drop, go_sem, hlt, hwl, hlc, hwg, hws, hwb])
          | ((first | refine stp_ct (hgi) (by simp [go_sem, hlt, hwl, hlc, hwg, hws, hwb]) ?_ ?_ | refine cstp_ct (hgi) (by simp [go_sem, hlt, hwl, hlc, hwg, hws, hwb]) ?_ ?_); (simp [go_sem]); simp -implicitDefEqProofs [-List.map_take, -List.map_drop, go_sem, hlt, hwl, hlc, hwg, hws, hwb])
          | (refine run_dreg' (by decide) ?_; simp -implicitDefEqProofs [-List.map_take, -List.map_drop, go_sem, hlt, hwl, hlc, hwg, hws, hwb])
          | ((first | refine kx_next () hlt (gh_auto (by simp [go_sem, toUseS_L1, wrap_succ hlt hm, hlt, hwl, hlc, hwg, hws, hwb])) ?_ | refine end_tup _ (by simp) (by simp [go_sem]; rfl) (by simp [go_sem]) ?_); first | (simp [go_sem, *]; done) | grind | (simp [go_sem]; grind) | (simp_all [go_sem]; done) | (simp_all [go_sem]; omega))
      · have hge : l.es.length ≤ i := by first | (simpa using hc) | (simp at hc; omega)
        try simp -implicitDefEqProofs [-List.map_take, -List.map_drop, go_sem, bldE_zero]
        obtain rfl : i = l.es.length := by omega
        have hwf0 : bldF A r [.str [], .str []] fillUse.C 0 = bldE A c [.str [], .str []] l.es.length := by rw [← hAl]; exact bldF_zero (by omega)
        have hwb : ∀ m, ((bldE A c [.str [], .str []] l.es.length).all fun e => e.all (bdV m)) = true := bld_bd (bldE_pure hA hz)
        refine run_iter (r) (toUseS_L2 l A c r) (fun i2 a2 => True) () (gh_auto (by simp [go_sem, toUseS_L2, hwf0, hwb])) (by first | (simp; done) | (simp []; done) | (simp []; omega) | grind) ?_
        intro i2 a2 hi2 hj2
        simp -implicitDefEqProofs [-List.map_take, -List.map_drop, go_sem, toUseS_L2, hwf0, hwb]
        refine cnd_split (fun hc2 => ?_) (fun hc2 => ?_)
        · have hlt2 : i2 < r := by first | (simpa using hc2) | (simp at hc2; omega)
          simp -implicitDefEqProofs [-List.map_take, -List.map_drop, go_sem, hlt2, hwf0, hwb]
          have hwl2 : (bldF A r [.str [], .str []] fillUse.C i2).length = c := by rw [bldF_len (by omega)]; omega
          have hwg2 : (bldF A r [.str [], .str []] fillUse.C i2)[l.es.length + i2]? = some [.str [], .str []] := by rw [← hAl]; exact bldF_get (by omega)
          have hws2 : (bldF A r [.str [], .str []] fillUse.C i2).set (l.es.length + i2) fillUse.C = bldF A r [.str [], .str []] fillUse.C (i2 + 1) := by rw [← hAl]; exact bldF_set (by omega)
          have hwb2 : ∀ m, ((bldF A r [.str [], .str []] fillUse.C (i2 + 1)).all fun e => e.all (bdV m)) = true := bld_bd (bldF_pure hA hz hfp)
          have hlc2 : (0 : Int) ≤ (l.es.length : Int) + (i2 : Int) ∧ (l.es.length : Int) + (i2 : Int) < (c : Int) := by omega
          have hwt2 : ((l.es.length : Int) + (i2 : Int)).toNat = l.es.length + i2 := by omega
          have hwi2 : IntKind.i64.wrap ((l.es.length : Int) + (i2 : Int) + 1) = (l.es.length : Int) + ((i2 : Int) + 1) := by rw [wrap_small (by omega) (by omega)]; omega
          have hm2 : r ≤ maxLen := by simp only [maxLen]; omega
          repeat' first
            | ((first | refine gv_split (fun h => ?_) (fun h => ?_) | refine cnd_split (fun h => ?_) (fun h => ?_) | refine cgv_split (fun h => ?_) (fun h => ?_)) <;> (try (have hp := h; simp at hp)) <;> simp -implicitDefEqProofs [-List.map_take, -List.map_drop, go_sem, h, hlt2, hwl2, hlc2, hwt2, hwg2, hws2, hwb2, hwi2])
            | (refine And.intro (by first | omega | (simp only [maxLen]; omega) | (simp_all; done) | (simp_all; omega)) ?_; try simp -implicitDefEqProofs [-List.map_take, -List.map_drop, go_sem, hlt2, hwl2, hlc2, hwt2, hwg2, hws2, hwb2, hwi2])
            | ((first | refine stp_ct (fillUse_ct) (by simp [go_sem, hlt2, hwl2, hlc2, hwt2, hwg2, hws2, hwb2, hwi2]) ?_ ?_ | refine cstp_ct (fillUse_ct) (by simp [go_sem, hlt2, hwl2, hlc2, hwt2, hwg2, hws2, hwb2, hwi2]) ?_ ?_); (simp [go_sem]); simp -implicitDefEqProofs [-List.map_take, -List.map_drop, go_sem, hlt2, hwl2, hlc2, hwt2, hwg2, hws2, hwb2, hwi2])
            | (refine run_dreg' (by decide) ?_; simp -implicitDefEqProofs [-List.map_take, -List.map_drop, go_sem, hlt2, hwl2, hlc2, hwt2, hwg2, hws2, hwb2, hwi2])
            | ((first | refine kx_next () hlt2 (gh_auto (by simp [go_sem, toUseS_L2, wrap_succ hlt2 hm2, hlt2, hwl2, hlc2, hwt2, hwg2, hws2, hwb2, hwi2])) ?_ | refine end_tup _ (by simp) (by simp [go_sem]; rfl) (by simp [go_sem]) ?_); first | (simp [go_sem, *]; done) | grind | (simp [go_sem]; grind) | (simp_all [go_sem]; done) | (simp_all [go_sem]; omega))
        · have hge2 : r ≤ i2 := by first | (simpa using hc2) | (simp at hc2; omega)
          try simp -implicitDefEqProofs [-List.map_take, -List.map_drop, go_sem, hwf0, hwb]
          obtain rfl : i2 = r := by omega
          have hwl3 : (bldF A i2 [.str [], .str []] fillUse.C i2).length = c := by rw [bldF_len (by omega)]; omega
          have hwsl : slV [some ⟨bldF A i2 [.str [], .str []] fillUse.C i2, 2, 101, true, false⟩] 2 (.ref 0 c 0 c (some c)) none (some (.int .i64 (l.es.length : Int))) none = .ob True (.ref 0 c 0 l.es.length (some c)) := sl_own rfl hwl3 (by omega)
          simp -implicitDefEqProofs [-List.map_take, -List.map_drop, go_sem, hwsl]
          refine end_ref (o := 0) (c := c) (k := l.es.length) (es := bldF A i2 [.str [], .str []] fillUse.C i2) (sz := 2) (ty := 101) (arr := true) (frz := false) (by simp) (by simp [go_sem]) (by simp [go_sem]) hwl3 (bldF_pure hA hz hfp) ?_
          rw [bldF_full, ← hAl, List.take_left, List.drop_left]
  · have h1 := hcase hb
    subst h1
    simp at hb
    obtain ⟨rfl, hb⟩ := hb
    have hbt : ((l.es.length : Int) == 0) = true := by simp [hb]
    simp -implicitDefEqProofs [-List.map_take, -List.map_drop, go_sem, hbt]
    repeat' first
      | ((first | refine gv_split (fun h => ?_) (fun h => ?_) | refine cnd_split (fun h => ?_) (fun h => ?_) | refine cgv_split (fun h => ?_) (fun h => ?_)) <;> (try (have hp := h; simp at hp)) <;> simp -implicitDefEqProofs [-List.map_take, -List.map_drop, go_sem, h, hbt])
      | (refine And.intro (by first | omega | (simp only [maxLen]; omega) | (simp_all; done) | (simp_all; omega)) ?_; try simp -implicitDefEqProofs [-List.map_take, -List.map_drop, go_sem, hbt])
      | (refine run_dreg' (by decide) ?_; simp -implicitDefEqProofs [-List.map_take, -List.map_drop, go_sem, hbt])
      | ((first | refine end_tup _ (by simp) (by simp [go_sem]; rfl) (by simp [go_sem]) ?_); first | (simp [go_sem, *]; done) | grind | (simp [go_sem]; grind) | (simp_all [go_sem]; done) | (simp_all [go_sem]; omega))
def toBindS_L1 (l : Sl Bind) (bare : Bool) (A : List (List PV)) (c : Nat) (i : Nat) (_ : Unit) : St := ⟨lk [(0, l.I Bind.C), (1, .bool bare), (5, .ref 0 c 0 c (some c)), (6, .int .i64 i)], [some ⟨bldE A c [.str [], .str []] i, 2, 152, true, false⟩], []⟩
def toBindS_L2 (l : Sl Bind) (A : List (List PV)) (c r : Nat) (j : Nat) (_ : Unit) : St := ⟨lk [(0, l.I Bind.C), (5, .ref 0 c 0 c (some c)), (7, .int .i64 ((l.es.length : Int) + (j : Int)))], [some ⟨bldF A r [.str [], .str []] fillBind.C j, 2, 152, true, false⟩], []⟩
def mf_laws_toBindS : MF := ⟨51, [(.t 4)], (.seq (.reg [⟨(some 4), (.mov (.c (.imm [] [] true))), none⟩]) (.seq (.seq (.reg [⟨(some 8), (.mov (.t 1)), none⟩, ⟨(some 9), (.mov (.t 8)), none⟩, ⟨(some 10), (.mov (.t 0)), (some (9, true))⟩, ⟨(some 11), (.lenl (.t 10)), (some (9, true))⟩, ⟨(some 12), (.bin .eql (.t 11) (.c (.int .i64 0))), (some (9, true))⟩, ⟨(some 13), (.pick (.t 9) (.t 12) (.c (.bool false))), none⟩]) (.cond (.t 13) (.seq (.reg [⟨(some 4), (.mov (.c (.imm [] [] true))), none⟩]) .ret) .skip)) (.seq (.reg [⟨(some 14), (.mov (.t 0)), none⟩, ⟨(some 15), (.lenl (.t 14)), none⟩, ⟨(some 16), (.mov (.t 0)), none⟩, ⟨(some 17), (.lenl (.t 16)), none⟩, ⟨(some 18), (.call (.c (.fn 47 [])) [(.t 17)]), none⟩, ⟨(some 19), (.bin .add (.t 15) (.t 18)), none⟩, ⟨(some 20), (.mks 152 2 32 [(.str []), (.str [])] (.t 19) (.t 19)), none⟩, ⟨(some 5), (.mov (.t 20)), none⟩]) (.seq (.seq (.reg [⟨(some 6), (.mov (.c (.int .i64 0))), none⟩]) (.blk 0 (.loop (.seq (.seq (.reg [⟨(some 21), (.mov (.t 6)), none⟩, ⟨(some 22), (.mov (.t 0)), none⟩, ⟨(some 23), (.lenl (.t 22)), none⟩, ⟨(some 24), (.bin .lss (.t 21) (.t 23)), none⟩]) (.cond (.t 24) .skip (.exit 0))) (.seq (.blk 1 (.reg [⟨(some 27), (.mov (.t 5)), none⟩, ⟨(some 28), (.mov (.t 6)), none⟩, ⟨(some 29), (.mov (.t 0)), none⟩, ⟨(some 30), (.mov (.t 6)), none⟩, ⟨(some 31), (.iadr 2 (.t 29) (.t 30)), none⟩, ⟨(some 32), (.load true 2 (.t 31)), none⟩, ⟨(some 33), (.call (.c (.fn 294 [])) [(.t 32)]), none⟩, ⟨(some 34), (.iadr 2 (.t 27) (.t 28)), none⟩, ⟨none, (.store 2 (.t 34) (.t 33)), none⟩])) (.reg [⟨(some 25), (.mov (.t 6)), none⟩, ⟨(some 26), (.bin .add (.t 25) (.c (.int .i64 1))), none⟩, ⟨(some 6), (.mov (.t 26)), none⟩])))))) (.seq (.seq (.reg [⟨(some 35), (.mov (.t 0)), none⟩, ⟨(some 36), (.lenl (.t 35)), none⟩, ⟨(some 7), (.mov (.t 36)), none⟩]) (.blk 2 (.loop (.seq (.seq (.reg [⟨(some 37), (.mov (.t 7)), none⟩, ⟨(some 38), (.mov (.t 5)), none⟩, ⟨(some 39), (.lenl (.t 38)), none⟩, ⟨(some 40), (.bin .lss (.t 37) (.t 39)), none⟩]) (.cond (.t 40) .skip (.exit 2))) (.seq (.blk 3 (.reg [⟨(some 43), (.mov (.t 5)), none⟩, ⟨(some 44), (.mov (.t 7)), none⟩, ⟨(some 45), (.call (.c (.fn 209 [])) []), none⟩, ⟨(some 46), (.iadr 2 (.t 43) (.t 44)), none⟩, ⟨none, (.store 2 (.t 46) (.t 45)), none⟩])) (.reg [⟨(some 41), (.mov (.t 7)), none⟩, ⟨(some 42), (.bin .add (.t 41) (.c (.int .i64 1))), none⟩, ⟨(some 7), (.mov (.t 42)), none⟩])))))) (.seq (.reg [⟨(some 47), (.mov (.t 5)), none⟩, ⟨(some 48), (.mov (.t 0)), none⟩, ⟨(some 49), (.lenl (.t 48)), none⟩, ⟨(some 50), (.sl 2 (.t 47) none (some (.t 49)) none), none⟩, ⟨(some 4), (.mov (.t 50)), none⟩]) .ret))))))⟩
theorem fit_laws_toBindS : Fit Tryz.prog 260 Tryz.f260 mf_laws_toBindS := ⟨by kernel_rfl, Tryz.func260, by kernel_rfl, by kernel_rfl, by kernel_rfl, by kernel_rfl⟩
theorem toBindS_ct (l : Sl Bind) (bare : Bool) (hl : l.es.length ≤ 1000000) (tf : Bind → Bind) (hg : ∀ a, a ∈ l.es → Ct Tryz.prog 294 [.agg a.C] (.agg (tf a).C)) :
    Ct Tryz.prog 260 [l.I Bind.C, .bool bare] ((toS Bind.C fillBind bare (l.es.map tf)).I Bind.C) := by
  obtain ⟨Y, hY⟩ : ∃ Y, Y = (toS Bind.C fillBind bare (l.es.map tf)).I Bind.C := ⟨_, rfl⟩
  rw [← hY]
  refine ct_of_run fit_laws_toBindS (by simp [mf_laws_toBindS]) (by simp [go_sem]) fun hd => ?_
  simp -implicitDefEqProofs [-List.map_take, -List.map_drop, go_sem, mf_laws_toBindS]
  have hm : l.es.length ≤ maxLen := sl_deep hd.1
  have hA : ∀ e, e ∈ l.es.map (fun x => (tf x).C) → pureL e = true := by
    intro e he
    obtain ⟨x, _, rfl⟩ := List.mem_map.1 he
    exact Bind.C_pure _
  obtain ⟨A, hAe⟩ : ∃ A, A = l.es.map (fun x => (tf x).C) := ⟨_, rfl⟩
  have hAl : A.length = l.es.length := by rw [hAe, List.length_map]
  have hAg : ∀ (i : Nat) (h : i < l.es.length), A[i]'(by omega) = (tf l.es[i]).C := fun i h => by subst hAe; simp
  rw [← hAe] at hA
  have hrl := room_le l.es.length
  have hcase : (bare && l.es.length == 0) = true → Y = .imm [] [] true := fun h => by
    rw [hY]; simp only [toS, List.length_map, h, if_true, Sl.I, List.map_nil]
  have hcase2 : (bare && l.es.length == 0) = false → Y = .imm A (List.replicate (room l.es.length) fillBind.C) true := fun h => by
    rw [hY]
    simp only [toS, List.length_map, h, Bool.false_eq_true, if_false, Sl.I, List.map_map, hAe, List.map_replicate]
    rfl
  cases hb : (bare && l.es.length == 0)
  · have h1 := hcase2 hb
    obtain ⟨r, hr⟩ : ∃ r, r = room l.es.length := ⟨_, rfl⟩
    obtain ⟨c, hc⟩ : ∃ c, c = l.es.length + r := ⟨_, rfl⟩
    rw [← hr] at hrl h1
    subst h1
    clear hY hcase hcase2
    have hw0 : IntKind.i64.wrap ((l.es.length : Int) + (r : Int)) = (c : Int) := by rw [wrap_small (by omega) (by omega)]; omega
    have hrm := room_ct l.es.length
    rw [← hr] at hrm
    have hz : pureL [.str [], .str []] = true := rfl
    have hfp : pureL fillBind.C = true := Bind.C_pure _
    have hbnd : c * 1000 ≤ 140737488355328 := by omega
    cases bare
    · try simp only [Bool.true_and, beq_eq_false_iff_ne, ne_eq] at hb
      have hbz : ((l.es.length : Int) == 0) = decide (l.es.length = 0) := by rw [Bool.eq_iff_iff]; simp
      simp -implicitDefEqProofs [-List.map_take, -List.map_drop, go_sem]
      repeat' first
        | ((first | refine gv_split (fun h => ?_) (fun h => ?_) | refine cnd_split (fun h => ?_) (fun h => ?_) | refine cgv_split (fun h => ?_) (fun h => ?_)) <;> (try (have hp := h; simp at hp)) <;> simp -implicitDefEqProofs [-List.map_take, -List.map_drop, go_sem, h, hw0, hb, hbz])
        | (refine And.intro (by first | omega | (simp only [maxLen]; omega) | (simp_all; done) | (simp_all; omega)) ?_; try simp -implicitDefEqProofs [-List.map_take, -List.map_drop, go_sem, hw0, hb, hbz])
        | ((first | refine stp_ct (hrm) (by simp [go_sem, hw0, hb, hbz]) ?_ ?_ | refine cstp_ct (hrm) (by simp [go_sem, hw0, hb, hbz]) ?_ ?_); (simp [go_sem]); simp -implicitDefEqProofs [-List.map_take, -List.map_drop, go_sem, hw0, hb, hbz])
        | (refine run_dreg' (by decide) ?_; simp -implicitDefEqProofs [-List.map_take, -List.map_drop, go_sem, hw0, hb, hbz])
        | ((first | refine end_tup _ (by simp) (by simp [go_sem]; rfl) (by simp [go_sem]) ?_); first | (simp [go_sem, *]; done) | grind | (simp [go_sem]; grind) | (simp_all [go_sem]; done) | (simp_all [go_sem]; omega))
      refine run_iter (l.es.length) (toBindS_L1 l false A c) (fun i a => True) () (gh_auto (by simp [go_sem, toBindS_L1, bldE_zero])) (by first | (simp; done) | (simp []; done) | (simp []; omega) | grind) ?_
      intro i a hi hj
      simp -implicitDefEqProofs [-List.map_take, -List.map_drop, go_sem, toBindS_L1, bldE_zero]
      refine cnd_split (fun hc => ?_) (fun hc => ?_)
      · have hlt : i < l.es.length := by first | (simpa using hc) | (simp at hc; omega)
        simp -implicitDefEqProofs [-List.map_take, -List.map_drop, go_sem, hlt, bldE_zero]
        have hwl : (bldE A c [.str [], .str []] i).length = c := bldE_len (by omega) (by omega)
        have hwg : (bldE A c [.str [], .str []] i)[i]? = some [.str [], .str []] := bldE_get (by omega) (by omega)
        have hws : (bldE A c [.str [], .str []] i).set i (tf l.es[i]).C = bldE A c [.str [], .str []] (i + 1) := by rw [← hAg i hlt]; exact bldE_set (by omega) (by omega)
        have hwb : ∀ m, ((bldE A c [.str [], .str []] (i + 1)).all fun e => e.all (bdV m)) = true := bld_bd (bldE_pure hA hz)
        have hlc : (i : Int) < (c : Int) := by omega
        have hgi := hg l.es[i] (List.getElem_mem hlt)
        repeat' first
          | ((first | refine gv_split (fun h => ?_) (fun h => ?_) | refine cnd_split (fun h => ?_) (fun h => ?_) | refine cgv_split (fun h => ?_) (fun h => ?_)) <;> (try (have hp := h; simp at hp)) <;> simp -implicitDefEqProofs [-List.map_take, -List.map_drop, go_sem, h, hlt, hwl, hlc, hwg, hws, hwb])
          | (refine And.intro (by first | omega | (simp only [maxLen]; omega) | (simp_all; done) | (simp_all; omega)) ?_; try simp -implicitDefEqProofs [-List.map_take, -List.map_drop, go_sem, hlt, hwl, hlc, hwg, hws, hwb])
          | ((first | refine stp_ct (hgi) (by simp [go_sem, hlt, hwl, hlc, hwg, hws, hwb]) ?_ ?_ | refine cstp_ct (hgi) (by simp [go_sem, hlt, hwl, hlc, hwg, hws, hwb]) ?_ ?_); (simp [go_sem]); simp -implicitDefEqProofs [-List.map_take, -List.map_drop, go_sem, hlt, hwl, hlc, hwg, hws, hwb])
          | (refine run_dreg' (by decide) ?_; simp -implicitDefEqProofs [-List.map_take, -List.map_drop, go_sem, hlt, hwl, hlc, hwg, hws, hwb])
          | ((first | refine kx_next () hlt (gh_auto (by simp [go_sem, toBindS_L1, wrap_succ hlt hm, hlt, hwl, hlc, hwg, hws, hwb])) ?_ | refine end_tup _ (by simp) (by simp [go_sem]; rfl) (by simp [go_sem]) ?_); first | (simp [go_sem, *]; done) | grind | (simp [go_sem]; grind) | (simp_all [go_sem]; done) | (simp_all [go_sem]; omega))
      · have hge : l.es.length ≤ i := by first | (simpa using hc) | (simp at hc; omega)
        try simp -implicitDefEqProofs [-List.map_take, -List.map_drop, go_sem, bldE_zero]
        obtain rfl : i = l.es.length := by omega
        have hwf0 : bldF A r [.str [], .str []] fillBind.C 0 = bldE A c [.str [], .str []] l.es.length := by rw [← hAl]; exact bldF_zero (by omega)
        have hwb : ∀ m, ((bldE A c [.str [], .str []] l.es.length).all fun e => e.all (bdV m)) = true := bld_bd (bldE_pure hA hz)
        refine run_iter (r) (toBindS_L2 l A c r) (fun i2 a2 => True) () (gh_auto (by simp [go_sem, toBindS_L2, hwf0, hwb])) (by first | (simp; done) | (simp []; done) | (simp []; omega) | grind) ?_
        intro i2 a2 hi2 hj2
        simp -implicitDefEqProofs [-List.map_take, -List.map_drop, go_sem, toBindS_L2, hwf0, hwb]
        refine cnd_split (fun hc2 => ?_) (fun hc2 => ?_)
        · have hlt2 : i2 < r := by first | (simpa using hc2) | (simp at hc2; omega)
          simp -implicitDefEqProofs [-List.map_take, -List.map_drop, go_sem, hlt2, hwf0, hwb]
          have hwl2 : (bldF A r [.str [], .str []] fillBind.C i2).length = c := by rw [bldF_len (by omega)]; omega
          have hwg2 : (bldF A r [.str [], .str []] fillBind.C i2)[l.es.length + i2]? = some [.str [], .str []] := by rw [← hAl]; exact bldF_get (by omega)
          have hws2 : (bldF A r [.str [], .str []] fillBind.C i2).set (l.es.length + i2) fillBind.C = bldF A r [.str [], .str []] fillBind.C (i2 + 1) := by rw [← hAl]; exact bldF_set (by omega)
          have hwb2 : ∀ m, ((bldF A r [.str [], .str []] fillBind.C (i2 + 1)).all fun e => e.all (bdV m)) = true := bld_bd (bldF_pure hA hz hfp)
          have hlc2 : (0 : Int) ≤ (l.es.length : Int) + (i2 : Int) ∧ (l.es.length : Int) + (i2 : Int) < (c : Int) := by omega
          have hwt2 : ((l.es.length : Int) + (i2 : Int)).toNat = l.es.length + i2 := by omega
          have hwi2 : IntKind.i64.wrap ((l.es.length : Int) + (i2 : Int) + 1) = (l.es.length : Int) + ((i2 : Int) + 1) := by rw [wrap_small (by omega) (by omega)]; omega
          have hm2 : r ≤ maxLen := by simp only [maxLen]; omega
          repeat' first
            | ((first | refine gv_split (fun h => ?_) (fun h => ?_) | refine cnd_split (fun h => ?_) (fun h => ?_) | refine cgv_split (fun h => ?_) (fun h => ?_)) <;> (try (have hp := h; simp at hp)) <;> simp -implicitDefEqProofs [-List.map_take, -List.map_drop, go_sem, h, hlt2, hwl2, hlc2, hwt2, hwg2, hws2, hwb2, hwi2])
            | (refine And.intro (by first | omega | (simp only [maxLen]; omega) | (simp_all; done) | (simp_all; omega)) ?_; try simp -implicitDefEqProofs [-List.map_take, -List.map_drop, go_sem, hlt2, hwl2, hlc2, hwt2, hwg2, hws2, hwb2, hwi2])
            | ((first | refine stp_ct (fillBind_ct) (by simp [go_sem, hlt2, hwl2, hlc2, hwt2, hwg2, hws2, hwb2, hwi2]) ?_ ?_ | refine cstp_ct (fillBind_ct) (by simp [go_sem, hlt2, hwl2, hlc2, hwt2, hwg2, hws2, hwb2, hwi2]) ?_ ?_); (simp [go_sem]); simp -implicitDefEqProofs [-List.map_take, -List.map_drop, go_sem, hlt2, hwl2, hlc2, hwt2, hwg2, hws2, hwb2, hwi2])
            | (refine run_dreg' (by decide) ?_; simp -implicitDefEqProofs [-List.map_take, -List.map_drop, go_sem, hlt2, hwl2, hlc2, hwt2, hwg2, hws2, hwb2, hwi2])
            | ((first | refine kx_next () hlt2 (gh_auto (by simp [go_sem, toBindS_L2, wrap_succ hlt2 hm2, hlt2, hwl2, hlc2, hwt2, hwg2, hws2, hwb2, hwi2])) ?_ | refine end_tup _ (by simp) (by simp [go_sem]; rfl) (by simp [go_sem]) ?_); first | (simp [go_sem, *]; done) | grind | (simp [go_sem]; grind) | (simp_all [go_sem]; done) | (simp_all [go_sem]; omega))
        · have hge2 : r ≤ i2 := by first | (simpa using hc2) | (simp at hc2; omega)
          try simp -implicitDefEqProofs [-List.map_take, -List.map_drop, go_sem, hwf0, hwb]
          obtain rfl : i2 = r := by omega
          have hwl3 : (bldF A i2 [.str [], .str []] fillBind.C i2).length = c := by rw [bldF_len (by omega)]; omega
          have hwsl : slV [some ⟨bldF A i2 [.str [], .str []] fillBind.C i2, 2, 152, true, false⟩] 2 (.ref 0 c 0 c (some c)) none (some (.int .i64 (l.es.length : Int))) none = .ob True (.ref 0 c 0 l.es.length (some c)) := sl_own rfl hwl3 (by omega)
          simp -implicitDefEqProofs [-List.map_take, -List.map_drop, go_sem, hwsl]
          refine end_ref (o := 0) (c := c) (k := l.es.length) (es := bldF A i2 [.str [], .str []] fillBind.C i2) (sz := 2) (ty := 152) (arr := true) (frz := false) (by simp) (by simp [go_sem]) (by simp [go_sem]) hwl3 (bldF_pure hA hz hfp) ?_
          rw [bldF_full, ← hAl, List.take_left, List.drop_left]
    · try simp only [Bool.true_and, beq_eq_false_iff_ne, ne_eq] at hb
      have hbz : ((l.es.length : Int) == 0) = decide (l.es.length = 0) := by rw [Bool.eq_iff_iff]; simp
      simp -implicitDefEqProofs [-List.map_take, -List.map_drop, go_sem]
      repeat' first
        | ((first | refine gv_split (fun h => ?_) (fun h => ?_) | refine cnd_split (fun h => ?_) (fun h => ?_) | refine cgv_split (fun h => ?_) (fun h => ?_)) <;> (try (have hp := h; simp at hp)) <;> simp -implicitDefEqProofs [-List.map_take, -List.map_drop, go_sem, h, hw0, hb, hbz])
        | (refine And.intro (by first | omega | (simp only [maxLen]; omega) | (simp_all; done) | (simp_all; omega)) ?_; try simp -implicitDefEqProofs [-List.map_take, -List.map_drop, go_sem, hw0, hb, hbz])
        | ((first | refine stp_ct (hrm) (by simp [go_sem, hw0, hb, hbz]) ?_ ?_ | refine cstp_ct (hrm) (by simp [go_sem, hw0, hb, hbz]) ?_ ?_); (simp [go_sem]); simp -implicitDefEqProofs [-List.map_take, -List.map_drop, go_sem, hw0, hb, hbz])
        | (refine run_dreg' (by decide) ?_; simp -implicitDefEqProofs [-List.map_take, -List.map_drop, go_sem, hw0, hb, hbz])
        | ((first | refine end_tup _ (by simp) (by simp [go_sem]; rfl) (by simp [go_sem]) ?_); first | (simp [go_sem, *]; done) | grind | (simp [go_sem]; grind) | (simp_all [go_sem]; done) | (simp_all [go_sem]; omega))
      refine run_iter (l.es.length) (toBindS_L1 l true A c) (fun i a => True) () (gh_auto (by simp [go_sem, toBindS_L1, bldE_zero])) (by first | (simp; done) | (simp []; done) | (simp []; omega) | grind) ?_
      intro i a hi hj
      simp -implicitDefEqProofs [-List.map_take, -List.map_drop, go_sem, toBindS_L1, bldE_zero]
      refine cnd_split (fun hc => ?_) (fun hc => ?_)
      · have hlt : i < l.es.length := by first | (simpa using hc) | (simp at hc; omega)
        simp -implicitDefEqProofs [-List.map_take, -List.map_drop, go_sem, hlt, bldE_zero]
        have hwl : (bldE A c [.str [], .str []] i).length = c := bldE_len (by omega) (by omega)
        have hwg : (bldE A c [.str [], .str []] i)[i]? = some [.str [], .str []] := bldE_get (by omega) (by omega)
        have hws : (bldE A c [.str [], .str []] i).set i (tf l.es[i]).C = bldE A c [.str [], .str []] (i + 1) := by rw [← hAg i hlt]; exact bldE_set (by omega) (by omega)
        have hwb : ∀ m, ((bldE A c [.str [], .str []] (i + 1)).all fun e => e.all (bdV m)) = true := bld_bd (bldE_pure hA hz)
        have hlc : (i : Int) < (c : Int) := by omega
        have hgi := hg l.es[i] (List.getElem_mem hlt)
        repeat' first
          | ((first | refine gv_split (fun h => ?_) (fun h => ?_) | refine cnd_split (fun h => ?_) (fun h => ?_) | refine cgv_split (fun h => ?_) (fun h => ?_)) <;> (try (have hp := h; simp at hp)) <;> simp -implicitDefEqProofs [-List.map_take, -List.map_drop, go_sem, h, hlt, hwl, hlc, hwg, hws, hwb])
          | (refine And.intro (by first | omega | (simp only [maxLen]; omega) | (simp_all; done) | (simp_all; omega)) ?_; try simp -implicitDefEqProofs [-List.map_take, -List.map_drop, go_sem, hlt, hwl, hlc, hwg, hws, hwb])
          | ((first | refine stp_ct (hgi) (by simp [go_sem, hlt, hwl, hlc, hwg, hws, hwb]) ?_ ?_ | refine cstp_ct (hgi) (by simp [go_sem, hlt, hwl, hlc, hwg, hws, hwb]) ?_ ?_); (simp [go_sem]); simp -implicitDefEqProofs [-List.map_take, -List.map_drop, go_sem, hlt, hwl, hlc, hwg, hws, hwb])
          | (refine run_dreg' (by decide) ?_; simp -implicitDefEqProofs [-List.map_take, -List.map_drop, go_sem, hlt, hwl, hlc, hwg, hws, hwb])
          | ((first | refine kx_next () hlt (gh_auto (by simp [go_sem, toBindS_L1, wrap_succ hlt hm, hlt, hwl, hlc, hwg, hws, hwb])) ?_ | refine end_tup _ (by simp) (by simp [go_sem]; rfl) (by simp [go_sem]) ?_); first | (simp [go_sem, *]; done) | grind | (simp [go_sem]; grind) | (simp_all [go_sem]; done) | (simp_all [go_sem]; omega))
      · have hge : l.es.length ≤ i := by first | (simpa using hc) | (simp at hc; omega)
        try simp -implicitDefEqProofs [-List.map_take, -List.map_drop, go_sem, bldE_zero]
        obtain rfl : i = l.es.length := by omega
        have hwf0 : bldF A r [.str [], .str []] fillBind.C 0 = bldE A c [.str [], .str []] l.es.length := by rw [← hAl]; exact bldF_zero (by omega)
        have hwb : ∀ m, ((bldE A c [.str [], .str []] l.es.length).all fun e => e.all (bdV m)) = true := bld_bd (bldE_pure hA hz)
        refine run_iter (r) (toBindS_L2 l A c r) (fun i2 a2 => True) () (gh_auto (by simp [go_sem, toBindS_L2, hwf0, hwb])) (by first | (simp; done) | (simp []; done) | (simp []; omega) | grind) ?_
        intro i2 a2 hi2 hj2
        simp -implicitDefEqProofs [-List.map_take, -List.map_drop, go_sem, toBindS_L2, hwf0, hwb]
        refine cnd_split (fun hc2 => ?_) (fun hc2 => ?_)
        · have hlt2 : i2 < r := by first | (simpa using hc2) | (simp at hc2; omega)
          simp -implicitDefEqProofs [-List.map_take, -List.map_drop, go_sem, hlt2, hwf0, hwb]
          have hwl2 : (bldF A r [.str [], .str []] fillBind.C i2).length = c := by rw [bldF_len (by omega)]; omega
          have hwg2 : (bldF A r [.str [], .str []] fillBind.C i2)[l.es.length + i2]? = some [.str [], .str []] := by rw [← hAl]; exact bldF_get (by omega)
          have hws2 : (bldF A r [.str [], .str []] fillBind.C i2).set (l.es.length + i2) fillBind.C = bldF A r [.str [], .str []] fillBind.C (i2 + 1) := by rw [← hAl]; exact bldF_set (by omega)
          have hwb2 : ∀ m, ((bldF A r [.str [], .str []] fillBind.C (i2 + 1)).all fun e => e.all (bdV m)) = true := bld_bd (bldF_pure hA hz hfp)
          have hlc2 : (0 : Int) ≤ (l.es.length : Int) + (i2 : Int) ∧ (l.es.length : Int) + (i2 : Int) < (c : Int) := by omega
          have hwt2 : ((l.es.length : Int) + (i2 : Int)).toNat = l.es.length + i2 := by omega
          have hwi2 : IntKind.i64.wrap ((l.es.length : Int) + (i2 : Int) + 1) = (l.es.length : Int) + ((i2 : Int) + 1) := by rw [wrap_small (by omega) (by omega)]; omega
          have hm2 : r ≤ maxLen := by simp only [maxLen]; omega
          repeat' first
            | ((first | refine gv_split (fun h => ?_) (fun h => ?_) | refine cnd_split (fun h => ?_) (fun h => ?_) | refine cgv_split (fun h => ?_) (fun h => ?_)) <;> (try (have hp := h; simp at hp)) <;> simp -implicitDefEqProofs [-List.map_take, -List.map_drop, go_sem, h, hlt2, hwl2, hlc2, hwt2, hwg2, hws2, hwb2, hwi2])
            | (refine And.intro (by first | omega | (simp only [maxLen]; omega) | (simp_all; done) | (simp_all; omega)) ?_; try simp -implicitDefEqProofs [-List.map_take, -List.map_drop, go_sem, hlt2, hwl2, hlc2, hwt2, hwg2, hws2, hwb2, hwi2])
            | ((first | refine stp_ct (fillBind_ct) (by simp [go_sem, hlt2, hwl2, hlc2, hwt2, hwg2, hws2, hwb2, hwi2]) ?_ ?_ | refine cstp_ct (fillBind_ct) (by simp [go_sem, hlt2, hwl2, hlc2, hwt2, hwg2, hws2, hwb2, hwi2]) ?_ ?_); (simp [go_sem]); simp -implicitDefEqProofs [-List.map_take, -List.map_drop, go_sem, hlt2, hwl2, hlc2, hwt2, hwg2, hws2, hwb2, hwi2])
            | (refine run_dreg' (by decide) ?_; simp -implicitDefEqProofs [-List.map_take, -List.map_drop, go_sem, hlt2, hwl2, hlc2, hwt2, hwg2, hws2, hwb2, hwi2])
            | ((first | refine kx_next () hlt2 (gh_auto (by simp [go_sem, toBindS_L2, wrap_succ hlt2 hm2, hlt2, hwl2, hlc2, hwt2, hwg2, hws2, hwb2, hwi2])) ?_ | refine end_tup _ (by simp) (by simp [go_sem]; rfl) (by simp [go_sem]) ?_); first | (simp [go_sem, *]; done) | grind | (simp [go_sem]; grind) | (simp_all [go_sem]; done) | (simp_all [go_sem]; omega))
        · have hge2 : r ≤ i2 := by first | (simpa using hc2) | (simp at hc2; omega)
          try simp -implicitDefEqProofs [-List.map_take, -List.map_drop, go_sem, hwf0, hwb]
          obtain rfl : i2 = r := by omega
          have hwl3 : (bldF A i2 [.str [], .str []] fillBind.C i2).length = c := by rw [bldF_len (by omega)]; omega
          have hwsl : slV [some ⟨bldF A i2 [.str [], .str []] fillBind.C i2, 2, 152, true, false⟩] 2 (.ref 0 c 0 c (some c)) none (some (.int .i64 (l.es.length : Int))) none = .ob True (.ref 0 c 0 l.es.length (some c)) := sl_own rfl hwl3 (by omega)
          simp -implicitDefEqProofs [-List.map_take, -List.map_drop, go_sem, hwsl]
          refine end_ref (o := 0) (c := c) (k := l.es.length) (es := bldF A i2 [.str [], .str []] fillBind.C i2) (sz := 2) (ty := 152) (arr := true) (frz := false) (by simp) (by simp [go_sem]) (by simp [go_sem]) hwl3 (bldF_pure hA hz hfp) ?_
          rw [bldF_full, ← hAl, List.take_left, List.drop_left]
  · have h1 := hcase hb
    subst h1
    simp at hb
    obtain ⟨rfl, hb⟩ := hb
    have hbt : ((l.es.length : Int) == 0) = true := by simp [hb]
    simp -implicitDefEqProofs [-List.map_take, -List.map_drop, go_sem, hbt]
    repeat' first
      | ((first | refine gv_split (fun h => ?_) (fun h => ?_) | refine cnd_split (fun h => ?_) (fun h => ?_) | refine cgv_split (fun h => ?_) (fun h => ?_)) <;> (try (have hp := h; simp at hp)) <;> simp -implicitDefEqProofs [-List.map_take, -List.map_drop, go_sem, h, hbt])
      | (refine And.intro (by first | omega | (simp only [maxLen]; omega) | (simp_all; done) | (simp_all; omega)) ?_; try simp -implicitDefEqProofs [-List.map_take, -List.map_drop, go_sem, hbt])
      | (refine run_dreg' (by decide) ?_; simp -implicitDefEqProofs [-List.map_take, -List.map_drop, go_sem, hbt])
      | ((first | refine end_tup _ (by simp) (by simp [go_sem]; rfl) (by simp [go_sem]) ?_); first | (simp [go_sem, *]; done) | grind | (simp [go_sem]; grind) | (simp_all [go_sem]; done) | (simp_all [go_sem]; omega))
def toExprS_L1 (l : Sl LExpr) (bare : Bool) (A : List (List PV)) (c : Nat) (i : Nat) (_ : Unit) : St := ⟨lk [(0, l.I LExpr.C), (1, .bool bare), (5, .ref 0 c 0 c (some c)), (6, .int .i64 i)], [some ⟨bldE A c [.int .i64 0, .int .i64 0, .str [], .imm [] [] true] i, 4, 31, true, false⟩], []⟩
def toExprS_L2 (l : Sl LExpr) (A : List (List PV)) (c r : Nat) (j : Nat) (_ : Unit) : St := ⟨lk [(0, l.I LExpr.C), (5, .ref 0 c 0 c (some c)), (7, .int .i64 ((l.es.length : Int) + (j : Int)))], [some ⟨bldF A r [.int .i64 0, .int .i64 0, .str [], .imm [] [] true] fillExpr.C j, 4, 31, true, false⟩], []⟩
def mf_laws_toExprS : MF := ⟨52, [(.t 4)], (.seq (.reg [⟨(some 4), (.mov (.c (.imm [] [] true))), none⟩]) (.seq (.seq (.reg [⟨(some 8), (.mov (.t 1)), none⟩, ⟨(some 9), (.mov (.t 8)), none⟩, ⟨(some 10), (.mov (.t 0)), (some (9, true))⟩, ⟨(some 11), (.lenl (.t 10)), (some (9, true))⟩, ⟨(some 12), (.bin .eql (.t 11) (.c (.int .i64 0))), (some (9, true))⟩, ⟨(some 13), (.pick (.t 9) (.t 12) (.c (.bool false))), none⟩]) (.cond (.t 13) (.seq (.reg [⟨(some 4), (.mov (.c (.imm [] [] true))), none⟩]) .ret) .skip)) (.seq (.reg [⟨(some 14), (.mov (.t 0)), none⟩, ⟨(some 15), (.lenl (.t 14)), none⟩, ⟨(some 16), (.mov (.t 0)), none⟩, ⟨(some 17), (.lenl (.t 16)), none⟩, ⟨(some 18), (.call (.c (.fn 47 [])) [(.t 17)]), none⟩, ⟨(some 19), (.bin .add (.t 15) (.t 18)), none⟩, ⟨(some 20), (.mks 31 4 56 [(.int .i64 0), (.int .i64 0), (.str []), (.imm [] [] true)] (.t 19) (.t 19)), none⟩, ⟨(some 5), (.mov (.t 20)), none⟩]) (.seq (.seq (.reg [⟨(some 6), (.mov (.c (.int .i64 0))), none⟩]) (.blk 0 (.loop (.seq (.seq (.reg [⟨(some 21), (.mov (.t 6)), none⟩, ⟨(some 22), (.mov (.t 0)), none⟩, ⟨(some 23), (.lenl (.t 22)), none⟩, ⟨(some 24), (.bin .lss (.t 21) (.t 23)), none⟩]) (.cond (.t 24) .skip (.exit 0))) (.seq (.blk 1 (.reg [⟨(some 27), (.mov (.t 5)), none⟩, ⟨(some 28), (.mov (.t 6)), none⟩, ⟨(some 29), (.mov (.t 0)), none⟩, ⟨(some 30), (.mov (.t 6)), none⟩, ⟨(some 31), (.iadr 4 (.t 29) (.t 30)), none⟩, ⟨(some 32), (.load true 4 (.t 31)), none⟩, ⟨(some 33), (.mov (.t 1)), none⟩, ⟨(some 34), (.call (.c (.fn 261 [])) [(.t 32), (.t 33)]), none⟩, ⟨(some 35), (.iadr 4 (.t 27) (.t 28)), none⟩, ⟨none, (.store 4 (.t 35) (.t 34)), none⟩])) (.reg [⟨(some 25), (.mov (.t 6)), none⟩, ⟨(some 26), (.bin .add (.t 25) (.c (.int .i64 1))), none⟩, ⟨(some 6), (.mov (.t 26)), none⟩])))))) (.seq (.seq (.reg [⟨(some 36), (.mov (.t 0)), none⟩, ⟨(some 37), (.lenl (.t 36)), none⟩, ⟨(some 7), (.mov (.t 37)), none⟩]) (.blk 2 (.loop (.seq (.seq (.reg [⟨(some 38), (.mov (.t 7)), none⟩, ⟨(some 39), (.mov (.t 5)), none⟩, ⟨(some 40), (.lenl (.t 39)), none⟩, ⟨(some 41), (.bin .lss (.t 38) (.t 40)), none⟩]) (.cond (.t 41) .skip (.exit 2))) (.seq (.blk 3 (.reg [⟨(some 44), (.mov (.t 5)), none⟩, ⟨(some 45), (.mov (.t 7)), none⟩, ⟨(some 46), (.call (.c (.fn 210 [])) []), none⟩, ⟨(some 47), (.iadr 4 (.t 44) (.t 45)), none⟩, ⟨none, (.store 4 (.t 47) (.t 46)), none⟩])) (.reg [⟨(some 42), (.mov (.t 7)), none⟩, ⟨(some 43), (.bin .add (.t 42) (.c (.int .i64 1))), none⟩, ⟨(some 7), (.mov (.t 43)), none⟩])))))) (.seq (.reg [⟨(some 48), (.mov (.t 5)), none⟩, ⟨(some 49), (.mov (.t 0)), none⟩, ⟨(some 50), (.lenl (.t 49)), none⟩, ⟨(some 51), (.sl 4 (.t 48) none (some (.t 50)) none), none⟩, ⟨(some 4), (.mov (.t 51)), none⟩]) .ret))))))⟩
theorem fit_laws_toExprS : Fit Tryz.prog 295 Tryz.f295 mf_laws_toExprS := ⟨by kernel_rfl, Tryz.func295, by kernel_rfl, by kernel_rfl, by kernel_rfl, by kernel_rfl⟩
theorem toExprS_ct (l : Sl LExpr) (bare : Bool) (hl : l.es.length ≤ 1000000) (tf : LExpr → LExpr) (hg : ∀ a, a ∈ l.es → Ct Tryz.prog 261 [.agg a.C, .bool bare] (.agg (tf a).C)) :
    Ct Tryz.prog 295 [l.I LExpr.C, .bool bare] ((toS LExpr.C fillExpr bare (l.es.map tf)).I LExpr.C) := by
  obtain ⟨Y, hY⟩ : ∃ Y, Y = (toS LExpr.C fillExpr bare (l.es.map tf)).I LExpr.C := ⟨_, rfl⟩
  rw [← hY]
  refine ct_of_run fit_laws_toExprS (by simp [mf_laws_toExprS]) (by simp [go_sem]) fun hd => ?_
  simp -implicitDefEqProofs [-List.map_take, -List.map_drop, go_sem, mf_laws_toExprS]
  have hm : l.es.length ≤ maxLen := sl_deep hd.1
  have hA : ∀ e, e ∈ l.es.map (fun x => (tf x).C) → pureL e = true := by
    intro e he
    obtain ⟨x, _, rfl⟩ := List.mem_map.1 he
    exact LExpr.C_pure _
  obtain ⟨A, hAe⟩ : ∃ A, A = l.es.map (fun x => (tf x).C) := ⟨_, rfl⟩
  have hAl : A.length = l.es.length := by rw [hAe, List.length_map]
  have hAg : ∀ (i : Nat) (h : i < l.es.length), A[i]'(by omega) = (tf l.es[i]).C := fun i h => by subst hAe; simp
  rw [← hAe] at hA
  have hrl := room_le l.es.length
  have hcase : (bare && l.es.length == 0) = true → Y = .imm [] [] true := fun h => by
    rw [hY]; simp only [toS, List.length_map, h, if_true, Sl.I, List.map_nil]
  have hcase2 : (bare && l.es.length == 0) = false → Y = .imm A (List.replicate (room l.es.length) fillExpr.C) true := fun h => by
    rw [hY]
    simp only [toS, List.length_map, h, Bool.false_eq_true, if_false, Sl.I, List.map_map, hAe, List.map_replicate]
    rfl
  cases hb : (bare && l.es.length == 0)
  · have h1 := hcase2 hb
    obtain ⟨r, hr⟩ : ∃ r, r = room l.es.length := ⟨_, rfl⟩
    obtain ⟨c, hc⟩ : ∃ c, c = l.es.length + r := ⟨_, rfl⟩
    rw [← hr] at hrl h1
    subst h1
    clear hY hcase hcase2
    have hw0 : IntKind.i64.wrap ((l.es.length : Int) + (r : Int)) = (c : Int) := by rw [wrap_small (by omega) (by omega)]; omega
    have hrm := room_ct l.es.length
    rw [← hr] at hrm
    have hz : pureL [.int .i64 0, .int .i64 0, .str [], .imm [] [] true] = true := rfl
    have hfp : pureL fillExpr.C = true := LExpr.C_pure _
    have hbnd : c * 1000 ≤ 140737488355328 := by omega
    cases bare
    · try simp only [Bool.true_and, beq_eq_false_iff_ne, ne_eq] at hb
      have hbz : ((l.es.length : Int) == 0) = decide (l.es.length = 0) := by rw [Bool.eq_iff_iff]; simp
      simp -implicitDefEqProofs [-List.map_take, -List.map_drop, go_sem]
      repeat' first
        | ((first | refine gv_split (fun h => ?_) (fun h => ?_) | refine cnd_split (fun h => ?_) (fun h => ?_) | refine cgv_split (fun h => ?_) (fun h => ?_)) <;> (try (have hp := h; simp at hp)) <;> simp -implicitDefEqProofs [-List.map_take, -List.map_drop, go_sem, h, hw0, hb, hbz])
        | (refine And.intro (by first | omega | (simp only [maxLen]; omega) | (simp_all; done) | (simp_all; omega)) ?_; try simp -implicitDefEqProofs [-List.map_take, -List.map_drop, go_sem, hw0, hb, hbz])
        | ((first | refine stp_ct (hrm) (by simp [go_sem, hw0, hb, hbz]) ?_ ?_ | refine cstp_ct (hrm) (by simp [go_sem, hw0, hb, hbz]) ?_ ?_); (simp [go_sem]); simp -implicitDefEqProofs [-List.map_take, -List.map_drop, go_sem, hw0, hb, hbz])
        | (refine run_dreg' (by decide) ?_; simp -implicitDefEqProofs [-List.map_take, -List.map_drop, go_sem, hw0, hb, hbz])
        | ((first | refine end_tup _ (by simp) (by simp [go_sem]; rfl) (by simp [go_sem]) ?_); first | (simp [go_sem, *]; done) | grind | (simp [go_sem]; grind) | (simp_all [go_sem]; done) | (simp_all [go_sem]; omega))
      refine run_iter (l.es.length) (toExprS_L1 l false A c) (fun i a => True) () (gh_auto (by simp [go_sem, toExprS_L1, bldE_zero])) (by first | (simp; done) | (simp []; done) | (simp []; omega) | grind) ?_
      intro i a hi hj
      simp -implicitDefEqProofs [-List.map_take, -List.map_drop, go_sem, toExprS_L1, bldE_zero]
      refine cnd_split (fun hc => ?_) (fun hc => ?_)
      · have hlt : i < l.es.length := by first | (simpa using hc) | (simp at hc; omega)
        simp -implicitDefEqProofs [-List.map_take, -List.map_drop, go_sem, hlt, bldE_zero]
        have hwl : (bldE A c [.int .i64 0, .int .i64 0, .str [], .imm [] [] true] i).length = c := bldE_len (by omega) (by omega)
        have hwg : (bldE A c [.int .i64 0, .int .i64 0, .str [], .imm [] [] true] i)[i]? = some [.int .i64 0, .int .i64 0, .str [], .imm [] [] true] := bldE_get (by omega) (by omega)
        have hws : (bldE A c [.int .i64 0, .int .i64 0, .str [], .imm [] [] true] i).set i (tf l.es[i]).C = bldE A c [.int .i64 0, .int .i64 0, .str [], .imm [] [] true] (i + 1) := by rw [← hAg i hlt]; exact bldE_set (by omega) (by omega)
        have hwb : ∀ m, ((bldE A c [.int .i64 0, .int .i64 0, .str [], .imm [] [] true] (i + 1)).all fun e => e.all (bdV m)) = true := bld_bd (bldE_pure hA hz)
        have hlc : (i : Int) < (c : Int) := by omega
        have hgi := hg l.es[i] (List.getElem_mem hlt)
        repeat' first
          | ((first | refine gv_split (fun h => ?_) (fun h => ?_) | refine cnd_split (fun h => ?_) (fun h => ?_) | refine cgv_split (fun h => ?_) (fun h => ?_)) <;> (try (have hp := h; simp at hp)) <;> simp -implicitDefEqProofs [-List.map_take, -List.map_drop, go_sem, h, hlt, hwl, hlc, hwg, hws, hwb])
          | (refine And.intro (by first | omega | (simp only [maxLen]; omega) | (simp_all; done) | (simp_all; omega)) ?_; try simp -implicitDefEqProofs [-List.map_take, -List.map_drop, go_sem, hlt, hwl, hlc, hwg, hws, hwb])
          | ((first | refine stp_ct (hgi) (by simp [go_sem, hlt, hwl, hlc, hwg, hws, hwb]) ?_ ?_ | refine cstp_ct (hgi) (by simp [go_sem, hlt, hwl, hlc, hwg, hws, hwb]) ?_ ?_); (simp [go_sem]); simp -implicitDefEqProofs [-List.map_take, -List.map_drop, go_sem, hlt, hwl, hlc, hwg, hws, hwb])
          | (refine run_dreg' (by decide) ?_; simp -implicitDefEqProofs [-List.map_take, -List.map_drop, go_sem, hlt, hwl, hlc, hwg, hws, hwb])
          | ((first | refine kx_next () hlt (gh_auto (by simp [go_sem, toExprS_L1, wrap_succ hlt hm, hlt, hwl, hlc, hwg, hws, hwb])) ?_ | refine end_tup _ (by simp) (by simp [go_sem]; rfl) (by simp [go_sem]) ?_); first | (simp [go_sem, *]; done) | grind | (simp [go_sem]; grind) | (simp_all [go_sem]; done) | (simp_all [go_sem]; omega))
      · have hge : l.es.length ≤ i := by first | (simpa using hc) | (simp at hc; omega)
        try simp -implicitDefEqProofs [-List.map_take, -List.map_drop, go_sem, bldE_zero]
        obtain rfl : i = l.es.length := by omega
        have hwf0 : bldF A r [.int .i64 0, .int .i64 0, .str [], .imm [] [] true] fillExpr.C 0 = bldE A c [.int .i64 0, .int .i64 0, .str [], .imm [] [] true] l.es.length := by rw [← hAl]; exact bldF_zero (by omega)
        have hwb : ∀ m, ((bldE A c [.int .i64 0, .int .i64 0, .str [], .imm [] [] true] l.es.length).all fun e => e.all (bdV m)) = true := bld_bd (bldE_pure hA hz)
        refine run_iter (r) (toExprS_L2 l A c r) (fun i2 a2 => True) () (gh_auto (by simp [go_sem, toExprS_L2, hwf0, hwb])) (by first | (simp; done) | (simp []; done) | (simp []; omega) | grind) ?_
        intro i2 a2 hi2 hj2
        simp -implicitDefEqProofs [-List.map_take, -List.map_drop, go_sem, toExprS_L2, hwf0, hwb]
        refine cnd_split (fun hc2 => ?_) (fun hc2 => ?_)
        · have hlt2 : i2 < r := by first | (simpa using hc2) | (simp at hc2; omega)
          simp -implicitDefEqProofs [-List.map_take, -List.map_drop, go_sem, hlt2, hwf0, hwb]
          have hwl2 : (bldF A r [.int .i64 0, .int .i64 0, .str [], .imm [] [] true] fillExpr.C i2).length = c := by rw [bldF_len (by omega)]; omega
          have hwg2 : (bldF A r [.int .i64 0, .int .i64 0, .str [], .imm [] [] true] fillExpr.C i2)[l.es.length + i2]? = some [.int .i64 0, .int .i64 0, .str [], .imm [] [] true] := by rw [← hAl]; exact bldF_get (by omega)
          have hws2 : (bldF A r [.int .i64 0, .int .i64 0, .str [], .imm [] [] true] fillExpr.C i2).set (l.es.length + i2) fillExpr.C = bldF A r [.int .i64 0, .int .i64 0, .str [], .imm [] [] true] fillExpr.C (i2 + 1) := by rw [← hAl]; exact bldF_set (by omega)
          have hwb2 : ∀ m, ((bldF A r [.int .i64 0, .int .i64 0, .str [], .imm [] [] true] fillExpr.C (i2 + 1)).all fun e => e.all (bdV m)) = true := bld_bd (bldF_pure hA hz hfp)
          have hlc2 : (0 : Int) ≤ (l.es.length : Int) + (i2 : Int) ∧ (l.es.length : Int) + (i2 : Int) < (c : Int) := by omega
          have hwt2 : ((l.es.length : Int) + (i2 : Int)).toNat = l.es.length + i2 := by omega
          have hwi2 : IntKind.i64.wrap ((l.es.length : Int) + (i2 : Int) + 1) = (l.es.length : Int) + ((i2 : Int) + 1) := by rw [wrap_small (by omega) (by omega)]; omega
          have hm2 : r ≤ maxLen := by simp only [maxLen]; omega
          repeat' first
            | ((first | refine gv_split (fun h => ?_) (fun h => ?_) | refine cnd_split (fun h => ?_) (fun h => ?_) | refine cgv_split (fun h => ?_) (fun h => ?_)) <;> (try (have hp := h; simp at hp)) <;> simp -implicitDefEqProofs [-List.map_take, -List.map_drop, go_sem, h, hlt2, hwl2, hlc2, hwt2, hwg2, hws2, hwb2, hwi2])
            | (refine And.intro (by first | omega | (simp only [maxLen]; omega) | (simp_all; done) | (simp_all; omega)) ?_; try simp -implicitDefEqProofs [-List.map_take, -List.map_drop, go_sem, hlt2, hwl2, hlc2, hwt2, hwg2, hws2, hwb2, hwi2])
            | ((first | refine stp_ct (fillExpr_ct) (by simp [go_sem, hlt2, hwl2, hlc2, hwt2, hwg2, hws2, hwb2, hwi2]) ?_ ?_ | refine cstp_ct (fillExpr_ct) (by simp [go_sem, hlt2, hwl2, hlc2, hwt2, hwg2, hws2, hwb2, hwi2]) ?_ ?_); (simp [go_sem]); simp -implicitDefEqProofs [-List.map_take, -List.map_drop, go_sem, hlt2, hwl2, hlc2, hwt2, hwg2, hws2, hwb2, hwi2])
            | (refine run_dreg' (by decide) ?_; simp -implicitDefEqProofs [-List.map_take, -List.map_drop, go_sem, hlt2, hwl2, hlc2, hwt2, hwg2, hws2, hwb2, hwi2])
            | ((first | refine kx_next () hlt2 (gh_auto (by simp [go_sem, toExprS_L2, wrap_succ hlt2 hm2, hlt2, hwl2, hlc2, hwt2, hwg2, hws2, hwb2, hwi2])) ?_ | refine end_tup _ (by simp) (by simp [go_sem]; rfl) (by simp [go_sem]) ?_); first | (simp [go_sem, *]; done) | grind | (simp [go_sem]; grind) | (simp_all [go_sem]; done) | (simp_all [go_sem]; omega))
        · have hge2 : r ≤ i2 := by first | (simpa using hc2) | (simp at hc2; omega)
          try simp -implicitDefEqProofs [-List.map_take, -List.map_drop, go_sem, hwf0, hwb]
          obtain rfl : i2 = r := by omega
          have hwl3 : (bldF A i2 [.int .i64 0, .int .i64 0, .str [], .imm [] [] true] fillExpr.C i2).length = c := by rw [bldF_len (by omega)]; omega
          have hwsl : slV [some ⟨bldF A i2 [.int .i64 0, .int .i64 0, .str [], .imm [] [] true] fillExpr.C i2, 4, 31, true, false⟩] 4 (.ref 0 c 0 c (some c)) none (some (.int .i64 (l.es.length : Int))) none = .ob True (.ref 0 c 0 l.es.length (some c)) := sl_own rfl hwl3 (by omega)
          simp -implicitDefEqProofs [-List.map_take, -List.map_drop, go_sem, hwsl]
          refine end_ref (o := 0) (c := c) (k := l.es.length) (es := bldF A i2 [.int .i64 0, .int .i64 0, .str [], .imm [] [] true] fillExpr.C i2) (sz := 4) (ty := 31) (arr := true) (frz := false) (by simp) (by simp [go_sem]) (by simp [go_sem]) hwl3 (bldF_pure hA hz hfp) ?_
          rw [bldF_full, ← hAl, List.take_left, List.drop_left]
    · try simp only [Bool.true_and, beq_eq_false_iff_ne, ne_eq] at hb
      have hbz : ((l.es.length : Int) == 0) = decide (l.es.length = 0) := by rw [Bool.eq_iff_iff]; simp
      simp -implicitDefEqProofs [-List.map_take, -List.map_drop, go_sem]
      repeat' first
        | ((first | refine gv_split (fun h => ?_) (fun h => ?_) | refine cnd_split (fun h => ?_) (fun h => ?_) | refine cgv_split (fun h => ?_) (fun h => ?_)) <;> (try (have hp := h; simp at hp)) <;> simp -implicitDefEqProofs [-List.map_take, -List.map_drop, go_sem, h, hw0, hb, hbz])
        | (refine And.intro (by first | omega | (simp only [maxLen]; omega) | (simp_all; done) | (simp_all; omega)) ?_; try simp -implicitDefEqProofs [-List.map_take, -List.map_drop, go_sem, hw0, hb, hbz])
        | ((first | refine stp_ct (hrm) (by simp [go_sem, hw0, hb, hbz]) ?_ ?_ | refine cstp_ct (hrm) (by simp [go_sem, hw0, hb, hbz]) ?_ ?_); (simp [go_sem]); simp -implicitDefEqProofs [-List.map_take, -List.map_drop, go_sem, hw0, hb, hbz])
        | (refine run_dreg' (by decide) ?_; simp -implicitDefEqProofs [-List.map_take, -List.map_drop, go_sem, hw0, hb, hbz])
        | ((first | refine end_tup _ (by simp) (by simp [go_sem]; rfl) (by simp [go_sem]) ?_); first | (simp [go_sem, *]; done) | grind | (simp [go_sem]; grind) | (simp_all [go_sem]; done) | (simp_all [go_sem]; omega))
      refine run_iter (l.es.length) (toExprS_L1 l true A c) (fun i a => True) () (gh_auto (by simp [go_sem, toExprS_L1, bldE_zero])) (by first | (simp; done) | (simp []; done) | (simp []; omega) | grind) ?_
      intro i a hi hj
      simp -implicitDefEqProofs [-List.map_take, -List.map_drop, go_sem, toExprS_L1, bldE_zero]
      refine cnd_split (fun hc => ?_) (fun hc => ?_)
      · have hlt : i < l.es.length := by first | (simpa using hc) | (simp at hc; omega)
        simp -implicitDefEqProofs [-List.map_take, -List.map_drop, go_sem, hlt, bldE_zero]
        have hwl : (bldE A c [.int .i64 0, .int .i64 0, .str [], .imm [] [] true] i).length = c := bldE_len (by omega) (by omega)
        have hwg : (bldE A c [.int .i64 0, .int .i64 0, .str [], .imm [] [] true] i)[i]? = some [.int .i64 0, .int .i64 0, .str [], .imm [] [] true] := bldE_get (by omega) (by omega)
        have hws : (bldE A c [.int .i64 0, .int .i64 0, .str [], .imm [] [] true] i).set i (tf l.es[i]).C = bldE A c [.int .i64 0, .int .i64 0, .str [], .imm [] [] true] (i + 1) := by rw [← hAg i hlt]; exact bldE_set (by omega) (by omega)
        have hwb : ∀ m, ((bldE A c [.int .i64 0, .int .i64 0, .str [], .imm [] [] true] (i + 1)).all fun e => e.all (bdV m)) = true := bld_bd (bldE_pure hA hz)
        have hlc : (i : Int) < (c : Int) := by omega
        have hgi := hg l.es[i] (List.getElem_mem hlt)
        repeat' first
          | ((first | refine gv_split (fun h => ?_) (fun h => ?_) | refine cnd_split (fun h => ?_) (fun h => ?_) | refine cgv_split (fun h => ?_) (fun h => ?_)) <;> (try (have hp := h; simp at hp)) <;> simp -implicitDefEqProofs [-List.map_take, -List.map_drop, go_sem, h, hlt, hwl, hlc, hwg, hws, hwb])
          | (refine And.intro (by first | omega | (simp only [maxLen]; omega) | (simp_all; done) | (simp_all; omega)) ?_; try simp -implicitDefEqProofs [-List.map_take, -List.map_drop, go_sem, hlt, hwl, hlc, hwg, hws, hwb])
          | ((first | refine stp_ct (hgi) (by simp [go_sem, hlt, hwl, hlc, hwg, hws, hwb]) ?_ ?_ | refine cstp_ct (hgi) (by simp [go_sem, hlt, hwl, hlc, hwg, hws, hwb]) ?_ ?_); (simp [go_sem]); simp -implicitDefEqProofs [-List.map_take, -List.map_drop, go_sem, hlt, hwl, hlc, hwg, hws, hwb])
          | (refine run_dreg' (by decide) ?_; simp -implicitDefEqProofs [-List.map_take, -List.map_drop, go_sem, hlt, hwl, hlc, hwg, hws, hwb])
          | ((first | refine kx_next () hlt (gh_auto (by simp [go_sem, toExprS_L1, wrap_succ hlt hm, hlt, hwl, hlc, hwg, hws, hwb])) ?_ | refine end_tup _ (by simp) (by simp [go_sem]; rfl) (by simp [go_sem]) ?_); first | (simp [go_sem, *]; done) | grind | (simp [go_sem]; grind) | (simp_all [go_sem]; done) | (simp_all [go_sem]; omega))
      · have hge : l.es.length ≤ i := by first | (simpa using hc) | (simp at hc; omega)
        try simp -implicitDefEqProofs [-List.map_take, -List.map_drop, go_sem, bldE_zero]
        obtain rfl : i = l.es.length := by omega
        have hwf0 : bldF A r [.int .i64 0, .int .i64 0, .str [], .imm [] [] true] fillExpr.C 0 = bldE A c [.int .i64 0, .int .i64 0, .str [], .imm [] [] true] l.es.length := by rw [← hAl]; exact bldF_zero (by omega)
        have hwb : ∀ m, ((bldE A c [.int .i64 0, .int .i64 0, .str [], .imm [] [] true] l.es.length).all fun e => e.all (bdV m)) = true := bld_bd (bldE_pure hA hz)
        refine run_iter (r) (toExprS_L2 l A c r) (fun i2 a2 => True) () (gh_auto (by simp [go_sem, toExprS_L2, hwf0, hwb])) (by first | (simp; done) | (simp []; done) | (simp []; omega) | grind) ?_
        intro i2 a2 hi2 hj2
        simp -implicitDefEqProofs [-List.map_take, -List.map_drop, go_sem, toExprS_L2, hwf0, hwb]
        refine cnd_split (fun hc2 => ?_) (fun hc2 => ?_)
        · have hlt2 : i2 < r := by first | (simpa using hc2) | (simp at hc2; omega)
          simp -implicitDefEqProofs [-List.map_take, -List.map_drop, go_sem, hlt2, hwf0, hwb]
          have hwl2 : (bldF A r [.int .i64 0, .int .i64 0, .str [], .imm [] [] true] fillExpr.C i2).length = c := by rw [bldF_len (by omega)]; omega
          have hwg2 : (bldF A r [.int .i64 0, .int .i64 0, .str [], .imm [] [] true] fillExpr.C i2)[l.es.length + i2]? = some [.int .i64 0, .int .i64 0, .str [], .imm [] [] true] := by rw [← hAl]; exact bldF_get (by omega)
          have hws2 : (bldF A r [.int .i64 0, .int .i64 0, .str [], .imm [] [] true] fillExpr.C i2).set (l.es.length + i2) fillExpr.C = bldF A r [.int .i64 0, .int .i64 0, .str [], .imm [] [] true] fillExpr.C (i2 + 1) := by rw [← hAl]; exact bldF_set (by omega)
          have hwb2 : ∀ m, ((bldF A r [.int .i64 0, .int .i64 0, .str [], .imm [] [] true] fillExpr.C (i2 + 1)).all fun e => e.all (bdV m)) = true := bld_bd (bldF_pure hA hz hfp)
          have hlc2 : (0 : Int) ≤ (l.es.length : Int) + (i2 : Int) ∧ (l.es.length : Int) + (i2 : Int) < (c : Int) := by omega
          have hwt2 : ((l.es.length : Int) + (i2 : Int)).toNat = l.es.length + i2 := by omega
          have hwi2 : IntKind.i64.wrap ((l.es.length : Int) + (i2 : Int) + 1) = (l.es.length : Int) + ((i2 : Int) + 1) := by rw [wrap_small (by omega) (by omega)]; omega
          have hm2 : r ≤ maxLen := by simp only [maxLen]; omega
          repeat' first
            | ((first | refine gv_split (fun h => ?_) (fun h => ?_) | refine cnd_split (fun h => ?_) (fun h => ?_) | refine cgv_split (fun h => ?_) (fun h => ?_)) <;> (try (have hp := h; simp at hp)) <;> simp -implicitDefEqProofs [-List.map_take, -List.map_drop, go_sem, h, hlt2, hwl2, hlc2, hwt2, hwg2, hws2, hwb2, hwi2])
            | (refine And.intro (by first | omega | (simp only [maxLen]; omega) | (simp_all; done) | (simp_all; omega)) ?_; try simp -implicitDefEqProofs [-List.map_take, -List.map_drop, go_sem, hlt2, hwl2, hlc2, hwt2, hwg2, hws2, hwb2, hwi2])
            | ((first | refine stp_ct (fillExpr_ct) (by simp [go_sem, hlt2, hwl2, hlc2, hwt2, hwg2, hws2, hwb2, hwi2]) ?_ ?_ | refine cstp_ct (fillExpr_ct) (by simp [go_sem, hlt2, hwl2, hlc2, hwt2, hwg2, hws2, hwb2, hwi2]) ?_ ?_); (simp [go_sem]); simp -implicitDefEqProofs [-List.map_take, -List.map_drop, go_sem, hlt2, hwl2, hlc2, hwt2, hwg2, hws2, hwb2, hwi2])
            | (refine run_dreg' (by decide) ?_; simp -implicitDefEqProofs [-List.map_take, -List.map_drop, go_sem, hlt2, hwl2, hlc2, hwt2, hwg2, hws2, hwb2, hwi2])
            | ((first | refine kx_next () hlt2 (gh_auto (by simp [go_sem, toExprS_L2, wrap_succ hlt2 hm2, hlt2, hwl2, hlc2, hwt2, hwg2, hws2, hwb2, hwi2])) ?_ | refine end_tup _ (by simp) (by simp [go_sem]; rfl) (by simp [go_sem]) ?_); first | (simp [go_sem, *]; done) | grind | (simp [go_sem]; grind) | (simp_all [go_sem]; done) | (simp_all [go_sem]; omega))
        · have hge2 : r ≤ i2 := by first | (simpa using hc2) | (simp at hc2; omega)
          try simp -implicitDefEqProofs [-List.map_take, -List.map_drop, go_sem, hwf0, hwb]
          obtain rfl : i2 = r := by omega
          have hwl3 : (bldF A i2 [.int .i64 0, .int .i64 0, .str [], .imm [] [] true] fillExpr.C i2).length = c := by rw [bldF_len (by omega)]; omega
          have hwsl : slV [some ⟨bldF A i2 [.int .i64 0, .int .i64 0, .str [], .imm [] [] true] fillExpr.C i2, 4, 31, true, false⟩] 4 (.ref 0 c 0 c (some c)) none (some (.int .i64 (l.es.length : Int))) none = .ob True (.ref 0 c 0 l.es.length (some c)) := sl_own rfl hwl3 (by omega)
          simp -implicitDefEqProofs [-List.map_take, -List.map_drop, go_sem, hwsl]
          refine end_ref (o := 0) (c := c) (k := l.es.length) (es := bldF A i2 [.int .i64 0, .int .i64 0, .str [], .imm [] [] true] fillExpr.C i2) (sz := 4) (ty := 31) (arr := true) (frz := false) (by simp) (by simp [go_sem]) (by simp [go_sem]) hwl3 (bldF_pure hA hz hfp) ?_
          rw [bldF_full, ← hAl, List.take_left, List.drop_left]
  · have h1 := hcase hb
    subst h1
    simp at hb
    obtain ⟨rfl, hb⟩ := hb
    have hbt : ((l.es.length : Int) == 0) = true := by simp [hb]
    simp -implicitDefEqProofs [-List.map_take, -List.map_drop, go_sem, hbt]
    repeat' first
      | ((first | refine gv_split (fun h => ?_) (fun h => ?_) | refine cnd_split (fun h => ?_) (fun h => ?_) | refine cgv_split (fun h => ?_) (fun h => ?_)) <;> (try (have hp := h; simp at hp)) <;> simp -implicitDefEqProofs [-List.map_take, -List.map_drop, go_sem, h, hbt])
      | (refine And.intro (by first | omega | (simp only [maxLen]; omega) | (simp_all; done) | (simp_all; omega)) ?_; try simp -implicitDefEqProofs [-List.map_take, -List.map_drop, go_sem, hbt])
      | (refine run_dreg' (by decide) ?_; simp -implicitDefEqProofs [-List.map_take, -List.map_drop, go_sem, hbt])
      | ((first | refine end_tup _ (by simp) (by simp [go_sem]; rfl) (by simp [go_sem]) ?_); first | (simp [go_sem, *]; done) | grind | (simp [go_sem]; grind) | (simp_all [go_sem]; done) | (simp_all [go_sem]; omega))
def mf_laws_toExpr : MF := ⟨21, [(.cell 4 4 true)], (.seq (.reg [⟨(some 2), (.box 183 (.t 0)), none⟩, ⟨(some 4), (.alloc 31 [(.int .i64 0), (.int .i64 0), (.str []), (.imm [] [] true)]), none⟩]) (.seq (.reg [⟨(some 5), (.alloc 31 [(.int .i64 0), (.int .i64 0), (.str []), (.imm [] [] true)]), none⟩]) (.seq (.reg [⟨(some 6), (.fadr 0 (.t 2)), none⟩, ⟨(some 7), (.load false 1 (.t 6)), none⟩, ⟨(some 8), (.fadr 0 (.t 5)), none⟩, ⟨none, (.store 1 (.t 8) (.t 7)), none⟩]) (.seq (.reg [⟨(some 9), (.fadr 1 (.t 2)), none⟩, ⟨(some 10), (.load false 1 (.t 9)), none⟩, ⟨(some 11), (.fadr 1 (.t 5)), none⟩, ⟨none, (.store 1 (.t 11) (.t 10)), none⟩]) (.seq (.reg [⟨(some 12), (.fadr 2 (.t 2)), none⟩, ⟨(some 13), (.load false 1 (.t 12)), none⟩, ⟨(some 14), (.fadr 2 (.t 5)), none⟩, ⟨none, (.store 1 (.t 14) (.t 13)), none⟩]) (.seq (.reg [⟨(some 15), (.fadr 3 (.t 2)), none⟩, ⟨(some 16), (.load false 1 (.t 15)), none⟩, ⟨(some 17), (.mov (.t 1)), none⟩, ⟨(some 18), (.call (.c (.fn 295 [])) [(.t 16), (.t 17)]), none⟩, ⟨(some 19), (.fadr 3 (.t 5)), none⟩, ⟨none, (.store 1 (.t 19) (.t 18)), none⟩]) (.seq (.reg [⟨(some 20), (.load true 4 (.t 5)), none⟩, ⟨none, (.store 4 (.t 4) (.t 20)), none⟩]) .ret)))))))⟩
theorem fit_laws_toExpr : Fit Tryz.prog 261 Tryz.f261 mf_laws_toExpr := ⟨by kernel_rfl, Tryz.func261, by kernel_rfl, by kernel_rfl, by kernel_rfl, by kernel_rfl⟩
theorem toExpr_ct (e : LExpr) (bare : Bool) (hs : e.core.Sm) : Ct Tryz.prog 261 [.agg e.C, .bool bare] (.agg (toE bare e).C) := by
  have hk := toExprS_ct ⟨e.kids, e.sp, e.lim⟩ bare (by have := hs; rw [Expr.Sm_eq] at this; simpa using this.2.1) (toE bare) (fun a ha => toExpr_ct a bare (by obtain ⟨i, hi, rfl⟩ := List.getElem_of_mem ha; exact Expr.Sm_kid hs hi))
  have he : (toE bare e).C = [.int .i64 e.kind, .int .i64 e.num, .str e.text, (toS LExpr.C fillExpr bare (e.kids.map (toE bare))).I LExpr.C] := by
    cases e with
    | mk k n t ks sp lim =>
      rw [LExpr.C_eq]
      simp only [toE, LExpr.kind, LExpr.num, LExpr.text, LExpr.kids, LExpr.sp, LExpr.lim, Sl.I, toS_es, toEs_map]
  rw [he]
  refine ct_of_run fit_laws_toExpr (by simp [mf_laws_toExpr]) (by simp [go_sem]) fun hd => ?_
  simp -implicitDefEqProofs [-List.map_take, -List.map_drop, go_sem, mf_laws_toExpr]
  repeat' first
    | ((first | refine gv_split (fun h => ?_) (fun h => ?_) | refine cnd_split (fun h => ?_) (fun h => ?_) | refine cgv_split (fun h => ?_) (fun h => ?_)) <;> (try (have hp := h; simp at hp)) <;> simp -implicitDefEqProofs [-List.map_take, -List.map_drop, go_sem, h])
    | (refine And.intro (by first | omega | (simp only [maxLen]; omega) | (simp_all; done) | (simp_all; omega)) ?_; try simp -implicitDefEqProofs [-List.map_take, -List.map_drop, go_sem])
    | ((first | refine stp_ct (hk) (by simp [go_sem]) ?_ ?_ | refine cstp_ct (hk) (by simp [go_sem]) ?_ ?_); (simp [go_sem]); simp -implicitDefEqProofs [-List.map_take, -List.map_drop, go_sem])
    | (refine run_dreg' (by decide) ?_; simp -implicitDefEqProofs [-List.map_take, -List.map_drop, go_sem])
    | ((first | refine end_tup _ (by simp) (by simp [go_sem]; rfl) (by simp [go_sem]) ?_); first | (simp [go_sem, *]; done) | grind | (simp [go_sem]; grind) | (simp_all [go_sem]; done) | (simp_all [go_sem]; omega))
termination_by SizeOf.sizeOf e
decreasing_by exact LExpr.kid_lt ha
theorem bindsS_ct (l : Sl Bind) (bare : Bool) (hl : l.es.length ≤ 1000000) : Ct Tryz.prog 260 [l.I Bind.C, .bool bare] ((toS Bind.C fillBind bare l.es).I Bind.C) := by
  have := toBindS_ct l bare hl (fun x => x) (fun a _ => toBind_ct a)
  rwa [List.map_id'] at this
theorem usesS_ct (l : Sl Use) (bare : Bool) (hl : l.es.length ≤ 1000000) : Ct Tryz.prog 123 [l.I Use.C, .bool bare] ((toS Use.C fillUse bare l.es).I Use.C) := by
  have := toUseS_ct l bare hl (fun x => x) (fun a _ => toUse_ct a)
  rwa [List.map_id'] at this
def mf_laws_toDecl : MF := ⟨26, [(.cell 4 8 true)], (.seq (.reg [⟨(some 2), (.box 185 (.t 0)), none⟩, ⟨(some 4), (.alloc 46 [(.int .i64 0), (.str []), (.imm [] [] true), (.str []), (.int .i64 0), (.int .i64 0), (.str []), (.imm [] [] true)]), none⟩]) (.seq (.reg [⟨(some 5), (.alloc 46 [(.int .i64 0), (.str []), (.imm [] [] true), (.str []), (.int .i64 0), (.int .i64 0), (.str []), (.imm [] [] true)]), none⟩]) (.seq (.reg [⟨(some 6), (.fadr 0 (.t 2)), none⟩, ⟨(some 7), (.load false 1 (.t 6)), none⟩, ⟨(some 8), (.fadr 0 (.t 5)), none⟩, ⟨none, (.store 1 (.t 8) (.t 7)), none⟩]) (.seq (.reg [⟨(some 9), (.fadr 1 (.t 2)), none⟩, ⟨(some 10), (.load false 1 (.t 9)), none⟩, ⟨(some 11), (.fadr 1 (.t 5)), none⟩, ⟨none, (.store 1 (.t 11) (.t 10)), none⟩]) (.seq (.reg [⟨(some 12), (.fadr 2 (.t 2)), none⟩, ⟨(some 13), (.load false 1 (.t 12)), none⟩, ⟨(some 14), (.mov (.t 1)), none⟩, ⟨(some 15), (.call (.c (.fn 260 [])) [(.t 13), (.t 14)]), none⟩, ⟨(some 16), (.fadr 2 (.t 5)), none⟩, ⟨none, (.store 1 (.t 16) (.t 15)), none⟩]) (.seq (.reg [⟨(some 17), (.fadr 3 (.t 2)), none⟩, ⟨(some 18), (.load false 1 (.t 17)), none⟩, ⟨(some 19), (.fadr 3 (.t 5)), none⟩, ⟨none, (.store 1 (.t 19) (.t 18)), none⟩]) (.seq (.reg [⟨(some 20), (.fadr 4 (.t 2)), none⟩, ⟨(some 21), (.load true 4 (.t 20)), none⟩, ⟨(some 22), (.mov (.t 1)), none⟩, ⟨(some 23), (.call (.c (.fn 261 [])) [(.t 21), (.t 22)]), none⟩, ⟨(some 24), (.fadr 4 (.t 5)), none⟩, ⟨none, (.store 4 (.t 24) (.t 23)), none⟩]) (.seq (.reg [⟨(some 25), (.load true 8 (.t 5)), none⟩, ⟨none, (.store 8 (.t 4) (.t 25)), none⟩]) .ret))))))))⟩
theorem fit_laws_toDecl : Fit Tryz.prog 208 Tryz.f208 mf_laws_toDecl := ⟨by kernel_rfl, Tryz.func208, by kernel_rfl, by kernel_rfl, by kernel_rfl, by kernel_rfl⟩
theorem toDecl_ct (d : LDecl) (bare : Bool) (hs : d.core.Sm) : Ct Tryz.prog 208 [.agg d.C, .bool bare] (.agg (toD bare d).C) := by
  have h1 := bindsS_ct d.binds bare hs.2.1
  have h2 := toExpr_ct d.body bare hs.2.2.2
  refine ct_of_run fit_laws_toDecl (by simp [mf_laws_toDecl]) (by simp [go_sem]) fun hd => ?_
  simp -implicitDefEqProofs [-List.map_take, -List.map_drop, go_sem, mf_laws_toDecl]
  repeat' first
    | ((first | refine gv_split (fun h => ?_) (fun h => ?_) | refine cnd_split (fun h => ?_) (fun h => ?_) | refine cgv_split (fun h => ?_) (fun h => ?_)) <;> (try (have hp := h; simp at hp)) <;> simp -implicitDefEqProofs [-List.map_take, -List.map_drop, go_sem, h])
    | (refine And.intro (by first | omega | (simp only [maxLen]; omega) | (simp_all; done) | (simp_all; omega)) ?_; try simp -implicitDefEqProofs [-List.map_take, -List.map_drop, go_sem])
    | ((first | refine stp_ct (h1) (by simp [go_sem]) ?_ ?_ | refine cstp_ct (h1) (by simp [go_sem]) ?_ ?_ | refine stp_ct (h2) (by simp [go_sem]) ?_ ?_ | refine cstp_ct (h2) (by simp [go_sem]) ?_ ?_); (simp [go_sem]); simp -implicitDefEqProofs [-List.map_take, -List.map_drop, go_sem])
    | (refine run_dreg' (by decide) ?_; simp -implicitDefEqProofs [-List.map_take, -List.map_drop, go_sem])
    | ((first | refine end_tup _ (by simp) (by simp [go_sem]; rfl) (by simp [go_sem]) ?_); first | (simp [go_sem, *]; done) | grind | (simp [go_sem]; grind) | (simp_all [go_sem]; done) | (simp_all [go_sem]; omega))
  have he := LExpr.C_eq (toE bare d.body)
  refine end_tup [.agg (toD bare d).C] (by simp) ?_ (by simp [go_sem]) rfl
  rw [LDecl.C_eq]
  simp [go_sem, he, toD]
  rfl
def mf_laws_fillerDecl : MF := ⟨5, [(.cell 0 8 true)], (.seq (.reg [⟨(some 0), (.alloc 46 [(.int .i64 0), (.str []), (.imm [] [] true), (.str []), (.int .i64 0), (.int .i64 0), (.str []), (.imm [] [] true)]), none⟩]) (.seq (.reg [⟨(some 1), (.call (.c (.fn 209 [])) []), none⟩, ⟨(some 2), (.bsl 152 2 1 [(.str []), (.str [])] [(0, (.t 1))]), none⟩, ⟨(some 3), (.call (.c (.fn 210 [])) []), none⟩, ⟨(some 4), (.build [(.int .i64 0), (.str []), (.imm [] [] true), (.str []), (.int .i64 0), (.int .i64 0), (.str []), (.imm [] [] true)] [(0, (1, (.c (.int .i64 (-7000000000000000101))))), (1, (1, (.c (.str [126, 115, 112, 97, 114, 101, 126])))), (2, (1, (.t 2))), (3, (1, (.c (.str [126, 115, 112, 97, 114, 101, 126])))), (4, (4, (.t 3)))]), none⟩, ⟨none, (.store 8 (.t 0) (.t 4)), none⟩]) .ret))⟩
theorem fit_laws_fillerDecl : Fit Tryz.prog 126 Tryz.f126 mf_laws_fillerDecl := ⟨by kernel_rfl, Tryz.func126, by kernel_rfl, by kernel_rfl, by kernel_rfl, by kernel_rfl⟩
theorem fillDecl_ct : Ct Tryz.prog 126 [] (.agg fillDecl.C) := by
  refine ct_of_run fit_laws_fillerDecl (by simp [mf_laws_fillerDecl]) (by simp [go_sem]) fun hd => ?_
  simp -implicitDefEqProofs [-List.map_take, -List.map_drop, go_sem, mf_laws_fillerDecl]
  repeat' first
    | ((first | refine gv_split (fun h => ?_) (fun h => ?_) | refine cnd_split (fun h => ?_) (fun h => ?_) | refine cgv_split (fun h => ?_) (fun h => ?_)) <;> (try (have hp := h; simp at hp)) <;> simp -implicitDefEqProofs [-List.map_take, -List.map_drop, go_sem, h])
    | (refine And.intro (by first | omega | (simp only [maxLen]; omega) | (simp_all; done) | (simp_all; omega)) ?_; try simp -implicitDefEqProofs [-List.map_take, -List.map_drop, go_sem])
    | ((first | refine stp_ct (fillBind_ct) (by simp [go_sem]) ?_ ?_ | refine cstp_ct (fillBind_ct) (by simp [go_sem]) ?_ ?_ | refine stp_ct (fillExpr_ct) (by simp [go_sem]) ?_ ?_ | refine cstp_ct (fillExpr_ct) (by simp [go_sem]) ?_ ?_); (simp [go_sem]); simp -implicitDefEqProofs [-List.map_take, -List.map_drop, go_sem])
    | (refine run_dreg' (by decide) ?_; simp -implicitDefEqProofs [-List.map_take, -List.map_drop, go_sem])
    | ((first | refine end_tup _ (by simp) (by simp [go_sem]; rfl) (by simp [go_sem]) ?_); first | (simp [go_sem, *]; done) | grind | (simp [go_sem]; grind) | (simp_all [go_sem]; done) | (simp_all [go_sem]; omega))
  exact end_snapG 3 _ _ (by simp) rfl rfl rfl
theorem toDS_hyp : True := trivial
def toDeclS_L1 (l : Sl LDecl) (bare : Bool) (A : List (List PV)) (c : Nat) (i : Nat) (_ : Unit) : St := ⟨lk [(0, l.I LDecl.C), (1, .bool bare), (5, .ref 0 c 0 c (some c)), (6, .int .i64 i)], [some ⟨bldE A c [.int .i64 0, .str [], .imm [] [] true, .str [], .int .i64 0, .int .i64 0, .str [], .imm [] [] true] i, 8, 46, true, false⟩], []⟩
def toDeclS_L2 (l : Sl LDecl) (A : List (List PV)) (c r : Nat) (j : Nat) (_ : Unit) : St := ⟨lk [(0, l.I LDecl.C), (5, .ref 0 c 0 c (some c)), (7, .int .i64 ((l.es.length : Int) + (j : Int)))], [some ⟨bldF A r [.int .i64 0, .str [], .imm [] [] true, .str [], .int .i64 0, .int .i64 0, .str [], .imm [] [] true] fillDecl.C j, 8, 46, true, false⟩], []⟩
def mf_laws_toDeclS : MF := ⟨52, [(.t 4)], (.seq (.reg [⟨(some 4), (.mov (.c (.imm [] [] true))), none⟩]) (.seq (.seq (.reg [⟨(some 8), (.mov (.t 1)), none⟩, ⟨(some 9), (.mov (.t 8)), none⟩, ⟨(some 10), (.mov (.t 0)), (some (9, true))⟩, ⟨(some 11), (.lenl (.t 10)), (some (9, true))⟩, ⟨(some 12), (.bin .eql (.t 11) (.c (.int .i64 0))), (some (9, true))⟩, ⟨(some 13), (.pick (.t 9) (.t 12) (.c (.bool false))), none⟩]) (.cond (.t 13) (.seq (.reg [⟨(some 4), (.mov (.c (.imm [] [] true))), none⟩]) .ret) .skip)) (.seq (.reg [⟨(some 14), (.mov (.t 0)), none⟩, ⟨(some 15), (.lenl (.t 14)), none⟩, ⟨(some 16), (.mov (.t 0)), none⟩, ⟨(some 17), (.lenl (.t 16)), none⟩, ⟨(some 18), (.call (.c (.fn 47 [])) [(.t 17)]), none⟩, ⟨(some 19), (.bin .add (.t 15) (.t 18)), none⟩, ⟨(some 20), (.mks 46 8 120 [(.int .i64 0), (.str []), (.imm [] [] true), (.str []), (.int .i64 0), (.int .i64 0), (.str []), (.imm [] [] true)] (.t 19) (.t 19)), none⟩, ⟨(some 5), (.mov (.t 20)), none⟩]) (.seq (.seq (.reg [⟨(some 6), (.mov (.c (.int .i64 0))), none⟩]) (.blk 0 (.loop (.seq (.seq (.reg [⟨(some 21), (.mov (.t 6)), none⟩, ⟨(some 22), (.mov (.t 0)), none⟩, ⟨(some 23), (.lenl (.t 22)), none⟩, ⟨(some 24), (.bin .lss (.t 21) (.t 23)), none⟩]) (.cond (.t 24) .skip (.exit 0))) (.seq (.blk 1 (.reg [⟨(some 27), (.mov (.t 5)), none⟩, ⟨(some 28), (.mov (.t 6)), none⟩, ⟨(some 29), (.mov (.t 0)), none⟩, ⟨(some 30), (.mov (.t 6)), none⟩, ⟨(some 31), (.iadr 8 (.t 29) (.t 30)), none⟩, ⟨(some 32), (.load true 8 (.t 31)), none⟩, ⟨(some 33), (.mov (.t 1)), none⟩, ⟨(some 34), (.call (.c (.fn 208 [])) [(.t 32), (.t 33)]), none⟩, ⟨(some 35), (.iadr 8 (.t 27) (.t 28)), none⟩, ⟨none, (.store 8 (.t 35) (.t 34)), none⟩])) (.reg [⟨(some 25), (.mov (.t 6)), none⟩, ⟨(some 26), (.bin .add (.t 25) (.c (.int .i64 1))), none⟩, ⟨(some 6), (.mov (.t 26)), none⟩])))))) (.seq (.seq (.reg [⟨(some 36), (.mov (.t 0)), none⟩, ⟨(some 37), (.lenl (.t 36)), none⟩, ⟨(some 7), (.mov (.t 37)), none⟩]) (.blk 2 (.loop (.seq (.seq (.reg [⟨(some 38), (.mov (.t 7)), none⟩, ⟨(some 39), (.mov (.t 5)), none⟩, ⟨(some 40), (.lenl (.t 39)), none⟩, ⟨(some 41), (.bin .lss (.t 38) (.t 40)), none⟩]) (.cond (.t 41) .skip (.exit 2))) (.seq (.blk 3 (.reg [⟨(some 44), (.mov (.t 5)), none⟩, ⟨(some 45), (.mov (.t 7)), none⟩, ⟨(some 46), (.call (.c (.fn 126 [])) []), none⟩, ⟨(some 47), (.iadr 8 (.t 44) (.t 45)), none⟩, ⟨none, (.store 8 (.t 47) (.t 46)), none⟩])) (.reg [⟨(some 42), (.mov (.t 7)), none⟩, ⟨(some 43), (.bin .add (.t 42) (.c (.int .i64 1))), none⟩, ⟨(some 7), (.mov (.t 43)), none⟩])))))) (.seq (.reg [⟨(some 48), (.mov (.t 5)), none⟩, ⟨(some 49), (.mov (.t 0)), none⟩, ⟨(some 50), (.lenl (.t 49)), none⟩, ⟨(some 51), (.sl 8 (.t 48) none (some (.t 50)) none), none⟩, ⟨(some 4), (.mov (.t 51)), none⟩]) .ret))))))⟩
theorem fit_laws_toDeclS : Fit Tryz.prog 124 Tryz.f124 mf_laws_toDeclS := ⟨by kernel_rfl, Tryz.func124, by kernel_rfl, by kernel_rfl, by kernel_rfl, by kernel_rfl⟩
theorem toDeclS_ct (l : Sl LDecl) (bare : Bool) (hl : l.es.length ≤ 1000000) (tf : LDecl → LDecl) (hg : ∀ a, a ∈ l.es → Ct Tryz.prog 208 [.agg a.C, .bool bare] (.agg (tf a).C)) :
    Ct Tryz.prog 124 [l.I LDecl.C, .bool bare] ((toS LDecl.C fillDecl bare (l.es.map tf)).I LDecl.C) := by
  obtain ⟨Y, hY⟩ : ∃ Y, Y = (toS LDecl.C fillDecl bare (l.es.map tf)).I LDecl.C := ⟨_, rfl⟩
  rw [← hY]
  refine ct_of_run fit_laws_toDeclS (by simp [mf_laws_toDeclS]) (by simp [go_sem]) fun hd => ?_
  simp -implicitDefEqProofs [-List.map_take, -List.map_drop, go_sem, mf_laws_toDeclS]
  have hm : l.es.length ≤ maxLen := sl_deep hd.1
  have hA : ∀ e, e ∈ l.es.map (fun x => (tf x).C) → pureL e = true := by
    intro e he
    obtain ⟨x, _, rfl⟩ := List.mem_map.1 he
    exact LDecl.C_pure _
  obtain ⟨A, hAe⟩ : ∃ A, A = l.es.map (fun x => (tf x).C) := ⟨_, rfl⟩
  have hAl : A.length = l.es.length := by rw [hAe, List.length_map]
  have hAg : ∀ (i : Nat) (h : i < l.es.length), A[i]'(by omega) = (tf l.es[i]).C := fun i h => by subst hAe; simp
  rw [← hAe] at hA
  have hrl := room_le l.es.length
  have hcase : (bare && l.es.length == 0) = true → Y = .imm [] [] true := fun h => by
    rw [hY]; simp only [toS, List.length_map, h, if_true, Sl.I, List.map_nil]
  have hcase2 : (bare && l.es.length == 0) = false → Y = .imm A (List.replicate (room l.es.length) fillDecl.C) true := fun h => by
    rw [hY]
    simp only [toS, List.length_map, h, Bool.false_eq_true, if_false, Sl.I, List.map_map, hAe, List.map_replicate]
    rfl
  cases hb : (bare && l.es.length == 0)
  · have h1 := hcase2 hb
    obtain ⟨r, hr⟩ : ∃ r, r = room l.es.length := ⟨_, rfl⟩
    obtain ⟨c, hc⟩ : ∃ c, c = l.es.length + r := ⟨_, rfl⟩
    rw [← hr] at hrl h1
    subst h1
    clear hY hcase hcase2
    have hw0 : IntKind.i64.wrap ((l.es.length : Int) + (r : Int)) = (c : Int) := by rw [wrap_small (by omega) (by omega)]; omega
    have hrm := room_ct l.es.length
    rw [← hr] at hrm
    have hz : pureL [.int .i64 0, .str [], .imm [] [] true, .str [], .int .i64 0, .int .i64 0, .str [], .imm [] [] true] = true := rfl
    have hfp : pureL fillDecl.C = true := LDecl.C_pure _
    have hbnd : c * 1000 ≤ 140737488355328 := by omega
    cases bare
    · try simp only [Bool.true_and, beq_eq_false_iff_ne, ne_eq] at hb
      have hbz : ((l.es.length : Int) == 0) = decide (l.es.length = 0) := by rw [Bool.eq_iff_iff]; simp
      simp -implicitDefEqProofs [-List.map_take, -List.map_drop, go_sem]
      repeat' first
        | ((first | refine gv_split (fun h => ?_) (fun h => ?_) | refine cnd_split (fun h => ?_) (fun h => ?_) | refine cgv_split (fun h => ?_) (fun h => ?_)) <;> (try (have hp := h; simp at hp)) <;> simp -implicitDefEqProofs [-List.map_take, -List.map_drop, go_sem, h, hw0, hb, hbz])
        | (refine And.intro (by first | omega | (simp only [maxLen]; omega) | (simp_all; done) | (simp_all; omega)) ?_; try simp -implicitDefEqProofs [-List.map_take, -List.map_drop, go_sem, hw0, hb, hbz])
        | ((first | refine stp_ct (hrm) (by simp [go_sem, hw0, hb, hbz]) ?_ ?_ | refine cstp_ct (hrm) (by simp [go_sem, hw0, hb, hbz]) ?_ ?_); (simp [go_sem]); simp -implicitDefEqProofs [-List.map_take, -List.map_drop, go_sem, hw0, hb, hbz])
        | (refine run_dreg' (by decide) ?_; simp -implicitDefEqProofs [-List.map_take, -List.map_drop, go_sem, hw0, hb, hbz])
        | ((first | refine end_tup _ (by simp) (by simp [go_sem]; rfl) (by simp [go_sem]) ?_); first | (simp [go_sem, *]; done) | grind | (simp [go_sem]; grind) | (simp_all [go_sem]; done) | (simp_all [go_sem]; omega))
      refine run_iter (l.es.length) (toDeclS_L1 l false A c) (fun i a => True) () (gh_auto (by simp [go_sem, toDeclS_L1, bldE_zero])) (by first | (simp; done) | (simp []; done) | (simp []; omega) | grind) ?_
      intro i a hi hj
      simp -implicitDefEqProofs [-List.map_take, -List.map_drop, go_sem, toDeclS_L1, bldE_zero]
      refine cnd_split (fun hc => ?_) (fun hc => ?_)
      · have hlt : i < l.es.length := by first | (simpa using hc) | (simp at hc; omega)
        simp -implicitDefEqProofs [-List.map_take, -List.map_drop, go_sem, hlt, bldE_zero]
        have hwl : (bldE A c [.int .i64 0, .str [], .imm [] [] true, .str [], .int .i64 0, .int .i64 0, .str [], .imm [] [] true] i).length = c := bldE_len (by omega) (by omega)
        have hwg : (bldE A c [.int .i64 0, .str [], .imm [] [] true, .str [], .int .i64 0, .int .i64 0, .str [], .imm [] [] true] i)[i]? = some [.int .i64 0, .str [], .imm [] [] true, .str [], .int .i64 0, .int .i64 0, .str [], .imm [] [] true] := bldE_get (by omega) (by omega)
        have hws : (bldE A c [.int .i64 0, .str [], .imm [] [] true, .str [], .int .i64 0, .int .i64 0, .str [], .imm [] [] true] i).set i (tf l.es[i]).C = bldE A c [.int .i64 0, .str [], .imm [] [] true, .str [], .int .i64 0, .int .i64 0, .str [], .imm [] [] true] (i + 1) := by rw [← hAg i hlt]; exact bldE_set (by omega) (by omega)
        have hwb : ∀ m, ((bldE A c [.int .i64 0, .str [], .imm [] [] true, .str [], .int .i64 0, .int .i64 0, .str [], .imm [] [] true] (i + 1)).all fun e => e.all (bdV m)) = true := bld_bd (bldE_pure hA hz)
        have hlc : (i : Int) < (c : Int) := by omega
        have hgi := hg l.es[i] (List.getElem_mem hlt)
        repeat' first
          | ((first | refine gv_split (fun h => ?_) (fun h => ?_) | refine cnd_split (fun h => ?_) (fun h => ?_) | refine cgv_split (fun h => ?_) (fun h => ?_)) <;> (try (have hp := h; simp at hp)) <;> simp -implicitDefEqProofs [-List.map_take, -List.map_drop, go_sem, h, hlt, hwl, hlc, hwg, hws, hwb])
          | (refine And.intro (by first | omega | (simp only [maxLen]; omega) | (simp_all; done) | (simp_all; omega)) ?_; try simp -implicitDefEqProofs [-List.map_take, -List.map_drop, go_sem, hlt, hwl, hlc, hwg, hws, hwb])
          | ((first | refine stp_ct (hgi) (by simp [go_sem, hlt, hwl, hlc, hwg, hws, hwb]) ?_ ?_ | refine cstp_ct (hgi) (by simp [go_sem, hlt, hwl, hlc, hwg, hws, hwb]) ?_ ?_); (simp [go_sem]); simp -implicitDefEqProofs [-List.map_take, -List.map_drop, go_sem, hlt, hwl, hlc, hwg, hws, hwb])
          | (refine run_dreg' (by decide) ?_; simp -implicitDefEqProofs [-List.map_take, -List.map_drop, go_sem, hlt, hwl, hlc, hwg, hws, hwb])
          | ((first | refine kx_next () hlt (gh_auto (by simp [go_sem, toDeclS_L1, wrap_succ hlt hm, hlt, hwl, hlc, hwg, hws, hwb])) ?_ | refine end_tup _ (by simp) (by simp [go_sem]; rfl) (by simp [go_sem]) ?_); first | (simp [go_sem, *]; done) | grind | (simp [go_sem]; grind) | (simp_all [go_sem]; done) | (simp_all [go_sem]; omega))
      · have hge : l.es.length ≤ i := by first | (simpa using hc) | (simp at hc; omega)
        try simp -implicitDefEqProofs [-List.map_take, -List.map_drop, go_sem, bldE_zero]
        obtain rfl : i = l.es.length := by omega
        have hwf0 : bldF A r [.int .i64 0, .str [], .imm [] [] true, .str [], .int .i64 0, .int .i64 0, .str [], .imm [] [] true] fillDecl.C 0 = bldE A c [.int .i64 0, .str [], .imm [] [] true, .str [], .int .i64 0, .int .i64 0, .str [], .imm [] [] true] l.es.length := by rw [← hAl]; exact bldF_zero (by omega)
        have hwb : ∀ m, ((bldE A c [.int .i64 0, .str [], .imm [] [] true, .str [], .int .i64 0, .int .i64 0, .str [], .imm [] [] true] l.es.length).all fun e => e.all (bdV m)) = true := bld_bd (bldE_pure hA hz)
        refine run_iter (r) (toDeclS_L2 l A c r) (fun i2 a2 => True) () (gh_auto (by simp [go_sem, toDeclS_L2, hwf0, hwb])) (by first | (simp; done) | (simp []; done) | (simp []; omega) | grind) ?_
        intro i2 a2 hi2 hj2
        simp -implicitDefEqProofs [-List.map_take, -List.map_drop, go_sem, toDeclS_L2, hwf0, hwb]
        refine cnd_split (fun hc2 => ?_) (fun hc2 => ?_)
        · have hlt2 : i2 < r := by first | (simpa using hc2) | (simp at hc2; omega)
          simp -implicitDefEqProofs [-List.map_take, -List.map_drop, go_sem, hlt2, hwf0, hwb]
          have hwl2 : (bldF A r [.int .i64 0, .str [], .imm [] [] true, .str [], .int .i64 0, .int .i64 0, .str [], .imm [] [] true] fillDecl.C i2).length = c := by rw [bldF_len (by omega)]; omega
          have hwg2 : (bldF A r [.int .i64 0, .str [], .imm [] [] true, .str [], .int .i64 0, .int .i64 0, .str [], .imm [] [] true] fillDecl.C i2)[l.es.length + i2]? = some [.int .i64 0, .str [], .imm [] [] true, .str [], .int .i64 0, .int .i64 0, .str [], .imm [] [] true] := by rw [← hAl]; exact bldF_get (by omega)
          have hws2 : (bldF A r [.int .i64 0, .str [], .imm [] [] true, .str [], .int .i64 0, .int .i64 0, .str [], .imm [] [] true] fillDecl.C i2).set (l.es.length + i2) fillDecl.C = bldF A r [.int .i64 0, .str [], .imm [] [] true, .str [], .int .i64 0, .int .i64 0, .str [], .imm [] [] true] fillDecl.C (i2 + 1) := by rw [← hAl]; exact bldF_set (by omega)
          have hwb2 : ∀ m, ((bldF A r [.int .i64 0, .str [], .imm [] [] true, .str [], .int .i64 0, .int .i64 0, .str [], .imm [] [] true] fillDecl.C (i2 + 1)).all fun e => e.all (bdV m)) = true := bld_bd (bldF_pure hA hz hfp)
          have hlc2 : (0 : Int) ≤ (l.es.length : Int) + (i2 : Int) ∧ (l.es.length : Int) + (i2 : Int) < (c : Int) := by omega
          have hwt2 : ((l.es.length : Int) + (i2 : Int)).toNat = l.es.length + i2 := by omega
          have hwi2 : IntKind.i64.wrap ((l.es.length : Int) + (i2 : Int) + 1) = (l.es.length : Int) + ((i2 : Int) + 1) := by rw [wrap_small (by omega) (by omega)]; omega
          have hm2 : r ≤ maxLen := by simp only [maxLen]; omega
          repeat' first
            | ((first | refine gv_split (fun h => ?_) (fun h => ?_) | refine cnd_split (fun h => ?_) (fun h => ?_) | refine cgv_split (fun h => ?_) (fun h => ?_)) <;> (try (have hp := h; simp at hp)) <;> simp -implicitDefEqProofs [-List.map_take, -List.map_drop, go_sem, h, hlt2, hwl2, hlc2, hwt2, hwg2, hws2, hwb2, hwi2])
            | (refine And.intro (by first | omega | (simp only [maxLen]; omega) | (simp_all; done) | (simp_all; omega)) ?_; try simp -implicitDefEqProofs [-List.map_take, -List.map_drop, go_sem, hlt2, hwl2, hlc2, hwt2, hwg2, hws2, hwb2, hwi2])
            | ((first | refine stp_ct (fillDecl_ct) (by simp [go_sem, hlt2, hwl2, hlc2, hwt2, hwg2, hws2, hwb2, hwi2]) ?_ ?_ | refine cstp_ct (fillDecl_ct) (by simp [go_sem, hlt2, hwl2, hlc2, hwt2, hwg2, hws2, hwb2, hwi2]) ?_ ?_); (simp [go_sem]); simp -implicitDefEqProofs [-List.map_take, -List.map_drop, go_sem, hlt2, hwl2, hlc2, hwt2, hwg2, hws2, hwb2, hwi2])
            | (refine run_dreg' (by decide) ?_; simp -implicitDefEqProofs [-List.map_take, -List.map_drop, go_sem, hlt2, hwl2, hlc2, hwt2, hwg2, hws2, hwb2, hwi2])
            | ((first | refine kx_next () hlt2 (gh_auto (by simp [go_sem, toDeclS_L2, wrap_succ hlt2 hm2, hlt2, hwl2, hlc2, hwt2, hwg2, hws2, hwb2, hwi2])) ?_ | refine end_tup _ (by simp) (by simp [go_sem]; rfl) (by simp [go_sem]) ?_); first | (simp [go_sem, *]; done) | grind | (simp [go_sem]; grind) | (simp_all [go_sem]; done) | (simp_all [go_sem]; omega))
        · have hge2 : r ≤ i2 := by first | (simpa using hc2) | (simp at hc2; omega)
          try simp -implicitDefEqProofs [-List.map_take, -List.map_drop, go_sem, hwf0, hwb]
          obtain rfl : i2 = r := by omega
          have hwl3 : (bldF A i2 [.int .i64 0, .str [], .imm [] [] true, .str [], .int .i64 0, .int .i64 0, .str [], .imm [] [] true] fillDecl.C i2).length = c := by rw [bldF_len (by omega)]; omega
          have hwsl : slV [some ⟨bldF A i2 [.int .i64 0, .str [], .imm [] [] true, .str [], .int .i64 0, .int .i64 0, .str [], .imm [] [] true] fillDecl.C i2, 8, 46, true, false⟩] 8 (.ref 0 c 0 c (some c)) none (some (.int .i64 (l.es.length : Int))) none = .ob True (.ref 0 c 0 l.es.length (some c)) := sl_own rfl hwl3 (by omega)
          simp -implicitDefEqProofs [-List.map_take, -List.map_drop, go_sem, hwsl]
          refine end_ref (o := 0) (c := c) (k := l.es.length) (es := bldF A i2 [.int .i64 0, .str [], .imm [] [] true, .str [], .int .i64 0, .int .i64 0, .str [], .imm [] [] true] fillDecl.C i2) (sz := 8) (ty := 46) (arr := true) (frz := false) (by simp) (by simp [go_sem]) (by simp [go_sem]) hwl3 (bldF_pure hA hz hfp) ?_
          rw [bldF_full, ← hAl, List.take_left, List.drop_left]
    · try simp only [Bool.true_and, beq_eq_false_iff_ne, ne_eq] at hb
      have hbz : ((l.es.length : Int) == 0) = decide (l.es.length = 0) := by rw [Bool.eq_iff_iff]; simp
      simp -implicitDefEqProofs [-List.map_take, -List.map_drop, go_sem]
      repeat' first
        | ((first | refine gv_split (fun h => ?_) (fun h => ?_) | refine cnd_split (fun h => ?_) (fun h => ?_) | refine cgv_split (fun h => ?_) (fun h => ?_)) <;> (try (have hp := h; simp at hp)) <;> simp -implicitDefEqProofs [-List.map_take, -List.map_drop, go_sem, h, hw0, hb, hbz])
        | (refine And.intro (by first | omega | (simp only [maxLen]; omega) | (simp_all; done) | (simp_all; omega)) ?_; try simp -implicitDefEqProofs [-List.map_take, -List.map_drop, go_sem, hw0, hb, hbz])
        | ((first | refine stp_ct (hrm) (by simp [go_sem, hw0, hb, hbz]) ?_ ?_ | refine cstp_ct (hrm) (by simp [go_sem, hw0, hb, hbz]) ?_ ?_); (simp [go_sem]); simp -implicitDefEqProofs [-List.map_take, -List.map_drop, go_sem, hw0, hb, hbz])
        | (refine run_dreg' (by decide) ?_; simp -implicitDefEqProofs [-List.map_take, -List.map_drop, go_sem, hw0, hb, hbz])
        | ((first | refine end_tup _ (by simp) (by simp [go_sem]; rfl) (by simp [go_sem]) ?_); first | (simp [go_sem, *]; done) | grind | (simp [go_sem]; grind) | (simp_all [go_sem]; done) | (simp_all [go_sem]; omega))
      refine run_iter (l.es.length) (toDeclS_L1 l true A c) (fun i a => True) () (gh_auto (by simp [go_sem, toDeclS_L1, bldE_zero])) (by first | (simp; done) | (simp []; done) | (simp []; omega) | grind) ?_
      intro i a hi hj
      simp -implicitDefEqProofs [-List.map_take, -List.map_drop, go_sem, toDeclS_L1, bldE_zero]
      refine cnd_split (fun hc => ?_) (fun hc => ?_)
      · have hlt : i < l.es.length := by first | (simpa using hc) | (simp at hc; omega)
        simp -implicitDefEqProofs [-List.map_take, -List.map_drop, go_sem, hlt, bldE_zero]
        have hwl : (bldE A c [.int .i64 0, .str [], .imm [] [] true, .str [], .int .i64 0, .int .i64 0, .str [], .imm [] [] true] i).length = c := bldE_len (by omega) (by omega)
        have hwg : (bldE A c [.int .i64 0, .str [], .imm [] [] true, .str [], .int .i64 0, .int .i64 0, .str [], .imm [] [] true] i)[i]? = some [.int .i64 0, .str [], .imm [] [] true, .str [], .int .i64 0, .int .i64 0, .str [], .imm [] [] true] := bldE_get (by omega) (by omega)
        have hws : (bldE A c [.int .i64 0, .str [], .imm [] [] true, .str [], .int .i64 0, .int .i64 0, .str [], .imm [] [] true] i).set i (tf l.es[i]).C = bldE A c [.int .i64 0, .str [], .imm [] [] true, .str [], .int .i64 0, .int .i64 0, .str [], .imm [] [] true] (i + 1) := by rw [← hAg i hlt]; exact bldE_set (by omega) (by omega)
        have hwb : ∀ m, ((bldE A c [.int .i64 0, .str [], .imm [] [] true, .str [], .int .i64 0, .int .i64 0, .str [], .imm [] [] true] (i + 1)).all fun e => e.all (bdV m)) = true := bld_bd (bldE_pure hA hz)
        have hlc : (i : Int) < (c : Int) := by omega
        have hgi := hg l.es[i] (List.getElem_mem hlt)
        repeat' first
          | ((first | refine gv_split (fun h => ?_) (fun h => ?_) | refine cnd_split (fun h => ?_) (fun h => ?_) | refine cgv_split (fun h => ?_) (fun h => ?_)) <;> (try (have hp := h; simp at hp)) <;> simp -implicitDefEqProofs [-List.map_take, -List.map_drop, go_sem, h, hlt, hwl, hlc, hwg, hws, hwb])
          | (refine And.intro (by first | omega | (simp only [maxLen]; omega) | (simp_all; done) | (simp_all; omega)) ?_; try simp -implicitDefEqProofs [-List.map_take, -List.map_drop, go_sem, hlt, hwl, hlc, hwg, hws, hwb])
          | ((first | refine stp_ct (hgi) (by simp [go_sem, hlt, hwl, hlc, hwg, hws, hwb]) ?_ ?_ | refine cstp_ct (hgi) (by simp [go_sem, hlt, hwl, hlc, hwg, hws, hwb]) ?_ ?_); (simp [go_sem]); simp -implicitDefEqProofs [-List.map_take, -List.map_drop, go_sem, hlt, hwl, hlc, hwg, hws, hwb])
          | (refine run_dreg' (by decide) ?_; simp -implicitDefEqProofs [-List.map_take, -List.map_drop, go_sem, hlt, hwl, hlc, hwg, hws, hwb])
          | ((first | refine kx_next () hlt (gh_auto (by simp [go_sem, toDeclS_L1, wrap_succ hlt hm, hlt, hwl, hlc, hwg, hws, hwb])) ?_ | refine end_tup _ (by simp) (by simp [go_sem]; rfl) (by simp [go_sem]) ?_); first | (simp [go_sem, *]; done) | grind | (simp [go_sem]; grind) | (simp_all [go_sem]; done) | (simp_all [go_sem]; omega))
      · have hge : l.es.length ≤ i := by first | (simpa using hc) | (simp at hc; omega)
        try simp -implicitDefEqProofs [-List.map_take, -List.map_drop, go_sem, bldE_zero]
        obtain rfl : i = l.es.length := by omega
        have hwf0 : bldF A r [.int .i64 0, .str [], .imm [] [] true, .str [], .int .i64 0, .int .i64 0, .str [], .imm [] [] true] fillDecl.C 0 = bldE A c [.int .i64 0, .str [], .imm [] [] true, .str [], .int .i64 0, .int .i64 0, .str [], .imm [] [] true] l.es.length := by rw [← hAl]; exact bldF_zero (by omega)
        have hwb : ∀ m, ((bldE A c [.int .i64 0, .str [], .imm [] [] true, .str [], .int .i64 0, .int .i64 0, .str [], .imm [] [] true] l.es.length).all fun e => e.all (bdV m)) = true := bld_bd (bldE_pure hA hz)
        refine run_iter (r) (toDeclS_L2 l A c r) (fun i2 a2 => True) () (gh_auto (by simp [go_sem, toDeclS_L2, hwf0, hwb])) (by first | (simp; done) | (simp []; done) | (simp []; omega) | grind) ?_
        intro i2 a2 hi2 hj2
        simp -implicitDefEqProofs [-List.map_take, -List.map_drop, go_sem, toDeclS_L2, hwf0, hwb]
        refine cnd_split (fun hc2 => ?_) (fun hc2 => ?_)
        · have hlt2 : i2 < r := by first | (simpa using hc2) | (simp at hc2; omega)
          simp -implicitDefEqProofs [-List.map_take, -List.map_drop, go_sem, hlt2, hwf0, hwb]
          have hwl2 : (bldF A r [.int .i64 0, .str [], .imm [] [] true, .str [], .int .i64 0, .int .i64 0, .str [], .imm [] [] true] fillDecl.C i2).length = c := by rw [bldF_len (by omega)]; omega
          have hwg2 : (bldF A r [.int .i64 0, .str [], .imm [] [] true, .str [], .int .i64 0, .int .i64 0, .str [], .imm [] [] true] fillDecl.C i2)[l.es.length + i2]? = some [.int .i64 0, .str [], .imm [] [] true, .str [], .int .i64 0, .int .i64 0, .str [], .imm [] [] true] := by rw [← hAl]; exact bldF_get (by omega)
          have hws2 : (bldF A r [.int .i64 0, .str [], .imm [] [] true, .str [], .int .i64 0, .int .i64 0, .str [], .imm [] [] true] fillDecl.C i2).set (l.es.length + i2) fillDecl.C = bldF A r [.int .i64 0, .str [], .imm [] [] true, .str [], .int .i64 0, .int .i64 0, .str [], .imm [] [] true] fillDecl.C (i2 + 1) := by rw [← hAl]; exact bldF_set (by omega)
          have hwb2 : ∀ m, ((bldF A r [.int .i64 0, .str [], .imm [] [] true, .str [], .int .i64 0, .int .i64 0, .str [], .imm [] [] true] fillDecl.C (i2 + 1)).all fun e => e.all (bdV m)) = true := bld_bd (bldF_pure hA hz hfp)
          have hlc2 : (0 : Int) ≤ (l.es.length : Int) + (i2 : Int) ∧ (l.es.length : Int) + (i2 : Int) < (c : Int) := by omega
          have hwt2 : ((l.es.length : Int) + (i2 : Int)).toNat = l.es.length + i2 := by omega
          have hwi2 : IntKind.i64.wrap ((l.es.length : Int) + (i2 : Int) + 1) = (l.es.length : Int) + ((i2 : Int) + 1) := by rw [wrap_small (by omega) (by omega)]; omega
          have hm2 : r ≤ maxLen := by simp only [maxLen]; omega
          repeat' first
            | ((first | refine gv_split (fun h => ?_) (fun h => ?_) | refine cnd_split (fun h => ?_) (fun h => ?_) | refine cgv_split (fun h => ?_) (fun h => ?_)) <;> (try (have hp := h; simp at hp)) <;> simp -implicitDefEqProofs [-List.map_take, -List.map_drop, go_sem, h, hlt2, hwl2, hlc2, hwt2, hwg2, hws2, hwb2, hwi2])
            | (refine And.intro (by first | omega | (simp only [maxLen]; omega) | (simp_all; done) | (simp_all; omega)) ?_; try simp -implicitDefEqProofs [-List.map_take, -List.map_drop, go_sem, hlt2, hwl2, hlc2, hwt2, hwg2, hws2, hwb2, hwi2])
            | ((first | refine stp_ct (fillDecl_ct) (by simp [go_sem, hlt2, hwl2, hlc2, hwt2, hwg2, hws2, hwb2, hwi2]) ?_ ?_ | refine cstp_ct (fillDecl_ct) (by simp [go_sem, hlt2, hwl2, hlc2, hwt2, hwg2, hws2, hwb2, hwi2]) ?_ ?_); (simp [go_sem]); simp -implicitDefEqProofs [-List.map_take, -List.map_drop, go_sem, hlt2, hwl2, hlc2, hwt2, hwg2, hws2, hwb2, hwi2])
            | (refine run_dreg' (by decide) ?_; simp -implicitDefEqProofs [-List.map_take, -List.map_drop, go_sem, hlt2, hwl2, hlc2, hwt2, hwg2, hws2, hwb2, hwi2])
            | ((first | refine kx_next () hlt2 (gh_auto (by simp [go_sem, toDeclS_L2, wrap_succ hlt2 hm2, hlt2, hwl2, hlc2, hwt2, hwg2, hws2, hwb2, hwi2])) ?_ | refine end_tup _ (by simp) (by simp [go_sem]; rfl) (by simp [go_sem]) ?_); first | (simp [go_sem, *]; done) | grind | (simp [go_sem]; grind) | (simp_all [go_sem]; done) | (simp_all [go_sem]; omega))
        · have hge2 : r ≤ i2 := by first | (simpa using hc2) | (simp at hc2; omega)
          try simp -implicitDefEqProofs [-List.map_take, -List.map_drop, go_sem, hwf0, hwb]
          obtain rfl : i2 = r := by omega
          have hwl3 : (bldF A i2 [.int .i64 0, .str [], .imm [] [] true, .str [], .int .i64 0, .int .i64 0, .str [], .imm [] [] true] fillDecl.C i2).length = c := by rw [bldF_len (by omega)]; omega
          have hwsl : slV [some ⟨bldF A i2 [.int .i64 0, .str [], .imm [] [] true, .str [], .int .i64 0, .int .i64 0, .str [], .imm [] [] true] fillDecl.C i2, 8, 46, true, false⟩] 8 (.ref 0 c 0 c (some c)) none (some (.int .i64 (l.es.length : Int))) none = .ob True (.ref 0 c 0 l.es.length (some c)) := sl_own rfl hwl3 (by omega)
          simp -implicitDefEqProofs [-List.map_take, -List.map_drop, go_sem, hwsl]
          refine end_ref (o := 0) (c := c) (k := l.es.length) (es := bldF A i2 [.int .i64 0, .str [], .imm [] [] true, .str [], .int .i64 0, .int .i64 0, .str [], .imm [] [] true] fillDecl.C i2) (sz := 8) (ty := 46) (arr := true) (frz := false) (by simp) (by simp [go_sem]) (by simp [go_sem]) hwl3 (bldF_pure hA hz hfp) ?_
          rw [bldF_full, ← hAl, List.take_left, List.drop_left]
  · have h1 := hcase hb
    subst h1
    simp at hb
    obtain ⟨rfl, hb⟩ := hb
    have hbt : ((l.es.length : Int) == 0) = true := by simp [hb]
    simp -implicitDefEqProofs [-List.map_take, -List.map_drop, go_sem, hbt]
    repeat' first
      | ((first | refine gv_split (fun h => ?_) (fun h => ?_) | refine cnd_split (fun h => ?_) (fun h => ?_) | refine cgv_split (fun h => ?_) (fun h => ?_)) <;> (try (have hp := h; simp at hp)) <;> simp -implicitDefEqProofs [-List.map_take, -List.map_drop, go_sem, h, hbt])
      | (refine And.intro (by first | omega | (simp only [maxLen]; omega) | (simp_all; done) | (simp_all; omega)) ?_; try simp -implicitDefEqProofs [-List.map_take, -List.map_drop, go_sem, hbt])
      | (refine run_dreg' (by decide) ?_; simp -implicitDefEqProofs [-List.map_take, -List.map_drop, go_sem, hbt])
      | ((first | refine end_tup _ (by simp) (by simp [go_sem]; rfl) (by simp [go_sem]) ?_); first | (simp [go_sem, *]; done) | grind | (simp [go_sem]; grind) | (simp_all [go_sem]; done) | (simp_all [go_sem]; omega))
theorem Decl.Sm_of {m : LModule} (h : m.core.Sm) {d : LDecl} (hd : d ∈ m.decls.es) : d.core.Sm := h.2.2.2.2 _ (by rw [LModule.core_decls]; exact List.mem_map_of_mem hd)
def mf_laws_toModule : MF := ⟨20, [(.cell 4 3 true)], (.seq (.reg [⟨(some 2), (.box 69 (.t 0)), none⟩, ⟨(some 4), (.alloc 43 [(.str []), (.imm [] [] true), (.imm [] [] true)]), none⟩]) (.seq (.reg [⟨(some 5), (.alloc 43 [(.str []), (.imm [] [] true), (.imm [] [] true)]), none⟩]) (.seq (.reg [⟨(some 6), (.fadr 0 (.t 2)), none⟩, ⟨(some 7), (.load false 1 (.t 6)), none⟩, ⟨(some 8), (.fadr 0 (.t 5)), none⟩, ⟨none, (.store 1 (.t 8) (.t 7)), none⟩]) (.seq (.reg [⟨(some 9), (.fadr 1 (.t 2)), none⟩, ⟨(some 10), (.load false 1 (.t 9)), none⟩, ⟨(some 11), (.mov (.t 1)), none⟩, ⟨(some 12), (.call (.c (.fn 123 [])) [(.t 10), (.t 11)]), none⟩, ⟨(some 13), (.fadr 1 (.t 5)), none⟩, ⟨none, (.store 1 (.t 13) (.t 12)), none⟩]) (.seq (.reg [⟨(some 14), (.fadr 2 (.t 2)), none⟩, ⟨(some 15), (.load false 1 (.t 14)), none⟩, ⟨(some 16), (.mov (.t 1)), none⟩, ⟨(some 17), (.call (.c (.fn 124 [])) [(.t 15), (.t 16)]), none⟩, ⟨(some 18), (.fadr 2 (.t 5)), none⟩, ⟨none, (.store 1 (.t 18) (.t 17)), none⟩]) (.seq (.reg [⟨(some 19), (.load true 3 (.t 5)), none⟩, ⟨none, (.store 3 (.t 4) (.t 19)), none⟩]) .ret))))))⟩
theorem fit_laws_toModule : Fit Tryz.prog 48 Tryz.f48 mf_laws_toModule := ⟨by kernel_rfl, Tryz.func48, by kernel_rfl, by kernel_rfl, by kernel_rfl, by kernel_rfl⟩
theorem toModule_ct (m : LModule) (bare : Bool) (hs : m.core.Sm) : Ct Tryz.prog 48 [.agg m.C, .bool bare] (.agg (toM bare m).C) := by
  have h1 := usesS_ct m.uses bare hs.2.1
  have h2 := toDeclS_ct m.decls bare (by simpa using hs.2.2.2.1) (toD bare) (fun a ha => toDecl_ct a bare (Decl.Sm_of hs ha))
  refine ct_of_run fit_laws_toModule (by simp [mf_laws_toModule]) (by simp [go_sem]) fun hd => ?_
  simp -implicitDefEqProofs [-List.map_take, -List.map_drop, go_sem, mf_laws_toModule]
  repeat' first
    | ((first | refine gv_split (fun h => ?_) (fun h => ?_) | refine cnd_split (fun h => ?_) (fun h => ?_) | refine cgv_split (fun h => ?_) (fun h => ?_)) <;> (try (have hp := h; simp at hp)) <;> simp -implicitDefEqProofs [-List.map_take, -List.map_drop, go_sem, h])
    | (refine And.intro (by first | omega | (simp only [maxLen]; omega) | (simp_all; done) | (simp_all; omega)) ?_; try simp -implicitDefEqProofs [-List.map_take, -List.map_drop, go_sem])
    | ((first | refine stp_ct (h1) (by simp [go_sem]) ?_ ?_ | refine cstp_ct (h1) (by simp [go_sem]) ?_ ?_ | refine stp_ct (h2) (by simp [go_sem]) ?_ ?_ | refine cstp_ct (h2) (by simp [go_sem]) ?_ ?_); (simp [go_sem]); simp -implicitDefEqProofs [-List.map_take, -List.map_drop, go_sem])
    | (refine run_dreg' (by decide) ?_; simp -implicitDefEqProofs [-List.map_take, -List.map_drop, go_sem])
    | ((first | refine end_tup _ (by simp) (by simp [go_sem]; rfl) (by simp [go_sem]) ?_); first | (simp [go_sem, *, toM, LModule.C]; done) | grind [toM, LModule.C] | (simp [go_sem, toM, LModule.C]; grind [toM, LModule.C]) | (simp_all [go_sem, toM, LModule.C]; done) | (simp_all [go_sem, toM, LModule.C]; omega))
def mf_laws_fillerModule : MF := ⟨6, [(.cell 0 3 true)], (.seq (.reg [⟨(some 0), (.alloc 43 [(.str []), (.imm [] [] true), (.imm [] [] true)]), none⟩]) (.seq (.reg [⟨(some 1), (.call (.c (.fn 125 [])) []), none⟩, ⟨(some 2), (.bsl 101 2 1 [(.str []), (.str [])] [(0, (.t 1))]), none⟩, ⟨(some 3), (.call (.c (.fn 126 [])) []), none⟩, ⟨(some 4), (.bsl 46 8 1 [(.int .i64 0), (.str []), (.imm [] [] true), (.str []), (.int .i64 0), (.int .i64 0), (.str []), (.imm [] [] true)] [(0, (.t 3))]), none⟩, ⟨(some 5), (.build [(.str []), (.imm [] [] true), (.imm [] [] true)] [(0, (1, (.c (.str [126, 115, 112, 97, 114, 101, 126])))), (1, (1, (.t 2))), (2, (1, (.t 4)))]), none⟩, ⟨none, (.store 3 (.t 0) (.t 5)), none⟩]) .ret))⟩
theorem fit_laws_fillerModule : Fit Tryz.prog 49 Tryz.f49 mf_laws_fillerModule := ⟨by kernel_rfl, Tryz.func49, by kernel_rfl, by kernel_rfl, by kernel_rfl, by kernel_rfl⟩
theorem fillModule_ct : Ct Tryz.prog 49 [] (.agg fillModule.C) := by
  refine ct_of_run fit_laws_fillerModule (by simp [mf_laws_fillerModule]) (by simp [go_sem]) fun hd => ?_
  simp -implicitDefEqProofs [-List.map_take, -List.map_drop, go_sem, mf_laws_fillerModule]
  repeat' first
    | ((first | refine gv_split (fun h => ?_) (fun h => ?_) | refine cnd_split (fun h => ?_) (fun h => ?_) | refine cgv_split (fun h => ?_) (fun h => ?_)) <;> (try (have hp := h; simp at hp)) <;> simp -implicitDefEqProofs [-List.map_take, -List.map_drop, go_sem, h])
    | (refine And.intro (by first | omega | (simp only [maxLen]; omega) | (simp_all; done) | (simp_all; omega)) ?_; try simp -implicitDefEqProofs [-List.map_take, -List.map_drop, go_sem])
    | ((first | refine stp_ct (fillUse_ct) (by simp [go_sem]) ?_ ?_ | refine cstp_ct (fillUse_ct) (by simp [go_sem]) ?_ ?_ | refine stp_ct (fillDecl_ct) (by simp [go_sem]) ?_ ?_ | refine cstp_ct (fillDecl_ct) (by simp [go_sem]) ?_ ?_); (simp [go_sem]); simp -implicitDefEqProofs [-List.map_take, -List.map_drop, go_sem])
    | (refine run_dreg' (by decide) ?_; simp -implicitDefEqProofs [-List.map_take, -List.map_drop, go_sem])
    | ((first | refine end_tup _ (by simp) (by simp [go_sem]; rfl) (by simp [go_sem]) ?_); first | (simp [go_sem, *]; done) | grind | (simp [go_sem]; grind) | (simp_all [go_sem]; done) | (simp_all [go_sem]; omega))
  exact end_snapG 3 _ _ (by simp) rfl rfl rfl
def toModuleS_L1 (l : Sl LModule) (bare : Bool) (A : List (List PV)) (c : Nat) (i : Nat) (_ : Unit) : St := ⟨lk [(0, l.I LModule.C), (1, .bool bare), (5, .ref 0 c 0 c (some c)), (6, .int .i64 i)], [some ⟨bldE A c [.str [], .imm [] [] true, .imm [] [] true] i, 3, 43, true, false⟩], []⟩
def toModuleS_L2 (l : Sl LModule) (A : List (List PV)) (c r : Nat) (j : Nat) (_ : Unit) : St := ⟨lk [(0, l.I LModule.C), (5, .ref 0 c 0 c (some c)), (7, .int .i64 ((l.es.length : Int) + (j : Int)))], [some ⟨bldF A r [.str [], .imm [] [] true, .imm [] [] true] fillModule.C j, 3, 43, true, false⟩], []⟩
def mf_laws_toModuleS : MF := ⟨52, [(.t 4)], (.seq (.reg [⟨(some 4), (.mov (.c (.imm [] [] true))), none⟩]) (.seq (.seq (.reg [⟨(some 8), (.mov (.t 1)), none⟩, ⟨(some 9), (.mov (.t 8)), none⟩, ⟨(some 10), (.mov (.t 0)), (some (9, true))⟩, ⟨(some 11), (.lenl (.t 10)), (some (9, true))⟩, ⟨(some 12), (.bin .eql (.t 11) (.c (.int .i64 0))), (some (9, true))⟩, ⟨(some 13), (.pick (.t 9) (.t 12) (.c (.bool false))), none⟩]) (.cond (.t 13) (.seq (.reg [⟨(some 4), (.mov (.c (.imm [] [] true))), none⟩]) .ret) .skip)) (.seq (.reg [⟨(some 14), (.mov (.t 0)), none⟩, ⟨(some 15), (.lenl (.t 14)), none⟩, ⟨(some 16), (.mov (.t 0)), none⟩, ⟨(some 17), (.lenl (.t 16)), none⟩, ⟨(some 18), (.call (.c (.fn 47 [])) [(.t 17)]), none⟩, ⟨(some 19), (.bin .add (.t 15) (.t 18)), none⟩, ⟨(some 20), (.mks 43 3 64 [(.str []), (.imm [] [] true), (.imm [] [] true)] (.t 19) (.t 19)), none⟩, ⟨(some 5), (.mov (.t 20)), none⟩]) (.seq (.seq (.reg [⟨(some 6), (.mov (.c (.int .i64 0))), none⟩]) (.blk 0 (.loop (.seq (.seq (.reg [⟨(some 21), (.mov (.t 6)), none⟩, ⟨(some 22), (.mov (.t 0)), none⟩, ⟨(some 23), (.lenl (.t 22)), none⟩, ⟨(some 24), (.bin .lss (.t 21) (.t 23)), none⟩]) (.cond (.t 24) .skip (.exit 0))) (.seq (.blk 1 (.reg [⟨(some 27), (.mov (.t 5)), none⟩, ⟨(some 28), (.mov (.t 6)), none⟩, ⟨(some 29), (.mov (.t 0)), none⟩, ⟨(some 30), (.mov (.t 6)), none⟩, ⟨(some 31), (.iadr 3 (.t 29) (.t 30)), none⟩, ⟨(some 32), (.load true 3 (.t 31)), none⟩, ⟨(some 33), (.mov (.t 1)), none⟩, ⟨(some 34), (.call (.c (.fn 48 [])) [(.t 32), (.t 33)]), none⟩, ⟨(some 35), (.iadr 3 (.t 27) (.t 28)), none⟩, ⟨none, (.store 3 (.t 35) (.t 34)), none⟩])) (.reg [⟨(some 25), (.mov (.t 6)), none⟩, ⟨(some 26), (.bin .add (.t 25) (.c (.int .i64 1))), none⟩, ⟨(some 6), (.mov (.t 26)), none⟩])))))) (.seq (.seq (.reg [⟨(some 36), (.mov (.t 0)), none⟩, ⟨(some 37), (.lenl (.t 36)), none⟩, ⟨(some 7), (.mov (.t 37)), none⟩]) (.blk 2 (.loop (.seq (.seq (.reg [⟨(some 38), (.mov (.t 7)), none⟩, ⟨(some 39), (.mov (.t 5)), none⟩, ⟨(some 40), (.lenl (.t 39)), none⟩, ⟨(some 41), (.bin .lss (.t 38) (.t 40)), none⟩]) (.cond (.t 41) .skip (.exit 2))) (.seq (.blk 3 (.reg [⟨(some 44), (.mov (.t 5)), none⟩, ⟨(some 45), (.mov (.t 7)), none⟩, ⟨(some 46), (.call (.c (.fn 49 [])) []), none⟩, ⟨(some 47), (.iadr 3 (.t 44) (.t 45)), none⟩, ⟨none, (.store 3 (.t 47) (.t 46)), none⟩])) (.reg [⟨(some 42), (.mov (.t 7)), none⟩, ⟨(some 43), (.bin .add (.t 42) (.c (.int .i64 1))), none⟩, ⟨(some 7), (.mov (.t 43)), none⟩])))))) (.seq (.reg [⟨(some 48), (.mov (.t 5)), none⟩, ⟨(some 49), (.mov (.t 0)), none⟩, ⟨(some 50), (.lenl (.t 49)), none⟩, ⟨(some 51), (.sl 3 (.t 48) none (some (.t 50)) none), none⟩, ⟨(some 4), (.mov (.t 51)), none⟩]) .ret))))))⟩
theorem fit_laws_toModuleS : Fit Tryz.prog 13 Tryz.f13 mf_laws_toModuleS := ⟨by kernel_rfl, Tryz.func13, by kernel_rfl, by kernel_rfl, by kernel_rfl, by kernel_rfl⟩
theorem toModuleS_ct (l : Sl LModule) (bare : Bool) (hl : l.es.length ≤ 1000000) (tf : LModule → LModule) (hg : ∀ a, a ∈ l.es → Ct Tryz.prog 48 [.agg a.C, .bool bare] (.agg (tf a).C)) :
    Ct Tryz.prog 13 [l.I LModule.C, .bool bare] ((toS LModule.C fillModule bare (l.es.map tf)).I LModule.C) := by
  obtain ⟨Y, hY⟩ : ∃ Y, Y = (toS LModule.C fillModule bare (l.es.map tf)).I LModule.C := ⟨_, rfl⟩
  rw [← hY]
  refine ct_of_run fit_laws_toModuleS (by simp [mf_laws_toModuleS]) (by simp [go_sem]) fun hd => ?_
  simp -implicitDefEqProofs [-List.map_take, -List.map_drop, go_sem, mf_laws_toModuleS]
  have hm : l.es.length ≤ maxLen := sl_deep hd.1
  have hA : ∀ e, e ∈ l.es.map (fun x => (tf x).C) → pureL e = true := by
    intro e he
    obtain ⟨x, _, rfl⟩ := List.mem_map.1 he
    exact LModule.C_pure _
  obtain ⟨A, hAe⟩ : ∃ A, A = l.es.map (fun x => (tf x).C) := ⟨_, rfl⟩
  have hAl : A.length = l.es.length := by rw [hAe, List.length_map]
  have hAg : ∀ (i : Nat) (h : i < l.es.length), A[i]'(by omega) = (tf l.es[i]).C := fun i h => by subst hAe; simp
  rw [← hAe] at hA
  have hrl := room_le l.es.length
  have hcase : (bare && l.es.length == 0) = true → Y = .imm [] [] true := fun h => by
    rw [hY]; simp only [toS, List.length_map, h, if_true, Sl.I, List.map_nil]
  have hcase2 : (bare && l.es.length == 0) = false → Y = .imm A (List.replicate (room l.es.length) fillModule.C) true := fun h => by
    rw [hY]
    simp only [toS, List.length_map, h, Bool.false_eq_true, if_false, Sl.I, List.map_map, hAe, List.map_replicate]
    rfl
  cases hb : (bare && l.es.length == 0)
  · have h1 := hcase2 hb
    obtain ⟨r, hr⟩ : ∃ r, r = room l.es.length := ⟨_, rfl⟩
    obtain ⟨c, hc⟩ : ∃ c, c = l.es.length + r := ⟨_, rfl⟩
    rw [← hr] at hrl h1
    subst h1
    clear hY hcase hcase2
    have hw0 : IntKind.i64.wrap ((l.es.length : Int) + (r : Int)) = (c : Int) := by rw [wrap_small (by omega) (by omega)]; omega
    have hrm := room_ct l.es.length
    rw [← hr] at hrm
    have hz : pureL [.str [], .imm [] [] true, .imm [] [] true] = true := rfl
    have hfp : pureL fillModule.C = true := LModule.C_pure _
    have hbnd : c * 1000 ≤ 140737488355328 := by omega
    cases bare
    · try simp only [Bool.true_and, beq_eq_false_iff_ne, ne_eq] at hb
      have hbz : ((l.es.length : Int) == 0) = decide (l.es.length = 0) := by rw [Bool.eq_iff_iff]; simp
      simp -implicitDefEqProofs [-List.map_take, -List.map_drop, go_sem]
      repeat' first
        | ((first | refine gv_split (fun h => ?_) (fun h => ?_) | refine cnd_split (fun h => ?_) (fun h => ?_) | refine cgv_split (fun h => ?_) (fun h => ?_)) <;> (try (have hp := h; simp at hp)) <;> simp -implicitDefEqProofs [-List.map_take, -List.map_drop, go_sem, h, hw0, hb, hbz])
        | (refine And.intro (by first | omega | (simp only [maxLen]; omega) | (simp_all; done) | (simp_all; omega)) ?_; try simp -implicitDefEqProofs [-List.map_take, -List.map_drop, go_sem, hw0, hb, hbz])
        | ((first | refine stp_ct (hrm) (by simp [go_sem, hw0, hb, hbz]) ?_ ?_ | refine cstp_ct (hrm) (by simp [go_sem, hw0, hb, hbz]) ?_ ?_); (simp [go_sem]); simp -implicitDefEqProofs [-List.map_take, -List.map_drop, go_sem, hw0, hb, hbz])
        | (refine run_dreg' (by decide) ?_; simp -implicitDefEqProofs [-List.map_take, -List.map_drop, go_sem, hw0, hb, hbz])
        | ((first | refine end_tup _ (by simp) (by simp [go_sem]; rfl) (by simp [go_sem]) ?_); first | (simp [go_sem, *]; done) | grind | (simp [go_sem]; grind) | (simp_all [go_sem]; done) | (simp_all [go_sem]; omega))
      refine run_iter (l.es.length) (toModuleS_L1 l false A c) (fun i a => True) () (gh_auto (by simp [go_sem, toModuleS_L1, bldE_zero])) (by first | (simp; done) | (simp []; done) | (simp []; omega) | grind) ?_
      intro i a hi hj
      simp -implicitDefEqProofs [-List.map_take, -List.map_drop, go_sem, toModuleS_L1, bldE_zero]
      refine cnd_split (fun hc => ?_) (fun hc => ?_)
      · have hlt : i < l.es.length := by first | (simpa using hc) | (simp at hc; omega)
        simp -implicitDefEqProofs [-List.map_take, -List.map_drop, go_sem, hlt, bldE_zero]
        have hwl : (bldE A c [.str [], .imm [] [] true, .imm [] [] true] i).length = c := bldE_len (by omega) (by omega)
        have hwg : (bldE A c [.str [], .imm [] [] true, .imm [] [] true] i)[i]? = some [.str [], .imm [] [] true, .imm [] [] true] := bldE_get (by omega) (by omega)
        have hws : (bldE A c [.str [], .imm [] [] true, .imm [] [] true] i).set i (tf l.es[i]).C = bldE A c [.str [], .imm [] [] true, .imm [] [] true] (i + 1) := by rw [← hAg i hlt]; exact bldE_set (by omega) (by omega)
        have hwb : ∀ m, ((bldE A c [.str [], .imm [] [] true, .imm [] [] true] (i + 1)).all fun e => e.all (bdV m)) = true := bld_bd (bldE_pure hA hz)
        have hlc : (i : Int) < (c : Int) := by omega
        have hgi := hg l.es[i] (List.getElem_mem hlt)
        repeat' first
          | ((first | refine gv_split (fun h => ?_) (fun h => ?_) | refine cnd_split (fun h => ?_) (fun h => ?_) | refine cgv_split (fun h => ?_) (fun h => ?_)) <;> (try (have hp := h; simp at hp)) <;> simp -implicitDefEqProofs [-List.map_take, -List.map_drop, go_sem, h, hlt, hwl, hlc, hwg, hws, hwb])
          | (refine And.intro (by first | omega | (simp only [maxLen]; omega) | (simp_all; done) | (simp_all; omega)) ?_; try simp -implicitDefEqProofs [-List.map_take, -List.map_drop, go_sem, hlt, hwl, hlc, hwg, hws, hwb])
          | ((first | refine stp_ct (hgi) (by simp [go_sem, hlt, hwl, hlc, hwg, hws, hwb]) ?_ ?_ | refine cstp_ct (hgi) (by simp [go_sem, hlt, hwl, hlc, hwg, hws, hwb]) ?_ ?_); (simp [go_sem]); simp -implicitDefEqProofs [-List.map_take, -List.map_drop, go_sem, hlt, hwl, hlc, hwg, hws, hwb])
          | (refine run_dreg' (by decide) ?_; simp -implicitDefEqProofs [-List.map_take, -List.map_drop, go_sem, hlt, hwl, hlc, hwg, hws, hwb])
          | ((first | refine kx_next () hlt (gh_auto (by simp [go_sem, toModuleS_L1, wrap_succ hlt hm, hlt, hwl, hlc, hwg, hws, hwb])) ?_ | refine end_tup _ (by simp) (by simp [go_sem]; rfl) (by simp [go_sem]) ?_); first | (simp [go_sem, *]; done) | grind | (simp [go_sem]; grind) | (simp_all [go_sem]; done) | (simp_all [go_sem]; omega))
      · have hge : l.es.length ≤ i := by first | (simpa using hc) | (simp at hc; omega)
        try simp -implicitDefEqProofs [-List.map_take, -List.map_drop, go_sem, bldE_zero]
        obtain rfl : i = l.es.length := by omega
        have hwf0 : bldF A r [.str [], .imm [] [] true, .imm [] [] true] fillModule.C 0 = bldE A c [.str [], .imm [] [] true, .imm [] [] true] l.es.length := by rw [← hAl]; exact bldF_zero (by omega)
        have hwb : ∀ m, ((bldE A c [.str [], .imm [] [] true, .imm [] [] true] l.es.length).all fun e => e.all (bdV m)) = true := bld_bd (bldE_pure hA hz)
        refine run_iter (r) (toModuleS_L2 l A c r) (fun i2 a2 => True) () (gh_auto (by simp [go_sem, toModuleS_L2, hwf0, hwb])) (by first | (simp; done) | (simp []; done) | (simp []; omega) | grind) ?_
        intro i2 a2 hi2 hj2
        simp -implicitDefEqProofs [-List.map_take, -List.map_drop, go_sem, toModuleS_L2, hwf0, hwb]
        refine cnd_split (fun hc2 => ?_) (fun hc2 => ?_)
        · have hlt2 : i2 < r := by first | (simpa using hc2) | (simp at hc2; omega)
          simp -implicitDefEqProofs [-List.map_take, -List.map_drop, go_sem, hlt2, hwf0, hwb]
          have hwl2 : (bldF A r [.str [], .imm [] [] true, .imm [] [] true] fillModule.C i2).length = c := by rw [bldF_len (by omega)]; omega
          have hwg2 : (bldF A r [.str [], .imm [] [] true, .imm [] [] true] fillModule.C i2)[l.es.length + i2]? = some [.str [], .imm [] [] true, .imm [] [] true] := by rw [← hAl]; exact bldF_get (by omega)
          have hws2 : (bldF A r [.str [], .imm [] [] true, .imm [] [] true] fillModule.C i2).set (l.es.length + i2) fillModule.C = bldF A r [.str [], .imm [] [] true, .imm [] [] true] fillModule.C (i2 + 1) := by rw [← hAl]; exact bldF_set (by omega)
          have hwb2 : ∀ m, ((bldF A r [.str [], .imm [] [] true, .imm [] [] true] fillModule.C (i2 + 1)).all fun e => e.all (bdV m)) = true := bld_bd (bldF_pure hA hz hfp)
          have hlc2 : (0 : Int) ≤ (l.es.length : Int) + (i2 : Int) ∧ (l.es.length : Int) + (i2 : Int) < (c : Int) := by omega
          have hwt2 : ((l.es.length : Int) + (i2 : Int)).toNat = l.es.length + i2 := by omega
          have hwi2 : IntKind.i64.wrap ((l.es.length : Int) + (i2 : Int) + 1) = (l.es.length : Int) + ((i2 : Int) + 1) := by rw [wrap_small (by omega) (by omega)]; omega
          have hm2 : r ≤ maxLen := by simp only [maxLen]; omega
          repeat' first
            | ((first | refine gv_split (fun h => ?_) (fun h => ?_) | refine cnd_split (fun h => ?_) (fun h => ?_) | refine cgv_split (fun h => ?_) (fun h => ?_)) <;> (try (have hp := h; simp at hp)) <;> simp -implicitDefEqProofs [-List.map_take, -List.map_drop, go_sem, h, hlt2, hwl2, hlc2, hwt2, hwg2, hws2, hwb2, hwi2])
            | (refine And.intro (by first | omega | (simp only [maxLen]; omega) | (simp_all; done) | (simp_all; omega)) ?_; try simp -implicitDefEqProofs [-List.map_take, -List.map_drop, go_sem, hlt2, hwl2, hlc2, hwt2, hwg2, hws2, hwb2, hwi2])
            | ((first | refine stp_ct (fillModule_ct) (by simp [go_sem, hlt2, hwl2, hlc2, hwt2, hwg2, hws2, hwb2, hwi2]) ?_ ?_ | refine cstp_ct (fillModule_ct) (by simp [go_sem, hlt2, hwl2, hlc2, hwt2, hwg2, hws2, hwb2, hwi2]) ?_ ?_); (simp [go_sem]); simp -implicitDefEqProofs [-List.map_take, -List.map_drop, go_sem, hlt2, hwl2, hlc2, hwt2, hwg2, hws2, hwb2, hwi2])
            | (refine run_dreg' (by decide) ?_; simp -implicitDefEqProofs [-List.map_take, -List.map_drop, go_sem, hlt2, hwl2, hlc2, hwt2, hwg2, hws2, hwb2, hwi2])
            | ((first | refine kx_next () hlt2 (gh_auto (by simp [go_sem, toModuleS_L2, wrap_succ hlt2 hm2, hlt2, hwl2, hlc2, hwt2, hwg2, hws2, hwb2, hwi2])) ?_ | refine end_tup _ (by simp) (by simp [go_sem]; rfl) (by simp [go_sem]) ?_); first | (simp [go_sem, *]; done) | grind | (simp [go_sem]; grind) | (simp_all [go_sem]; done) | (simp_all [go_sem]; omega))
        · have hge2 : r ≤ i2 := by first | (simpa using hc2) | (simp at hc2; omega)
          try simp -implicitDefEqProofs [-List.map_take, -List.map_drop, go_sem, hwf0, hwb]
          obtain rfl : i2 = r := by omega
          have hwl3 : (bldF A i2 [.str [], .imm [] [] true, .imm [] [] true] fillModule.C i2).length = c := by rw [bldF_len (by omega)]; omega
          have hwsl : slV [some ⟨bldF A i2 [.str [], .imm [] [] true, .imm [] [] true] fillModule.C i2, 3, 43, true, false⟩] 3 (.ref 0 c 0 c (some c)) none (some (.int .i64 (l.es.length : Int))) none = .ob True (.ref 0 c 0 l.es.length (some c)) := sl_own rfl hwl3 (by omega)
          simp -implicitDefEqProofs [-List.map_take, -List.map_drop, go_sem, hwsl]
          refine end_ref (o := 0) (c := c) (k := l.es.length) (es := bldF A i2 [.str [], .imm [] [] true, .imm [] [] true] fillModule.C i2) (sz := 3) (ty := 43) (arr := true) (frz := false) (by simp) (by simp [go_sem]) (by simp [go_sem]) hwl3 (bldF_pure hA hz hfp) ?_
          rw [bldF_full, ← hAl, List.take_left, List.drop_left]
    · try simp only [Bool.true_and, beq_eq_false_iff_ne, ne_eq] at hb
      have hbz : ((l.es.length : Int) == 0) = decide (l.es.length = 0) := by rw [Bool.eq_iff_iff]; simp
      simp -implicitDefEqProofs [-List.map_take, -List.map_drop, go_sem]
      repeat' first
        | ((first | refine gv_split (fun h => ?_) (fun h => ?_) | refine cnd_split (fun h => ?_) (fun h => ?_) | refine cgv_split (fun h => ?_) (fun h => ?_)) <;> (try (have hp := h; simp at hp)) <;> simp -implicitDefEqProofs [-List.map_take, -List.map_drop, go_sem, h, hw0, hb, hbz])
        | (refine And.intro (by first | omega | (simp only [maxLen]; omega) | (simp_all; done) | (simp_all; omega)) ?_; try simp -implicitDefEqProofs [-List.map_take, -List.map_drop, go_sem, hw0, hb, hbz])
        | ((first | refine stp_ct (hrm) (by simp [go_sem, hw0, hb, hbz]) ?_ ?_ | refine cstp_ct (hrm) (by simp [go_sem, hw0, hb, hbz]) ?_ ?_); (simp [go_sem]); simp -implicitDefEqProofs [-List.map_take, -List.map_drop, go_sem, hw0, hb, hbz])
        | (refine run_dreg' (by decide) ?_; simp -implicitDefEqProofs [-List.map_take, -List.map_drop, go_sem, hw0, hb, hbz])
        | ((first | refine end_tup _ (by simp) (by simp [go_sem]; rfl) (by simp [go_sem]) ?_); first | (simp [go_sem, *]; done) | grind | (simp [go_sem]; grind) | (simp_all [go_sem]; done) | (simp_all [go_sem]; omega))
      refine run_iter (l.es.length) (toModuleS_L1 l true A c) (fun i a => True) () (gh_auto (by simp [go_sem, toModuleS_L1, bldE_zero])) (by first | (simp; done) | (simp []; done) | (simp []; omega) | grind) ?_
      intro i a hi hj
      simp -implicitDefEqProofs [-List.map_take, -List.map_drop, go_sem, toModuleS_L1, bldE_zero]
      refine cnd_split (fun hc => ?_) (fun hc => ?_)
      · have hlt : i < l.es.length := by first | (simpa using hc) | (simp at hc; omega)
        simp -implicitDefEqProofs [-List.map_take, -List.map_drop, go_sem, hlt, bldE_zero]
        have hwl : (bldE A c [.str [], .imm [] [] true, .imm [] [] true] i).length = c := bldE_len (by omega) (by omega)
        have hwg : (bldE A c [.str [], .imm [] [] true, .imm [] [] true] i)[i]? = some [.str [], .imm [] [] true, .imm [] [] true] := bldE_get (by omega) (by omega)
        have hws : (bldE A c [.str [], .imm [] [] true, .imm [] [] true] i).set i (tf l.es[i]).C = bldE A c [.str [], .imm [] [] true, .imm [] [] true] (i + 1) := by rw [← hAg i hlt]; exact bldE_set (by omega) (by omega)
        have hwb : ∀ m, ((bldE A c [.str [], .imm [] [] true, .imm [] [] true] (i + 1)).all fun e => e.all (bdV m)) = true := bld_bd (bldE_pure hA hz)
        have hlc : (i : Int) < (c : Int) := by omega
        have hgi := hg l.es[i] (List.getElem_mem hlt)
        repeat' first
          | ((first | refine gv_split (fun h => ?_) (fun h => ?_) | refine cnd_split (fun h => ?_) (fun h => ?_) | refine cgv_split (fun h => ?_) (fun h => ?_)) <;> (try (have hp := h; simp at hp)) <;> simp -implicitDefEqProofs [-List.map_take, -List.map_drop, go_sem, h, hlt, hwl, hlc, hwg, hws, hwb])
          | (refine And.intro (by first | omega | (simp only [maxLen]; omega) | (simp_all; done) | (simp_all; omega)) ?_; try simp -implicitDefEqProofs [-List.map_take, -List.map_drop, go_sem, hlt, hwl, hlc, hwg, hws, hwb])
          | ((first | refine stp_ct (hgi) (by simp [go_sem, hlt, hwl, hlc, hwg, hws, hwb]) ?_ ?_ | refine cstp_ct (hgi) (by simp [go_sem, hlt, hwl, hlc, hwg, hws, hwb]) ?_ ?_); (simp [go_sem]); simp -implicitDefEqProofs [-List.map_take, -List.map_drop, go_sem, hlt, hwl, hlc, hwg, hws, hwb])
          | (refine run_dreg' (by decide) ?_; simp -implicitDefEqProofs [-List.map_take, -List.map_drop, go_sem, hlt, hwl, hlc, hwg, hws, hwb])
          | ((first | refine kx_next () hlt (gh_auto (by simp [go_sem, toModuleS_L1, wrap_succ hlt hm, hlt, hwl, hlc, hwg, hws, hwb])) ?_ | refine end_tup _ (by simp) (by simp [go_sem]; rfl) (by simp [go_sem]) ?_); first | (simp [go_sem, *]; done) | grind | (simp [go_sem]; grind) | (simp_all [go_sem]; done) | (simp_all [go_sem]; omega))
      · have hge : l.es.length ≤ i := by first | (simpa using hc) | (simp at hc; omega)
        try simp -implicitDefEqProofs [-List.map_take, -List.map_drop, go_sem, bldE_zero]
        obtain rfl : i = l.es.length := by omega
        have hwf0 : bldF A r [.str [], .imm [] [] true, .imm [] [] true] fillModule.C 0 = bldE A c [.str [], .imm [] [] true, .imm [] [] true] l.es.length := by rw [← hAl]; exact bldF_zero (by omega)
        have hwb : ∀ m, ((bldE A c [.str [], .imm [] [] true, .imm [] [] true] l.es.length).all fun e => e.all (bdV m)) = true := bld_bd (bldE_pure hA hz)
        refine run_iter (r) (toModuleS_L2 l A c r) (fun i2 a2 => True) () (gh_auto (by simp [go_sem, toModuleS_L2, hwf0, hwb])) (by first | (simp; done) | (simp []; done) | (simp []; omega) | grind) ?_
        intro i2 a2 hi2 hj2
        simp -implicitDefEqProofs [-List.map_take, -List.map_drop, go_sem, toModuleS_L2, hwf0, hwb]
        refine cnd_split (fun hc2 => ?_) (fun hc2 => ?_)
        · have hlt2 : i2 < r := by first | (simpa using hc2) | (simp at hc2; omega)
          simp -implicitDefEqProofs [-List.map_take, -List.map_drop, go_sem, hlt2, hwf0, hwb]
          have hwl2 : (bldF A r [.str [], .imm [] [] true, .imm [] [] true] fillModule.C i2).length = c := by rw [bldF_len (by omega)]; omega
          have hwg2 : (bldF A r [.str [], .imm [] [] true, .imm [] [] true] fillModule.C i2)[l.es.length + i2]? = some [.str [], .imm [] [] true, .imm [] [] true] := by rw [← hAl]; exact bldF_get (by omega)
          have hws2 : (bldF A r [.str [], .imm [] [] true, .imm [] [] true] fillModule.C i2).set (l.es.length + i2) fillModule.C = bldF A r [.str [], .imm [] [] true, .imm [] [] true] fillModule.C (i2 + 1) := by rw [← hAl]; exact bldF_set (by omega)
          have hwb2 : ∀ m, ((bldF A r [.str [], .imm [] [] true, .imm [] [] true] fillModule.C (i2 + 1)).all fun e => e.all (bdV m)) = true := bld_bd (bldF_pure hA hz hfp)
          have hlc2 : (0 : Int) ≤ (l.es.length : Int) + (i2 : Int) ∧ (l.es.length : Int) + (i2 : Int) < (c : Int) := by omega
          have hwt2 : ((l.es.length : Int) + (i2 : Int)).toNat = l.es.length + i2 := by omega
          have hwi2 : IntKind.i64.wrap ((l.es.length : Int) + (i2 : Int) + 1) = (l.es.length : Int) + ((i2 : Int) + 1) := by rw [wrap_small (by omega) (by omega)]; omega
          have hm2 : r ≤ maxLen := by simp only [maxLen]; omega
          repeat' first
            | ((first | refine gv_split (fun h => ?_) (fun h => ?_) | refine cnd_split (fun h => ?_) (fun h => ?_) | refine cgv_split (fun h => ?_) (fun h => ?_)) <;> (try (have hp := h; simp at hp)) <;> simp -implicitDefEqProofs [-List.map_take, -List.map_drop, go_sem, h, hlt2, hwl2, hlc2, hwt2, hwg2, hws2, hwb2, hwi2])
            | (refine And.intro (by first | omega | (simp only [maxLen]; omega) | (simp_all; done) | (simp_all; omega)) ?_; try simp -implicitDefEqProofs [-List.map_take, -List.map_drop, go_sem, hlt2, hwl2, hlc2, hwt2, hwg2, hws2, hwb2, hwi2])
            | ((first | refine stp_ct (fillModule_ct) (by simp [go_sem, hlt2, hwl2, hlc2, hwt2, hwg2, hws2, hwb2, hwi2]) ?_ ?_ | refine cstp_ct (fillModule_ct) (by simp [go_sem, hlt2, hwl2, hlc2, hwt2, hwg2, hws2, hwb2, hwi2]) ?_ ?_); (simp [go_sem]); simp -implicitDefEqProofs [-List.map_take, -List.map_drop, go_sem, hlt2, hwl2, hlc2, hwt2, hwg2, hws2, hwb2, hwi2])
            | (refine run_dreg' (by decide) ?_; simp -implicitDefEqProofs [-List.map_take, -List.map_drop, go_sem, hlt2, hwl2, hlc2, hwt2, hwg2, hws2, hwb2, hwi2])
            | ((first | refine kx_next () hlt2 (gh_auto (by simp [go_sem, toModuleS_L2, wrap_succ hlt2 hm2, hlt2, hwl2, hlc2, hwt2, hwg2, hws2, hwb2, hwi2])) ?_ | refine end_tup _ (by simp) (by simp [go_sem]; rfl) (by simp [go_sem]) ?_); first | (simp [go_sem, *]; done) | grind | (simp [go_sem]; grind) | (simp_all [go_sem]; done) | (simp_all [go_sem]; omega))
        · have hge2 : r ≤ i2 := by first | (simpa using hc2) | (simp at hc2; omega)
          try simp -implicitDefEqProofs [-List.map_take, -List.map_drop, go_sem, hwf0, hwb]
          obtain rfl : i2 = r := by omega
          have hwl3 : (bldF A i2 [.str [], .imm [] [] true, .imm [] [] true] fillModule.C i2).length = c := by rw [bldF_len (by omega)]; omega
          have hwsl : slV [some ⟨bldF A i2 [.str [], .imm [] [] true, .imm [] [] true] fillModule.C i2, 3, 43, true, false⟩] 3 (.ref 0 c 0 c (some c)) none (some (.int .i64 (l.es.length : Int))) none = .ob True (.ref 0 c 0 l.es.length (some c)) := sl_own rfl hwl3 (by omega)
          simp -implicitDefEqProofs [-List.map_take, -List.map_drop, go_sem, hwsl]
          refine end_ref (o := 0) (c := c) (k := l.es.length) (es := bldF A i2 [.str [], .imm [] [] true, .imm [] [] true] fillModule.C i2) (sz := 3) (ty := 43) (arr := true) (frz := false) (by simp) (by simp [go_sem]) (by simp [go_sem]) hwl3 (bldF_pure hA hz hfp) ?_
          rw [bldF_full, ← hAl, List.take_left, List.drop_left]
  · have h1 := hcase hb
    subst h1
    simp at hb
    obtain ⟨rfl, hb⟩ := hb
    have hbt : ((l.es.length : Int) == 0) = true := by simp [hb]
    simp -implicitDefEqProofs [-List.map_take, -List.map_drop, go_sem, hbt]
    repeat' first
      | ((first | refine gv_split (fun h => ?_) (fun h => ?_) | refine cnd_split (fun h => ?_) (fun h => ?_) | refine cgv_split (fun h => ?_) (fun h => ?_)) <;> (try (have hp := h; simp at hp)) <;> simp -implicitDefEqProofs [-List.map_take, -List.map_drop, go_sem, h, hbt])
      | (refine And.intro (by first | omega | (simp only [maxLen]; omega) | (simp_all; done) | (simp_all; omega)) ?_; try simp -implicitDefEqProofs [-List.map_take, -List.map_drop, go_sem, hbt])
      | (refine run_dreg' (by decide) ?_; simp -implicitDefEqProofs [-List.map_take, -List.map_drop, go_sem, hbt])
      | ((first | refine end_tup _ (by simp) (by simp [go_sem]; rfl) (by simp [go_sem]) ?_); first | (simp [go_sem, *]; done) | grind | (simp [go_sem]; grind) | (simp_all [go_sem]; done) | (simp_all [go_sem]; omega))
theorem toP_ct (p : Sl LModule) (bare : Bool) (hs : SmP (p.es.map LModule.core)) : Ct Tryz.prog 13 [p.I LModule.C, .bool bare] ((toP bare p.es).I LModule.C) :=
  toModuleS_ct p bare (by simpa using hs.1) (toM bare) (fun a ha => toModule_ct a bare (hs.2 _ (List.mem_map_of_mem ha)))
end Go.Mach
