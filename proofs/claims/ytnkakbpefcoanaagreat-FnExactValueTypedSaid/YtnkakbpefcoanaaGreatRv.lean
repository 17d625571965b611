/- PROVED: whatever list of modules, value and text it is called with, laws.FnExactValueTyped returns true, and the arguments read behind the call as they read before it. Conditions: none beyond the row's own. -/
import Derived.Test.YtnkakbpefcoanaaGreatMh
import Derived.Test.YtnkakbpefcoanaaGreatWe
import Derived.Test.YtnkakbpefcoanaaGreatWt
import Derived.Test.YtnkakbpefcoanaaGreatMg
import Derived.Test.YtnkakbpefcoanaaGreatRows
import Derived.ProofKit
/- The arguments of the laws, read. -/
set_option maxHeartbeats 4000000
namespace Go.Mach
open Go Go.Proofs
set_option linter.unusedVariables false
set_option linter.unusedSimpArgs false

section
variable {H : Type} {enc : TypeId × Value → H} {w : World}
theorem rd_all {cs : List Value} {n : Nat} {a : List PV} (hl : cs.length = n) (h : Rd w a ((cs.drop 0).take n)) : Rd w a cs := by
  rwa [List.drop_zero, ← hl, List.take_length] at h
theorem Expr_mk_C (k n : Int) (t : Str) (es : List LExpr) (ss : List (List PV)) (lim : Bool) : (LExpr.mk k n t es ss lim).C = [.int .i64 k, .int .i64 n, .str t, .imm (es.map LExpr.C) ss lim] := by rw [LExpr.C_eq]; rfl

theorem cells_int : Tryz.prog.cellsOf 3 = 1 := by kernel_rfl
theorem cells_str : Tryz.prog.cellsOf 9 = 1 := by kernel_rfl
theorem cells_exprs : Tryz.prog.cellsOf 41 = 1 := by kernel_rfl
theorem cells_binds : Tryz.prog.cellsOf 152 = 1 := by kernel_rfl
theorem cells_uses : Tryz.prog.cellsOf 53 = 1 := by kernel_rfl
theorem cells_decls : Tryz.prog.cellsOf 54 = 1 := by kernel_rfl
theorem cells_modules : Tryz.prog.cellsOf 22 = 1 := by kernel_rfl
theorem cells_expr : Tryz.prog.cellsOf 43 = 4 := by kernel_rfl
theorem cells_bind : Tryz.prog.cellsOf 204 = 2 := by kernel_rfl
theorem cells_use : Tryz.prog.cellsOf 150 = 2 := by kernel_rfl
theorem cells_decl : Tryz.prog.cellsOf 154 = 8 := by kernel_rfl
theorem cells_module : Tryz.prog.cellsOf 56 = 3 := by kernel_rfl
theorem rd_expr : ∀ (fuel : Nat) (cs : List Value), Trd enc Tryz.prog w fuel 43 cs → ∃ x : LExpr, Rd w x.C cs := by
  intro fuel
  induction fuel using Nat.strongRecOn with
  | _ fuel ih =>
  intro cs h
  obtain ⟨n, rfl⟩ := trd_pos h
  have hf := rd_fields Tryz.underlying43 h
  rw [cells_expr] at hf
  have q0 := hf.2 0 _ rfl
  simp only [cells_int] at q0
  have q1 := hf.2 1 _ rfl
  simp only [cells_int] at q1
  have q2 := hf.2 2 _ rfl
  simp only [cells_str] at q2
  have q3 := hf.2 3 _ rfl
  simp only [cells_exprs] at q3
  obtain ⟨k, p0⟩ := rd_int Tryz.underlying3 q0
  obtain ⟨m, p1⟩ := rd_int Tryz.underlying3 q1
  obtain ⟨t, p2⟩ := rd_str Tryz.underlying9 q2
  obtain ⟨es, esS, esL, p3⟩ : ∃ (es ss : List LExpr) (lim : Bool), Rd w [.imm (es.map LExpr.C) (ss.map LExpr.C) lim] _ := by
    obtain ⟨m', rfl⟩ := trd_pos q3
    exact rd_slice LExpr.C Tryz.underlying41 cells_expr LExpr.C_len (by decide) (fun cs h => ih m' (by omega) cs h) q3
  refine ⟨.mk k m t es (esS.map LExpr.C) esL, ?_⟩
  rw [Expr_mk_C]
  exact rd_all hf.1 (rd_cut 0 1 3 p0 (rd_cut 1 1 2 p1 (rd_cut 2 1 1 p2 p3)))
theorem rd_exprs {fuel : Nat} {cs : List Value} (h : Trd enc Tryz.prog w fuel 41 cs) : ∃ x : Sl LExpr, Rd w [x.I LExpr.C] cs := by
  obtain ⟨n, rfl⟩ := trd_pos h
  obtain ⟨es, ss, lim, h⟩ := rd_slice LExpr.C Tryz.underlying41 cells_expr LExpr.C_len (by decide) (fun cs h => rd_expr _ cs h) h
  exact ⟨⟨es, ss.map LExpr.C, lim⟩, h⟩
theorem rd_bind (fuel : Nat) (cs : List Value) (h : Trd enc Tryz.prog w fuel 204 cs) : ∃ x : Bind, Rd w x.C cs := by
  obtain ⟨n, rfl⟩ := trd_pos h
  have hf := rd_fields Tryz.underlying204 h
  rw [cells_bind] at hf
  have q0 := hf.2 0 _ rfl
  simp only [cells_str] at q0
  have q1 := hf.2 1 _ rfl
  simp only [cells_str] at q1
  obtain ⟨a, p0⟩ := rd_str Tryz.underlying9 q0
  obtain ⟨b, p1⟩ := rd_str Tryz.underlying9 q1
  exact ⟨⟨a, b⟩, rd_all hf.1 (rd_cut 0 1 1 p0 p1)⟩
theorem rd_use (fuel : Nat) (cs : List Value) (h : Trd enc Tryz.prog w fuel 150 cs) : ∃ x : Use, Rd w x.C cs := by
  obtain ⟨n, rfl⟩ := trd_pos h
  have hf := rd_fields Tryz.underlying150 h
  rw [cells_use] at hf
  have q0 := hf.2 0 _ rfl
  simp only [cells_str] at q0
  have q1 := hf.2 1 _ rfl
  simp only [cells_str] at q1
  obtain ⟨a, p0⟩ := rd_str Tryz.underlying9 q0
  obtain ⟨b, p1⟩ := rd_str Tryz.underlying9 q1
  exact ⟨⟨a, b⟩, rd_all hf.1 (rd_cut 0 1 1 p0 p1)⟩
theorem rd_binds {fuel : Nat} {cs : List Value} (h : Trd enc Tryz.prog w fuel 152 cs) : ∃ x : Sl Bind, Rd w [x.I Bind.C] cs := by
  obtain ⟨n, rfl⟩ := trd_pos h
  obtain ⟨es, ss, lim, h⟩ := rd_slice Bind.C Tryz.underlying152 cells_bind Bind.C_len (by decide) (fun cs h => rd_bind _ cs h) h
  exact ⟨⟨es, ss.map Bind.C, lim⟩, h⟩
theorem rd_uses {fuel : Nat} {cs : List Value} (h : Trd enc Tryz.prog w fuel 53 cs) : ∃ x : Sl Use, Rd w [x.I Use.C] cs := by
  obtain ⟨n, rfl⟩ := trd_pos h
  obtain ⟨es, ss, lim, h⟩ := rd_slice Use.C Tryz.underlying53 cells_use Use.C_len (by decide) (fun cs h => rd_use _ cs h) h
  exact ⟨⟨es, ss.map Use.C, lim⟩, h⟩
theorem rd_decl (fuel : Nat) (cs : List Value) (h : Trd enc Tryz.prog w fuel 154 cs) : ∃ x : LDecl, Rd w x.C cs := by
  obtain ⟨n, rfl⟩ := trd_pos h
  have hf := rd_fields Tryz.underlying154 h
  rw [cells_decl] at hf
  have q0 := hf.2 0 _ rfl
  simp only [cells_int] at q0
  have q1 := hf.2 1 _ rfl
  simp only [cells_str] at q1
  have q2 := hf.2 2 _ rfl
  simp only [cells_binds] at q2
  have q3 := hf.2 3 _ rfl
  simp only [cells_str] at q3
  have q4 := hf.2 4 _ rfl
  simp only [cells_expr] at q4
  obtain ⟨k, p0⟩ := rd_int Tryz.underlying3 q0
  obtain ⟨nm, p1⟩ := rd_str Tryz.underlying9 q1
  obtain ⟨bs, p2⟩ := rd_binds q2
  obtain ⟨ty, p3⟩ := rd_str Tryz.underlying9 q3
  obtain ⟨bd, p4⟩ := rd_expr _ _ q4
  rw [LExpr.C_eq] at p4
  exact ⟨⟨k, nm, bs, ty, bd⟩, rd_all hf.1 (rd_cut 0 1 7 p0 (rd_cut 1 1 6 p1 (rd_cut 2 1 5 p2 (rd_cut 3 1 4 p3 p4))))⟩
theorem rd_decls {fuel : Nat} {cs : List Value} (h : Trd enc Tryz.prog w fuel 54 cs) : ∃ x : Sl LDecl, Rd w [x.I LDecl.C] cs := by
  obtain ⟨n, rfl⟩ := trd_pos h
  obtain ⟨es, ss, lim, h⟩ := rd_slice LDecl.C Tryz.underlying54 cells_decl LDecl.C_len (by decide) (fun cs h => rd_decl _ cs h) h
  exact ⟨⟨es, ss.map LDecl.C, lim⟩, h⟩
theorem rd_module (fuel : Nat) (cs : List Value) (h : Trd enc Tryz.prog w fuel 56 cs) : ∃ x : LModule, Rd w x.C cs := by
  obtain ⟨n, rfl⟩ := trd_pos h
  have hf := rd_fields Tryz.underlying56 h
  rw [cells_module] at hf
  have q0 := hf.2 0 _ rfl
  simp only [cells_str] at q0
  have q1 := hf.2 1 _ rfl
  simp only [cells_uses] at q1
  have q2 := hf.2 2 _ rfl
  simp only [cells_decls] at q2
  obtain ⟨nm, p0⟩ := rd_str Tryz.underlying9 q0
  obtain ⟨us, p1⟩ := rd_uses q1
  obtain ⟨ds, p2⟩ := rd_decls q2
  exact ⟨⟨nm, us, ds⟩, rd_all hf.1 (rd_cut 0 1 2 p0 (rd_cut 1 1 1 p1 p2))⟩
theorem rd_modules {fuel : Nat} {cs : List Value} (h : Trd enc Tryz.prog w fuel 22 cs) : ∃ x : Sl LModule, Rd w [x.I LModule.C] cs := by
  obtain ⟨n, rfl⟩ := trd_pos h
  obtain ⟨es, ss, lim, h⟩ := rd_slice LModule.C Tryz.underlying22 cells_module LModule.C_len (by decide) (fun cs h => rd_module _ cs h) h
  exact ⟨⟨es, ss.map LModule.C, lim⟩, h⟩
end

section
variable {H : Type} {enc : TypeId × Value → H} {w : World}
theorem cells_values : Tryz.prog.cellsOf 28 = 1 := by kernel_rfl
theorem cells_value : Tryz.prog.cellsOf 30 = 4 := by kernel_rfl
theorem rd_value : ∀ (fuel : Nat) (cs : List Value), Trd enc Tryz.prog w fuel 30 cs → ∃ x : LExpr, Rd w x.C cs := by
  intro fuel
  induction fuel using Nat.strongRecOn with
  | _ fuel ih =>
  intro cs h
  obtain ⟨n, rfl⟩ := trd_pos h
  have hf := rd_fields Tryz.underlying30 h
  rw [cells_value] at hf
  have q0 := hf.2 0 _ rfl
  simp only [cells_int] at q0
  have q1 := hf.2 1 _ rfl
  simp only [cells_int] at q1
  have q2 := hf.2 2 _ rfl
  simp only [cells_str] at q2
  have q3 := hf.2 3 _ rfl
  simp only [cells_values] at q3
  obtain ⟨k, p0⟩ := rd_int Tryz.underlying3 q0
  obtain ⟨m, p1⟩ := rd_int Tryz.underlying3 q1
  obtain ⟨t, p2⟩ := rd_str Tryz.underlying9 q2
  obtain ⟨es, esS, esL, p3⟩ : ∃ (es ss : List LExpr) (lim : Bool), Rd w [.imm (es.map LExpr.C) (ss.map LExpr.C) lim] _ := by
    obtain ⟨m', rfl⟩ := trd_pos q3
    exact rd_slice LExpr.C Tryz.underlying28 cells_value LExpr.C_len (by decide) (fun cs h => ih m' (by omega) cs h) q3
  refine ⟨.mk k m t es (esS.map LExpr.C) esL, ?_⟩
  rw [Expr_mk_C]
  exact rd_all hf.1 (rd_cut 0 1 3 p0 (rd_cut 1 1 2 p1 (rd_cut 2 1 1 p2 p3)))
theorem rd_values {fuel : Nat} {cs : List Value} (h : Trd enc Tryz.prog w fuel 28 cs) : ∃ x : Sl LExpr, Rd w [x.I LExpr.C] cs := by
  obtain ⟨n, rfl⟩ := trd_pos h
  obtain ⟨es, ss, lim, h⟩ := rd_slice LExpr.C Tryz.underlying28 cells_value LExpr.C_len (by decide) (fun cs h => rd_value _ cs h) h
  exact ⟨⟨es, ss.map LExpr.C, lim⟩, h⟩
theorem rd_len {x : Sl LModule} {a : Option Addr} {len cap : Nat} (h : Rd w [x.I LModule.C] [.slice a len cap]) : x.es.length = len := by
  have h1 := h.2 0 _ _ rfl rfl
  generalize hy : x.I LModule.C = y at h1
  cases h1 <;> simp [Sl.I] at hy
  obtain ⟨rfl, _⟩ := hy
  simp
theorem rd_agg {B : Nat → Prop} {xs : List PV} {cs : Array Value} (h : IRs w B xs cs.toList) : IR w B (.agg xs) (.agg cs) := by
  have := IR.agg (w := w) (B := B) xs cs.toList h.1 h.2
  simpa using this
theorem rd_string {s : ByteArray} (h : s.size ≤ maxLen) : Rd w [.str s.data.toList] [.string s] := by
  have := IR.str (w := w) (B := fun _ => True) s.data.toList (by rw [Array.length_toList]; exact h)
  refine .one ?_
  simpa using this
end
end Go.Mach

/- The rows of this seat whose law is walked whole. -/
set_option maxHeartbeats 4000000
namespace Go.Proofs.YtnkakbpefcoanaaGreat
open Go Go.Mach Go.ChangeShapes Go.WideShapes Go.ChangeAt Go.RowKit
set_option linter.unusedVariables false

theorem Tryz.own : ownKnob Tryz.prog.godebug = none := by kernel_rfl
theorem Tryz.laidOut : laidOutB Tryz.prog = true := by kernel_rfl
theorem low_pos : decide (Tryz.prog.globals.size < Tryz.prog.low) = true := by kernel_rfl
theorem low_le {W : World} (h : W.ShapedOpen Tryz.prog) : Tryz.prog.low ≤ W.heap.size := by
  have h0 := of_decide_eq_true low_pos
  obtain ⟨o, _, h1, _⟩ := h.2 (Tryz.prog.low - 1) (by omega) (by show _ < Tryz.prog.low; omega)
  have := (Array.getElem?_eq_some_iff.1 h1).1
  omega

set_option maxRecDepth 100000 in
theorem fnExactValueTyped_lifted (os : Os) (started : os.Started) (H : Type) (enc : TypeId × Value → H) :
    ReturnsInHanded {} Tryz.checked os 4 .any (Rows.fnExactValueTypedSpec.pre6 enc Tryz.prog Tryz.f4 Rows.fnExactValueTypedRow.domain false) (Rows.fnExactValueTypedSpec.post enc Tryz.prog Tryz.f4 false true false false) := by
  refine returnsInHanded_of_change_shaped (C := Tryz.checked) Tryz.own started (by kernel_rfl) Tryz.func4
    (ChangeSpec.witness6 (enc := enc) (C := Tryz.checked) false ⟨#[], #[.slice none 0 0, .agg #[.int .i64 0, .int .i64 0, .string ⟨#[]⟩, .slice none 0 0], .string ⟨#[]⟩], []⟩ 8 (by kernel_rfl) (by kernel_rfl) (by kernel_rfl) (by kernel_rfl)) ?_
  intro W base args ds gs before hval0 hW hcnd hwt0 hsh _
  have hW' := hW
  obtain ⟨p, q, hA0, hV, rfl, hfz, hnd⟩ := hW
  have hA : DataW.TrodAll enc Tryz.prog W 0 (fun _ => true) true Tryz.f4.params.toList args.toList ds p := hA0
  have hval : ∀ (j : Nat) t v, Tryz.f4.params[j]? = some t → args[j]? = some v → Value.okWide Tryz.prog W .any base t v := hval0
  have hwt : (DataW.weightsEach Tryz.prog (Tryz.f4.params.toList ++ DataSpec.varTypes Tryz.prog Rows.fnExactValueTypedSpec.plain) (ds ++ gs)).all (fun x => decide (x ≤ reachBytes)) = true := hwt0
  rw [Tryz.params4] at hA hval hwt
  obtain ⟨v0, v1, v2, d0, d1, d2, p0, p1, p2, rfl, rfl, rfl, h0, h1, h2⟩ := trodAll_three hA
  obtain ⟨rfl, rfl⟩ := trodVars_none hV
  obtain ⟨f0, k0⟩ := h0
  obtain ⟨f1, k1⟩ := h1
  obtain ⟨f2, k2⟩ := h2
  obtain ⟨x, hx⟩ := rd_modules (enc := enc) (w := W) (cs := v0.cells.toList) ⟨_, _, k0⟩
  obtain ⟨y, hy⟩ := rd_value (enc := enc) (w := W) _ _ ⟨_, _, k1⟩
  obtain ⟨a0, n0, c0, rfl⟩ := okWide_slice Tryz.underlying22 (hval 0 _ _ rfl rfl)
  obtain ⟨cs, rfl, _⟩ := okWide_struct Tryz.underlying30 (hval 1 _ _ rfl rfl)
  obtain ⟨s, rfl⟩ := okWide_string Tryz.underlying9 (hval 2 _ _ rfl rfl)
  obtain ⟨s', hs1, hs2, hs3⟩ := DataW.trod_string Tryz.underlying9 k2
  have hse : s = s' := by
    have : ([.string s] : List Value) = [.string s'] := hs1
    simpa using this
  subst hse
  have hd2 : d2 = .lit (.string s.data.toList) := (Prod.ext_iff.1 hs2).1
  subst hd2
  have hlx := rd_len hx
  simp only [List.cons_append, List.nil_append, DataW.weightsEach, List.all_append, Bool.and_eq_true] at hwt
  obtain ⟨hw0, _, hw2, _⟩ := hwt
  have hts : s.data.toList.length ≤ 140737488355328 := by
    have h3 := of_decide_eq_true (List.all_eq_true.1 hw2 s.data.toList.length (by rw [DataW.weights]; exact List.mem_singleton.2 rfl))
    have h4 : reachBytes = 140737488351232 := rfl
    omega
  have hpos : 0 < Tryz.prog.bytesOf 56 := of_decide_eq_true (by kernel_rfl)
  have hxs : x.es.length ≤ 140737488355328 := by
    rcases DataW.trod_slice Tryz.underlying22 k0 with ⟨hn1, _⟩ | ⟨a, len, cap, elems, rest, n, _, hn1, hn2, _, _, _, hl, _⟩
    · have : ([.slice a0 n0 c0] : List Value) = [.slice none 0 0] := hn1
      simp at this
      omega
    · have h3 : ([.slice a0 n0 c0] : List Value) = [.slice (some a) len cap] := hn1
      simp at h3
      have hd0 := (Prod.ext_iff.1 hn2).1
      simp only at hd0
      subst hd0
      have h4 := of_decide_eq_true (List.all_eq_true.1 hw0 (((elems.map (·.1)).length + (rest.map (·.1)).length) * Tryz.prog.bytesOf 56) (by rw [DataW.weights, Tryz.underlying22]; exact List.mem_cons_self))
      rw [List.length_map, List.length_map] at h4
      have h6 : reachBytes = 140737488351232 := rfl
      have h5 : elems.length + rest.length ≤ (elems.length + rest.length) * Tryz.prog.bytesOf 56 := Nat.le_mul_of_pos_right _ hpos
      omega
  refine (ct_calls_bool (lawValueTyped_ct x y s.data.toList hts hxs) hsh (low_le hsh) (IRs.append (xs := [x.I LModule.C]) (us := [.slice a0 n0 c0]) hx (IRs.append (xs := [.agg y.C]) (us := [.agg cs]) (.one (rd_agg hy)) (rd_string hs3)))).mono fun e W' ⟨he, hb⟩ => ?_
  subst he
  exact ⟨_, rfl, post_true Tryz.laidOut (by kernel_rfl) (tb := Tryz.f4.resultTypes[0]) (by kernel_rfl) (by kernel_rfl) rfl ⟨rfl, rfl, rfl⟩ hW' hb⟩

theorem fnExactValueTyped_named : Tryz.pinned.checked.prog.funcNamed Rows.fnExactValueTypedRow.func = some 4 := by kernel_rfl
theorem fnExactValueTyped_instance : Tryz.f4.isInstance Tryz.pinned.checked.prog Rows.fnExactValueTypedRow.origin Rows.fnExactValueTypedRow.targs := of_decide_eq_true (by kernel_rfl)
theorem fnExactValueTyped_wrapper : Tryz.f4.isWrapper Tryz.pinned.checked.prog Rows.fnExactValueTypedRow.wrapper Rows.fnExactValueTypedRow.mainSum := by unfold Func.isWrapper; rw [if_neg (of_decide_eq_false (by kernel_rfl))]; exact ⟨rfl, rfl⟩
theorem fnExactValueTyped_joined : joinedFacts Tryz.pinned.checked.prog 4 Tryz.f4 Rows.fnExactValueTypedSpec Rows.fnExactValueTypedRow = true := by kernel_rfl
theorem fnExactValueTyped_holds : Rows.FnExactValueTypedSaid :=
  OpenClaim.holds_of_wide 4 Tryz.f4 rfl rfl rfl rfl rfl rfl rfl ⟨rfl, rfl, rfl, rfl, rfl⟩ rfl rfl rfl rfl rfl fnExactValueTyped_named Tryz.func4 fnExactValueTyped_joined
    fnExactValueTyped_instance fnExactValueTyped_wrapper
    (fun os started H enc _ => fnExactValueTyped_lifted os started H enc)
#print axioms fnExactValueTyped_holds
end Go.Proofs.YtnkakbpefcoanaaGreat
