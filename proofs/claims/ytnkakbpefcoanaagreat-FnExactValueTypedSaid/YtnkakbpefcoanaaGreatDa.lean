import Derived.Test.YtnkakbpefcoanaaGreatMh
import Derived.Lib.IndexMore
/- The program's data: as they lie in memory, to be read only (C), and as they are (core). -/
namespace Go.Mach
open Go
set_option linter.unusedVariables false
set_option linter.unusedSimpArgs false

abbrev Str := List UInt8
def strC (s : Str) : List PV := [.str s]
def intC (n : Int) : List PV := [.int .i64 n]
/-- A slice: what it shows, what lies behind, and whether no more does. -/
structure Sl (α : Type) where
  es : List α
  sp : List (List PV)
  lim : Bool
def Sl.I {α : Type} (f : α → List PV) (s : Sl α) : PV := .imm (s.es.map f) s.sp s.lim
theorem allBd_of_pure {m : Nat} {l : List PV} (h : pureL l = true) : (l.all (bdV m)) = true := List.all_eq_true.2 fun x hx => bd_pure x (pureL_iff.1 h x hx)
theorem noOwn_of_pure : ∀ {l : List PV}, pureL l = true → l.any isOwn = false := fun {l} h => by
  rw [List.any_eq_false]
  intro x hx hc
  have := pureL_iff.1 h x hx
  cases x <;> simp_all [isOwn, pureV]
theorem noOwnTD {l : List PV} (h : l.any isOwn = false) (k n : Nat) : ((l.drop k).take n).any isOwn = false := by
  rw [List.any_eq_false] at h ⊢
  exact fun x hx => h x (List.mem_of_mem_drop (List.mem_of_mem_take hx))
def fldC (ag : Bool) (off sz : Nat) (cs : List PV) : Ev := if ag then (if off + sz ≤ cs.length then .ok (.agg ((cs.drop off).take sz)) else .bad) else match cs[off]? with
    | some v => .ok v
    | none => .bad
theorem fldV_agg {ag : Bool} {off sz : Nat} {cs : List PV} : fldV ag off sz (.agg cs) = fldC ag off sz cs := rfl
theorem newV_cs {σ : Heap} {ty : Nat} {cs : List PV} (h : cs.all cellV = true) : newV σ ty cs = .hp True (.ptr σ.length 1 0 0) (σ ++ [some ⟨[cs], cs.length, ty, false, false⟩]) := by simp [newV, h]
@[simp] theorem strC_len {s : Str} : (strC s).length = 1 := rfl
@[simp] theorem intC_len {s : Int} : (intC s).length = 1 := rfl
@[simp] theorem strC_bd {m : Nat} {s : Str} : (strC s).all (bdV m) = true := rfl
@[simp] theorem intC_bd {m : Nat} {s : Int} : (intC s).all (bdV m) = true := rfl
@[simp] theorem strC_cell {s : Str} : (strC s).all cellV = true := rfl
@[simp] theorem intC_cell {s : Int} : (intC s).all cellV = true := rfl
theorem loadC_str {s : Str} {ag : Bool} {sz : Nat} : loadC ag sz (strC s) = loadC ag sz [.str s] := rfl
theorem loadC_int {s : Int} {ag : Bool} {sz : Nat} : loadC ag sz (intC s) = loadC ag sz [.int .i64 s] := rfl

inductive Expr where
  | mk (kind : Int) (num : Int) (text : Str) (kids : List Expr)
inductive LExpr where
  | mk (kind : Int) (num : Int) (text : Str) (kids : List LExpr) (sp : List (List PV)) (lim : Bool)
def Expr.kind : Expr → Int | .mk a _ _ _ => a
def LExpr.kind : LExpr → Int | .mk a _ _ _ _ _ => a
def Expr.num : Expr → Int | .mk _ a _ _ => a
def LExpr.num : LExpr → Int | .mk _ a _ _ _ _ => a
def Expr.text : Expr → Str | .mk _ _ a _ => a
def LExpr.text : LExpr → Str | .mk _ _ a _ _ _ => a
def Expr.kids : Expr → List Expr | .mk _ _ _ a => a
def LExpr.kids : LExpr → List LExpr | .mk _ _ _ a _ _ => a
def LExpr.sp : LExpr → List (List PV) | .mk _ _ _ _ a _ => a
def LExpr.lim : LExpr → Bool | .mk _ _ _ _ _ a => a
mutual
def LExpr.C : LExpr → List PV
  | .mk kind num text kids sp lim => [.int .i64 kind, .int .i64 num, .str text, .imm (LExpr.Cs kids) sp lim]
def LExpr.Cs : List LExpr → List (List PV)
  | [] => []
  | x :: xs => LExpr.C x :: LExpr.Cs xs
end
mutual
def LExpr.core : LExpr → Expr
  | .mk kind num text kids sp lim => .mk kind num text (LExpr.cores kids)
def LExpr.cores : List LExpr → List Expr
  | [] => []
  | x :: xs => LExpr.core x :: LExpr.cores xs
end
theorem LExpr.Cs_map (l : List LExpr) : LExpr.Cs l = l.map LExpr.C := by induction l <;> simp_all [LExpr.Cs]
theorem LExpr.cores_map (l : List LExpr) : LExpr.cores l = l.map LExpr.core := by induction l <;> simp_all [LExpr.cores]
theorem LExpr.C_eq (x : LExpr) : x.C = [.int .i64 x.kind, .int .i64 x.num, .str x.text, .imm (x.kids.map LExpr.C) x.sp x.lim] := by cases x; simp [LExpr.C, LExpr.Cs_map, LExpr.kind, LExpr.num, LExpr.text, LExpr.kids, LExpr.sp, LExpr.lim]
@[simp] theorem LExpr.core_kind (x : LExpr) : x.core.kind = x.kind := by cases x; rfl
@[simp] theorem LExpr.core_num (x : LExpr) : x.core.num = x.num := by cases x; rfl
@[simp] theorem LExpr.core_text (x : LExpr) : x.core.text = x.text := by cases x; rfl
@[simp] theorem LExpr.core_kids (x : LExpr) : x.core.kids = x.kids.map LExpr.core := by cases x; simp [LExpr.core, LExpr.cores_map, Expr.kids, LExpr.kids]
theorem Expr.ext (a b : Expr) (hkind : a.kind = b.kind) (hnum : a.num = b.num) (htext : a.text = b.text) (hk : a.kids = b.kids) : a = b := by cases a; cases b; simp_all [Expr.kids, Expr.kind, Expr.num, Expr.text]
theorem LExpr.kid_lt {e x : LExpr} (h : x ∈ e.kids) : SizeOf.sizeOf x < SizeOf.sizeOf e := by
  cases e with
  | mk kind num text kids sp lim =>
    have := List.sizeOf_lt_of_mem h
    simp only [LExpr.kids] at this
    simp
    omega
theorem Expr.kid_lt {e x : Expr} (h : x ∈ e.kids) : SizeOf.sizeOf x < SizeOf.sizeOf e := by
  cases e with
  | mk kind num text kids =>
    have := List.sizeOf_lt_of_mem h
    simp only [Expr.kids] at this
    simp
    omega
theorem LExpr.C_len (x : LExpr) : x.C.length = 4 := by rw [LExpr.C_eq]; rfl
theorem LExpr.C_pure (x : LExpr) : pureL x.C = true := by rw [LExpr.C_eq]; rfl
theorem LExpr.C_noOwn (x : LExpr) : noOwnL x.C = true := by rw [LExpr.C_eq]; rfl
theorem LExpr.C_cell (x : LExpr) : x.C.all cellV = true := by rw [LExpr.C_eq]; rfl
theorem LExpr.C_bd (x : LExpr) (m : Nat) : x.C.all (bdV m) = true := allBd_of_pure x.C_pure
theorem LExpr.C_bdL (x : LExpr) (m : Nat) : bdL m x.C = true := bdL_pure x.C x.C_pure
theorem LExpr.C_ren (x : LExpr) (r : Nat → Nat) : renL r x.C = x.C := renL_pure r x.C x.C_pure
theorem LExpr.C_any (x : LExpr) (k n : Nat) : ((x.C.drop k).take n).any isOwn = false := noOwnTD (noOwn_of_pure x.C_pure) k n
theorem LExpr.C_any0 (x : LExpr) (n : Nat) : (x.C.take n).any isOwn = false := x.C_any 0 n
theorem LExpr.C_anyt (x : LExpr) (n : Nat) : (x.C.tail.take n).any isOwn = false := by have := x.C_any 1 n; rwa [List.drop_one] at this
theorem LExpr.C_any1 (x : LExpr) : x.C.any isOwn = false := noOwn_of_pure x.C_pure
theorem LExpr.C_take (x : LExpr) : x.C.take 4 = x.C := by rw [LExpr.C_eq]; rfl
theorem LExpr.C_load (x : LExpr) (ag : Bool) (sz k : Nat) : loadC ag sz (x.C.drop k) = loadC ag sz (List.drop k [.int .i64 x.kind, .int .i64 x.num, .str x.text, .imm (x.kids.map LExpr.C) x.sp x.lim]) := by rw [LExpr.C_eq]
theorem LExpr.C_load0 (x : LExpr) (ag : Bool) (sz : Nat) : loadC ag sz x.C = loadC ag sz [.int .i64 x.kind, .int .i64 x.num, .str x.text, .imm (x.kids.map LExpr.C) x.sp x.lim] := by rw [LExpr.C_eq]
theorem LExpr.C_load1 (x : LExpr) (ag : Bool) (sz : Nat) : loadC ag sz x.C.tail = loadC ag sz (List.tail [.int .i64 x.kind, .int .i64 x.num, .str x.text, .imm (x.kids.map LExpr.C) x.sp x.lim]) := by rw [LExpr.C_eq]
theorem LExpr.C_fld (x : LExpr) (ag : Bool) (off sz : Nat) : fldV ag off sz (.agg x.C) = fldC ag off sz [.int .i64 x.kind, .int .i64 x.num, .str x.text, .imm (x.kids.map LExpr.C) x.sp x.lim] := by rw [LExpr.C_eq]; rfl
theorem LExpr.C_box (x : LExpr) (σ : Heap) (ty : Nat) : boxV σ ty (.agg x.C) = .hp True (.ptr σ.length 1 0 0) (σ ++ [some ⟨[[.int .i64 x.kind, .int .i64 x.num, .str x.text, .imm (x.kids.map LExpr.C) x.sp x.lim]], 4, ty, false, false⟩]) := by unfold boxV cellsOf; rw [newV_cs x.C_cell, LExpr.C_eq]; rfl
theorem LExpr.C_fold (x : LExpr) : PV.agg [.int .i64 x.kind, .int .i64 x.num, .str x.text, .imm (x.kids.map LExpr.C) x.sp x.lim] = .agg x.C := by rw [LExpr.C_eq]
theorem LExpr.deep {x : LExpr} (h : deepL x.C) : x.kids.length + x.sp.length ≤ maxLen ∧ ∀ y, y ∈ x.kids → deepL y.C := by
  rw [LExpr.C_eq] at h
  simp only [deepL, deepV, List.length_map] at h
  obtain ⟨_, _, _, ⟨h1, h2, _⟩, _⟩ := h
  exact ⟨h1, fun y hy => deepLL_mem h2 (List.mem_map_of_mem hy)⟩
structure Bind where
  name : Str
  type : Str
  deriving DecidableEq
def Bind.C (x : Bind) : List PV := [.str x.name, .str x.type]
theorem Bind.C_eq (x : Bind) : x.C = [.str x.name, .str x.type] := rfl
theorem Bind.C_len (x : Bind) : x.C.length = 2 := by rw [Bind.C_eq]; rfl
theorem Bind.C_pure (x : Bind) : pureL x.C = true := by rw [Bind.C_eq]; rfl
theorem Bind.C_noOwn (x : Bind) : noOwnL x.C = true := by rw [Bind.C_eq]; rfl
theorem Bind.C_cell (x : Bind) : x.C.all cellV = true := by rw [Bind.C_eq]; rfl
theorem Bind.C_bd (x : Bind) (m : Nat) : x.C.all (bdV m) = true := allBd_of_pure x.C_pure
theorem Bind.C_bdL (x : Bind) (m : Nat) : bdL m x.C = true := bdL_pure x.C x.C_pure
theorem Bind.C_ren (x : Bind) (r : Nat → Nat) : renL r x.C = x.C := renL_pure r x.C x.C_pure
theorem Bind.C_any (x : Bind) (k n : Nat) : ((x.C.drop k).take n).any isOwn = false := noOwnTD (noOwn_of_pure x.C_pure) k n
theorem Bind.C_any0 (x : Bind) (n : Nat) : (x.C.take n).any isOwn = false := x.C_any 0 n
theorem Bind.C_anyt (x : Bind) (n : Nat) : (x.C.tail.take n).any isOwn = false := by have := x.C_any 1 n; rwa [List.drop_one] at this
theorem Bind.C_any1 (x : Bind) : x.C.any isOwn = false := noOwn_of_pure x.C_pure
theorem Bind.C_take (x : Bind) : x.C.take 2 = x.C := by rw [Bind.C_eq]; rfl
theorem Bind.C_load (x : Bind) (ag : Bool) (sz k : Nat) : loadC ag sz (x.C.drop k) = loadC ag sz (List.drop k [.str x.name, .str x.type]) := by rw [Bind.C_eq]
theorem Bind.C_load0 (x : Bind) (ag : Bool) (sz : Nat) : loadC ag sz x.C = loadC ag sz [.str x.name, .str x.type] := by rw [Bind.C_eq]
theorem Bind.C_load1 (x : Bind) (ag : Bool) (sz : Nat) : loadC ag sz x.C.tail = loadC ag sz (List.tail [.str x.name, .str x.type]) := by rw [Bind.C_eq]
theorem Bind.C_fld (x : Bind) (ag : Bool) (off sz : Nat) : fldV ag off sz (.agg x.C) = fldC ag off sz [.str x.name, .str x.type] := by rw [Bind.C_eq]; rfl
theorem Bind.C_box (x : Bind) (σ : Heap) (ty : Nat) : boxV σ ty (.agg x.C) = .hp True (.ptr σ.length 1 0 0) (σ ++ [some ⟨[[.str x.name, .str x.type]], 2, ty, false, false⟩]) := by unfold boxV cellsOf; rw [newV_cs x.C_cell, Bind.C_eq]; rfl
theorem Bind.C_fold (x : Bind) : PV.agg [.str x.name, .str x.type] = .agg x.C := by rw [Bind.C_eq]
structure Use where
  module : Str
  name : Str
  deriving DecidableEq
def Use.C (x : Use) : List PV := [.str x.module, .str x.name]
theorem Use.C_eq (x : Use) : x.C = [.str x.module, .str x.name] := rfl
theorem Use.C_len (x : Use) : x.C.length = 2 := by rw [Use.C_eq]; rfl
theorem Use.C_pure (x : Use) : pureL x.C = true := by rw [Use.C_eq]; rfl
theorem Use.C_noOwn (x : Use) : noOwnL x.C = true := by rw [Use.C_eq]; rfl
theorem Use.C_cell (x : Use) : x.C.all cellV = true := by rw [Use.C_eq]; rfl
theorem Use.C_bd (x : Use) (m : Nat) : x.C.all (bdV m) = true := allBd_of_pure x.C_pure
theorem Use.C_bdL (x : Use) (m : Nat) : bdL m x.C = true := bdL_pure x.C x.C_pure
theorem Use.C_ren (x : Use) (r : Nat → Nat) : renL r x.C = x.C := renL_pure r x.C x.C_pure
theorem Use.C_any (x : Use) (k n : Nat) : ((x.C.drop k).take n).any isOwn = false := noOwnTD (noOwn_of_pure x.C_pure) k n
theorem Use.C_any0 (x : Use) (n : Nat) : (x.C.take n).any isOwn = false := x.C_any 0 n
theorem Use.C_anyt (x : Use) (n : Nat) : (x.C.tail.take n).any isOwn = false := by have := x.C_any 1 n; rwa [List.drop_one] at this
theorem Use.C_any1 (x : Use) : x.C.any isOwn = false := noOwn_of_pure x.C_pure
theorem Use.C_take (x : Use) : x.C.take 2 = x.C := by rw [Use.C_eq]; rfl
theorem Use.C_load (x : Use) (ag : Bool) (sz k : Nat) : loadC ag sz (x.C.drop k) = loadC ag sz (List.drop k [.str x.module, .str x.name]) := by rw [Use.C_eq]
theorem Use.C_load0 (x : Use) (ag : Bool) (sz : Nat) : loadC ag sz x.C = loadC ag sz [.str x.module, .str x.name] := by rw [Use.C_eq]
theorem Use.C_load1 (x : Use) (ag : Bool) (sz : Nat) : loadC ag sz x.C.tail = loadC ag sz (List.tail [.str x.module, .str x.name]) := by rw [Use.C_eq]
theorem Use.C_fld (x : Use) (ag : Bool) (off sz : Nat) : fldV ag off sz (.agg x.C) = fldC ag off sz [.str x.module, .str x.name] := by rw [Use.C_eq]; rfl
theorem Use.C_box (x : Use) (σ : Heap) (ty : Nat) : boxV σ ty (.agg x.C) = .hp True (.ptr σ.length 1 0 0) (σ ++ [some ⟨[[.str x.module, .str x.name]], 2, ty, false, false⟩]) := by unfold boxV cellsOf; rw [newV_cs x.C_cell, Use.C_eq]; rfl
theorem Use.C_fold (x : Use) : PV.agg [.str x.module, .str x.name] = .agg x.C := by rw [Use.C_eq]
structure LDecl where
  kind : Int
  name : Str
  binds : Sl Bind
  type : Str
  body : LExpr
structure Decl where
  kind : Int
  name : Str
  binds : List Bind
  type : Str
  body : Expr
def LDecl.core (x : LDecl) : Decl := ⟨x.kind, x.name, x.binds.es, x.type, x.body.core⟩
@[simp] theorem LDecl.core_kind (x : LDecl) : x.core.kind = x.kind := rfl
@[simp] theorem LDecl.core_name (x : LDecl) : x.core.name = x.name := rfl
@[simp] theorem LDecl.core_binds (x : LDecl) : x.core.binds = x.binds.es := rfl
@[simp] theorem LDecl.core_type (x : LDecl) : x.core.type = x.type := rfl
@[simp] theorem LDecl.core_body (x : LDecl) : x.core.body = x.body.core := rfl
def LDecl.C (x : LDecl) : List PV := [.int .i64 x.kind, .str x.name, .imm (x.binds.es.map Bind.C) x.binds.sp x.binds.lim, .str x.type, .int .i64 x.body.kind, .int .i64 x.body.num, .str x.body.text, .imm (x.body.kids.map LExpr.C) x.body.sp x.body.lim]
theorem LDecl.C_eq (x : LDecl) : x.C = [.int .i64 x.kind, .str x.name, .imm (x.binds.es.map Bind.C) x.binds.sp x.binds.lim, .str x.type, .int .i64 x.body.kind, .int .i64 x.body.num, .str x.body.text, .imm (x.body.kids.map LExpr.C) x.body.sp x.body.lim] := rfl
theorem LDecl.C_len (x : LDecl) : x.C.length = 8 := by rw [LDecl.C_eq]; rfl
theorem LDecl.C_pure (x : LDecl) : pureL x.C = true := by rw [LDecl.C_eq]; rfl
theorem LDecl.C_noOwn (x : LDecl) : noOwnL x.C = true := by rw [LDecl.C_eq]; rfl
theorem LDecl.C_cell (x : LDecl) : x.C.all cellV = true := by rw [LDecl.C_eq]; rfl
theorem LDecl.C_bd (x : LDecl) (m : Nat) : x.C.all (bdV m) = true := allBd_of_pure x.C_pure
theorem LDecl.C_bdL (x : LDecl) (m : Nat) : bdL m x.C = true := bdL_pure x.C x.C_pure
theorem LDecl.C_ren (x : LDecl) (r : Nat → Nat) : renL r x.C = x.C := renL_pure r x.C x.C_pure
theorem LDecl.C_any (x : LDecl) (k n : Nat) : ((x.C.drop k).take n).any isOwn = false := noOwnTD (noOwn_of_pure x.C_pure) k n
theorem LDecl.C_any0 (x : LDecl) (n : Nat) : (x.C.take n).any isOwn = false := x.C_any 0 n
theorem LDecl.C_anyt (x : LDecl) (n : Nat) : (x.C.tail.take n).any isOwn = false := by have := x.C_any 1 n; rwa [List.drop_one] at this
theorem LDecl.C_any1 (x : LDecl) : x.C.any isOwn = false := noOwn_of_pure x.C_pure
theorem LDecl.C_take (x : LDecl) : x.C.take 8 = x.C := by rw [LDecl.C_eq]; rfl
theorem LDecl.C_load (x : LDecl) (ag : Bool) (sz k : Nat) : loadC ag sz (x.C.drop k) = loadC ag sz (List.drop k [.int .i64 x.kind, .str x.name, .imm (x.binds.es.map Bind.C) x.binds.sp x.binds.lim, .str x.type, .int .i64 x.body.kind, .int .i64 x.body.num, .str x.body.text, .imm (x.body.kids.map LExpr.C) x.body.sp x.body.lim]) := by rw [LDecl.C_eq]
theorem LDecl.C_load0 (x : LDecl) (ag : Bool) (sz : Nat) : loadC ag sz x.C = loadC ag sz [.int .i64 x.kind, .str x.name, .imm (x.binds.es.map Bind.C) x.binds.sp x.binds.lim, .str x.type, .int .i64 x.body.kind, .int .i64 x.body.num, .str x.body.text, .imm (x.body.kids.map LExpr.C) x.body.sp x.body.lim] := by rw [LDecl.C_eq]
theorem LDecl.C_load1 (x : LDecl) (ag : Bool) (sz : Nat) : loadC ag sz x.C.tail = loadC ag sz (List.tail [.int .i64 x.kind, .str x.name, .imm (x.binds.es.map Bind.C) x.binds.sp x.binds.lim, .str x.type, .int .i64 x.body.kind, .int .i64 x.body.num, .str x.body.text, .imm (x.body.kids.map LExpr.C) x.body.sp x.body.lim]) := by rw [LDecl.C_eq]
theorem LDecl.C_fld (x : LDecl) (ag : Bool) (off sz : Nat) : fldV ag off sz (.agg x.C) = fldC ag off sz [.int .i64 x.kind, .str x.name, .imm (x.binds.es.map Bind.C) x.binds.sp x.binds.lim, .str x.type, .int .i64 x.body.kind, .int .i64 x.body.num, .str x.body.text, .imm (x.body.kids.map LExpr.C) x.body.sp x.body.lim] := by rw [LDecl.C_eq]; rfl
theorem LDecl.C_box (x : LDecl) (σ : Heap) (ty : Nat) : boxV σ ty (.agg x.C) = .hp True (.ptr σ.length 1 0 0) (σ ++ [some ⟨[[.int .i64 x.kind, .str x.name, .imm (x.binds.es.map Bind.C) x.binds.sp x.binds.lim, .str x.type, .int .i64 x.body.kind, .int .i64 x.body.num, .str x.body.text, .imm (x.body.kids.map LExpr.C) x.body.sp x.body.lim]], 8, ty, false, false⟩]) := by unfold boxV cellsOf; rw [newV_cs x.C_cell, LDecl.C_eq]; rfl
theorem LDecl.C_fold (x : LDecl) : PV.agg [.int .i64 x.kind, .str x.name, .imm (x.binds.es.map Bind.C) x.binds.sp x.binds.lim, .str x.type, .int .i64 x.body.kind, .int .i64 x.body.num, .str x.body.text, .imm (x.body.kids.map LExpr.C) x.body.sp x.body.lim] = .agg x.C := by rw [LDecl.C_eq]
structure LModule where
  name : Str
  uses : Sl Use
  decls : Sl LDecl
structure Module where
  name : Str
  uses : List Use
  decls : List Decl
def LModule.core (x : LModule) : Module := ⟨x.name, x.uses.es, (x.decls.es.map LDecl.core)⟩
@[simp] theorem LModule.core_name (x : LModule) : x.core.name = x.name := rfl
@[simp] theorem LModule.core_uses (x : LModule) : x.core.uses = x.uses.es := rfl
@[simp] theorem LModule.core_decls (x : LModule) : x.core.decls = (x.decls.es.map LDecl.core) := rfl
def LModule.C (x : LModule) : List PV := [.str x.name, .imm (x.uses.es.map Use.C) x.uses.sp x.uses.lim, .imm (x.decls.es.map LDecl.C) x.decls.sp x.decls.lim]
theorem LModule.C_eq (x : LModule) : x.C = [.str x.name, .imm (x.uses.es.map Use.C) x.uses.sp x.uses.lim, .imm (x.decls.es.map LDecl.C) x.decls.sp x.decls.lim] := rfl
theorem LModule.C_len (x : LModule) : x.C.length = 3 := by rw [LModule.C_eq]; rfl
theorem LModule.C_pure (x : LModule) : pureL x.C = true := by rw [LModule.C_eq]; rfl
theorem LModule.C_noOwn (x : LModule) : noOwnL x.C = true := by rw [LModule.C_eq]; rfl
theorem LModule.C_cell (x : LModule) : x.C.all cellV = true := by rw [LModule.C_eq]; rfl
theorem LModule.C_bd (x : LModule) (m : Nat) : x.C.all (bdV m) = true := allBd_of_pure x.C_pure
theorem LModule.C_bdL (x : LModule) (m : Nat) : bdL m x.C = true := bdL_pure x.C x.C_pure
theorem LModule.C_ren (x : LModule) (r : Nat → Nat) : renL r x.C = x.C := renL_pure r x.C x.C_pure
theorem LModule.C_any (x : LModule) (k n : Nat) : ((x.C.drop k).take n).any isOwn = false := noOwnTD (noOwn_of_pure x.C_pure) k n
theorem LModule.C_any0 (x : LModule) (n : Nat) : (x.C.take n).any isOwn = false := x.C_any 0 n
theorem LModule.C_anyt (x : LModule) (n : Nat) : (x.C.tail.take n).any isOwn = false := by have := x.C_any 1 n; rwa [List.drop_one] at this
theorem LModule.C_any1 (x : LModule) : x.C.any isOwn = false := noOwn_of_pure x.C_pure
theorem LModule.C_take (x : LModule) : x.C.take 3 = x.C := by rw [LModule.C_eq]; rfl
theorem LModule.C_load (x : LModule) (ag : Bool) (sz k : Nat) : loadC ag sz (x.C.drop k) = loadC ag sz (List.drop k [.str x.name, .imm (x.uses.es.map Use.C) x.uses.sp x.uses.lim, .imm (x.decls.es.map LDecl.C) x.decls.sp x.decls.lim]) := by rw [LModule.C_eq]
theorem LModule.C_load0 (x : LModule) (ag : Bool) (sz : Nat) : loadC ag sz x.C = loadC ag sz [.str x.name, .imm (x.uses.es.map Use.C) x.uses.sp x.uses.lim, .imm (x.decls.es.map LDecl.C) x.decls.sp x.decls.lim] := by rw [LModule.C_eq]
theorem LModule.C_load1 (x : LModule) (ag : Bool) (sz : Nat) : loadC ag sz x.C.tail = loadC ag sz (List.tail [.str x.name, .imm (x.uses.es.map Use.C) x.uses.sp x.uses.lim, .imm (x.decls.es.map LDecl.C) x.decls.sp x.decls.lim]) := by rw [LModule.C_eq]
theorem LModule.C_fld (x : LModule) (ag : Bool) (off sz : Nat) : fldV ag off sz (.agg x.C) = fldC ag off sz [.str x.name, .imm (x.uses.es.map Use.C) x.uses.sp x.uses.lim, .imm (x.decls.es.map LDecl.C) x.decls.sp x.decls.lim] := by rw [LModule.C_eq]; rfl
theorem LModule.C_box (x : LModule) (σ : Heap) (ty : Nat) : boxV σ ty (.agg x.C) = .hp True (.ptr σ.length 1 0 0) (σ ++ [some ⟨[[.str x.name, .imm (x.uses.es.map Use.C) x.uses.sp x.uses.lim, .imm (x.decls.es.map LDecl.C) x.decls.sp x.decls.lim]], 3, ty, false, false⟩]) := by unfold boxV cellsOf; rw [newV_cs x.C_cell, LModule.C_eq]; rfl
theorem LModule.C_fold (x : LModule) : PV.agg [.str x.name, .imm (x.uses.es.map Use.C) x.uses.sp x.uses.lim, .imm (x.decls.es.map LDecl.C) x.decls.sp x.decls.lim] = .agg x.C := by rw [LModule.C_eq]
theorem Bind.eqa (ne : Bool) (x y : Bind) : eqaV ne [.s, .s] (.agg x.C) (.agg y.C) = .ok (.bool (if ne then !(x == y) else x == y)) := by
  have : (x == y) = (x.name == y.name && x.type == y.type) := by
    cases x; cases y; rw [Bool.eq_iff_iff]; simp
  rw [this]
  simp [eqaV, Bind.C, eqC]
theorem Use.eqa (ne : Bool) (x y : Use) : eqaV ne [.s, .s] (.agg x.C) (.agg y.C) = .ok (.bool (if ne then !(x == y) else x == y)) := by
  have : (x == y) = (x.module == y.module && x.name == y.name) := by
    cases x; cases y; rw [Bool.eq_iff_iff]; simp
  rw [this]
  simp [eqaV, Use.C, eqC]
end Go.Mach

/- What the program's functions compute, in plain Lean: names, types, expressions. -/
namespace Go.Mach
set_option linter.unusedVariables false

def small (b : UInt8) : Bool := decide (97 ≤ (b.toNat : Int)) && decide ((b.toNat : Int) ≤ 122)
def digit (b : UInt8) : Bool := decide (48 ≤ (b.toNat : Int)) && decide ((b.toNat : Int) ≤ 57)
def inR (n low high : Int) : Bool := decide (low ≤ n) && decide (n ≤ high)
def isPlain (t : Str) : Bool := t == [105, 110, 116] || (t == [98, 111, 111, 108] || t == [116, 101, 120, 116])
def placeFrom (s : Str) : List Str → Nat → Int
  | [], _ => -1
  | x :: xs, i => if x == s then i else placeFrom s xs (i + 1)
theorem placeFrom_nonneg (s : Str) : ∀ (l : List Str) (i : Nat), decide (0 ≤ placeFrom s l i) = l.contains s
  | [], i => by simp [placeFrom]
  | x :: xs, i => by
    have := placeFrom_nonneg s xs (i + 1)
    rw [List.contains_cons, ← this]
    by_cases h : x = s
    · simp [placeFrom, h]
    · have h' : (s == x) = false := by simpa using fun e : s = x => h e.symm
      simp [placeFrom, h, h']
def wordsL : List Str := [[105, 110, 116], [98, 111, 111, 108], [116, 101, 120, 116], [116, 114, 117, 101], [102, 97, 108, 115, 101], [105, 102], [116, 104, 101, 110], [101, 108, 115, 101], [108, 101, 116], [105, 110],
  [102, 111, 114], [102, 117, 110], [116, 121, 112, 101], [117, 115, 101], [110, 111, 116], [115, 105, 122, 101], [97, 116], [115, 97, 121]]
def opsL : List Str := [[43], [45], [42], [60], [61, 61], [38], [124]]
def nameChars : Nat → Str → Bool
  | _, [] => true
  | i, b :: r => (small b || (i != 0 && digit b)) && nameChars (i + 1) r
def isName (s : Str) : Bool := nameChars 0 s && (inR s.length 1 8 && !wordsL.contains s)
def wordCh (b : UInt8) : Bool := decide (32 ≤ (b.toNat : Int)) && (decide ((b.toNat : Int) ≤ 126) && (b.toNat : Int) != 39)
def wordChars : Str → Bool
  | [] => true
  | b :: r => wordCh b && wordChars r
def isWord (s : Str) : Bool := wordChars s && decide ((s.length : Int) ≤ 20)
def mid (t : Str) : Str := (t.take (t.length - 1)).drop 1
def brk (t : Str) : Bool := decide (2 ≤ (t.length : Int)) && (byteAt t 0 == 91 && byteAt t ((t.length : Int) - 1) == 93)
theorem mid_len {t : Str} (h : brk t = true) : (mid t).length + 2 = t.length := by
  simp only [brk, Bool.and_eq_true, decide_eq_true_eq] at h
  simp only [mid, List.length_drop, List.length_take]
  omega
def coreOf (t : Str) : Str × Nat := if h : brk t = true then ((coreOf (mid t)).1, (coreOf (mid t)).2 + 1) else (t, 0)
  termination_by t.length
  decreasing_by all_goals (have := mid_len h; omega)
def typeOk (t : Str) : Bool := decide ((coreOf t).2 ≤ 2) && (isPlain (coreOf t).1 || isName (coreOf t).1)
def kidsOf (k : Int) : Int × Int :=
  if k == 4 || k == 7 then (0, 4) else if k == 5 then (1, 4) else if k == 6 || k == 8 || k == 13 || k == 15 then (1, 1)
  else if k == 9 || k == 11 || k == 12 || k == 14 then (2, 2) else if k == 10 then (3, 3) else (0, 0)
def validText (k : Int) (t : Str) : Bool :=
  if k == 2 then isWord t else if k == 3 || k == 4 || k == 5 || k == 6 || k == 11 || k == 12 then isName t
  else if k == 7 then typeOk ([91] ++ t ++ [93]) else if k == 9 then opsL.contains t else t == []
def mostOf (k : Int) : Int := if k == 0 then 9999 else if k == 1 then 1 else 0
mutual
def validShape : Expr → Nat → Bool
  | .mk k n t ks, tall => tall != 0 && (inR k 0 15 && (validText k t && (inR n 0 (mostOf k) && (inR ks.length (kidsOf k).1 (kidsOf k).2 && validShapes ks (tall - 1)))))
def validShapes : List Expr → Nat → Bool
  | [], _ => true
  | x :: xs, tall => validShape x tall && validShapes xs tall
end
mutual
def Expr.size : Expr → Nat
  | .mk _ _ _ ks => Expr.sizes ks + 1
def Expr.sizes : List Expr → Nat
  | [] => 0
  | x :: xs => Expr.size x + Expr.sizes xs
end
def exprOk (e : Expr) : Bool := validShape e 9 && decide (e.size ≤ 40)
mutual
def Expr.same : Expr → Expr → Bool
  | .mk k n t ks, b => k == b.kind && (n == b.num && (t == b.text && Expr.sames ks b.kids))
def Expr.sames : List Expr → List Expr → Bool
  | [], [] => true
  | x :: xs, y :: ys => Expr.same x y && Expr.sames xs ys
  | _, _ => false
end
theorem Expr.same_eq (a b : Expr) : Expr.same a b = (a.kind == b.kind && (a.num == b.num && (a.text == b.text && Expr.sames a.kids b.kids))) := by cases a; rfl
theorem Expr.sames_ne : ∀ (xs ys : List Expr), xs.length ≠ ys.length → Expr.sames xs ys = false
  | [], [], h => absurd rfl h
  | [], _ :: _, _ => rfl
  | _ :: _, [], _ => rfl
  | x :: xs, y :: ys, h => by simp [Expr.sames, Expr.sames_ne xs ys (by simpa using h)]
theorem validShape_eq (e : Expr) (tall : Nat) : validShape e tall = (tall != 0 && (inR e.kind 0 15 && (validText e.kind e.text && (inR e.num 0 (mostOf e.kind) && (inR e.kids.length (kidsOf e.kind).1 (kidsOf e.kind).2 && validShapes e.kids (tall - 1)))))) := by cases e; rfl
theorem Expr.size_eq (e : Expr) : e.size = Expr.sizes e.kids + 1 := by cases e; rfl

mutual
/-- Of a size that memory holds with room to spare. -/
def Expr.Sm : Expr → Prop
  | .mk _ _ t ks => t.length ≤ 1000000 ∧ ks.length ≤ 1000000 ∧ Expr.Sms ks
def Expr.Sms : List Expr → Prop
  | [] => True
  | x :: xs => Expr.Sm x ∧ Expr.Sms xs
end
theorem Expr.Sms_mem : ∀ {l : List Expr}, Expr.Sms l → ∀ x, x ∈ l → x.Sm
  | [], _, x, hx => by cases hx
  | y :: ys, h, x, hx => by
    rcases List.mem_cons.1 hx with rfl | hx
    · exact h.1
    · exact Expr.Sms_mem h.2 x hx
theorem Expr.Sm_eq (e : Expr) : e.Sm = (e.text.length ≤ 1000000 ∧ e.kids.length ≤ 1000000 ∧ Expr.Sms e.kids) := by cases e; rfl
mutual
theorem size_of_valid : ∀ (e : Expr) (tall : Nat), validShape e tall = true → e.size ≤ 5 ^ tall
  | .mk k n t ks, 0, h => by simp [validShape] at h
  | .mk k n t ks, tall + 1, h => by
    simp only [validShape, Bool.and_eq_true, Nat.add_sub_cancel] at h
    obtain ⟨_, _, _, _, h1, h2⟩ := h
    have h3 := sizes_of_valid ks tall h2
    have h4 : ks.length ≤ 4 := by
      have : (kidsOf k).2 ≤ 4 := by unfold kidsOf; repeat' split
                                    all_goals decide
      simp only [inR, Bool.and_eq_true, decide_eq_true_eq] at h1
      omega
    simp only [Expr.size]
    have h5 : ks.length * 5 ^ tall ≤ 4 * 5 ^ tall := Nat.mul_le_mul_right _ h4
    have h6 : 1 ≤ 5 ^ tall := Nat.one_le_pow _ _ (by decide)
    rw [Nat.pow_succ]
    omega
theorem sizes_of_valid : ∀ (l : List Expr) (tall : Nat), validShapes l tall = true → Expr.sizes l ≤ l.length * 5 ^ tall
  | [], _, _ => by simp [Expr.sizes]
  | x :: xs, tall, h => by
    simp only [validShapes, Bool.and_eq_true] at h
    have h1 := size_of_valid x tall h.1
    have h2 := sizes_of_valid xs tall h.2
    simp only [Expr.sizes, List.length_cons]
    rw [Nat.add_mul, Nat.one_mul]
    omega
end

end Go.Mach

/- What the program's functions compute, in plain Lean: programs, of the reference. -/
namespace Go.Mach
set_option linter.unusedVariables false

section
variable {α β : Type}
/-- The first place at which `p` holds; -1 if there is none. -/
def idxFrom (p : α → Bool) : List α → Nat → Int
  | [], _ => -1
  | x :: xs, i => if p x then i else idxFrom p xs (i + 1)
theorem idxFrom_cases (p : α → Bool) : ∀ (l : List α) (i : Nat), (idxFrom p l i = -1 ∧ ∀ x, x ∈ l → p x = false) ∨ ∃ (k : Nat) (h : k < l.length), idxFrom p l i = ((i + k : Nat) : Int) ∧ p l[k] = true ∧ ∀ j (hj : j < k), p (l[j]'(by omega)) = false
  | [], i => .inl ⟨rfl, by simp⟩
  | x :: xs, i => by
    cases h : p x with
    | true => exact .inr ⟨0, by simp, by simp [idxFrom, h], by simpa using h, by intro j hj; omega⟩
    | false =>
      rcases idxFrom_cases p xs (i + 1) with ⟨h1, h2⟩ | ⟨k, hk, h1, h2, h3⟩
      · exact .inl ⟨by simp [idxFrom, h, h1], by intro y hy; rcases List.mem_cons.1 hy with rfl | hy; exact h; exact h2 y hy⟩
      · refine .inr ⟨k + 1, by simpa using hk, by simp only [idxFrom, h, h1]; simp; omega, by simpa using h2, ?_⟩
        intro j hj
        cases j with
        | zero => simpa using h
        | succ j => simpa using h3 j (by omega)
theorem idxFrom_nn (p : α → Bool) (l : List α) (i : Nat) : decide (0 ≤ idxFrom p l i) = l.any p := by
  rcases idxFrom_cases p l i with ⟨h1, h2⟩ | ⟨k, hk, h1, h2, h3⟩
  · rw [h1]
    have : l.any p = false := by rw [List.any_eq_false]; intro x hx; simp [h2 x hx]
    simp [this]
  · rw [h1]
    have : l.any p = true := List.any_eq_true.2 ⟨l[k], List.getElem_mem hk, h2⟩
    rw [this]
    simp
    omega
def at' (l : List α) (k : Int) : Option α := if k < 0 then none else l[k.toNat]?
/-- Two lists alike, one by one. -/
def all2 (f : α → β → Bool) : List α → List β → Bool
  | [], [] => true
  | x :: xs, y :: ys => f x y && all2 f xs ys
  | _, _ => false
theorem all2_ne (f : α → β → Bool) : ∀ (xs : List α) (ys : List β), xs.length ≠ ys.length → all2 f xs ys = false
  | [], [], h => absurd rfl h
  | [], _ :: _, _ => rfl
  | _ :: _, [], _ => rfl
  | x :: xs, y :: ys, h => by simp [all2, all2_ne f xs ys (by simpa using h)]
end
def nameIs (l : List Bind) (j : Nat) (name : Str) : Bool := match l[j]? with
  | some b => b.name == name
  | none => false
def bindAtTo (name : Str) (l : List Bind) : Nat → Int
  | 0 => -1
  | j + 1 => if nameIs l j name then j else bindAtTo name l j
def bindAt (l : List Bind) (name : Str) : Int := bindAtTo name l l.length
theorem bindAtTo_nn (name : Str) (l : List Bind) : ∀ j, decide (0 ≤ bindAtTo name l j) = (l.take j).any fun b => b.name == name
  | 0 => by simp [bindAtTo]
  | j + 1 => by
    have ih := bindAtTo_nn name l j
    have h2 : (l.take (j + 1)).any (fun b => b.name == name) = ((l.take j).any (fun b => b.name == name) || nameIs l j name) := by
      rw [List.take_add_one, List.any_append]
      cases h : l[j]? <;> simp [nameIs, h]
    rw [h2, ← ih, bindAtTo]
    cases nameIs l j name <;> simp
theorem bindAt_nn (name : Str) (l : List Bind) : decide (0 ≤ bindAt l name) = l.any fun b => b.name == name := by
  rw [bindAt, bindAtTo_nn, List.take_length]
def bindsOk : List Bind → List Bind → Bool
  | _, [] => true
  | pre, b :: r => isName b.name && (typeOk b.type && (!(pre.any fun x => x.name == b.name) && bindsOk (pre ++ [b]) r))
def validBinds (l : List Bind) : Bool := bindsOk [] l && decide ((l.length : Int) ≤ 4)
def zeroE : Expr := .mk 0 0 [] []
def plainBinds : List Bind → Bool
  | [] => true
  | b :: r => isPlain (coreOf b.type).1 && plainBinds r
def validDecl (d : Decl) : Bool := isName d.name && (validBinds d.binds && (if d.kind == 0 then typeOk d.type && exprOk d.body else
  plainBinds d.binds && (d.kind == 1 && (decide (0 < d.binds.length) && (d.type == [] && Expr.same d.body zeroE)))))
def declAt (m : Module) (name : Str) : Int := idxFrom (fun d => d.name == name) m.decls 0
def useAt (m : Module) (name : Str) : Int := idxFrom (fun u => u.name == name) m.uses 0
def moduleAt (p : List Module) (name : Str) : Int := idxFrom (fun m => m.name == name) p 0
def declsOk (m : Module) : List Decl → Nat → Bool
  | [], _ => true
  | d :: r, i => validDecl d && (declAt m d.name == i && (!decide (0 ≤ useAt m d.name) && declsOk m r (i + 1)))
def useOk (p : List Module) (m : Module) (u : Use) : Bool := match at' p (moduleAt p u.module) with
  | none => false
  | some o => o.name != m.name && decide (0 ≤ declAt o u.name)
def usesOk (p : List Module) (m : Module) : List Use → Nat → Bool
  | [], _ => true
  | u :: r, i => useOk p m u && (useAt m u.name == i && usesOk p m r (i + 1))
def validModule (p : List Module) (m : Module) : Bool := declsOk m m.decls 0 && (usesOk p m m.uses 0 && (isName m.name && (decide ((m.decls.length : Int) ≤ 6) && decide ((m.uses.length : Int) ≤ 4))))
def recIn (m : Module) (name : Str) : Nat := match at' m.decls (declAt m name) with
  | none => 0
  | some d => if d.kind == 1 then 1 else 0
def records (name : Str) : List Module → Nat
  | [] => 0
  | m :: r => recIn m name + records name r
def recsOk (p : List Module) : List Decl → Bool
  | [] => true
  | d :: r => !(d.kind == 1 && decide (1 < records d.name p)) && recsOk p r
def modsOk (p : List Module) : List Module → Nat → Bool
  | [], _ => true
  | m :: r, i => validModule p m && (moduleAt p m.name == i && (recsOk p m.decls && modsOk p r (i + 1)))
def programOk (p : List Module) : Bool := modsOk p p 0 && inR p.length 1 3
def sameDecl (a b : Decl) : Bool := a.kind == b.kind && (a.name == b.name && (a.type == b.type && (all2 (· == ·) a.binds b.binds && Expr.same a.body b.body)))
def sameModule (a b : Module) : Bool := a.name == b.name && (all2 (· == ·) a.uses b.uses && all2 sameDecl a.decls b.decls)
def sameProgram (a b : List Module) : Bool := all2 sameModule a b
def programSame (a b : List Module) : Bool := programOk a && (programOk b && sameProgram a b)

/-! #### Of a size that memory holds with room to spare -/
def Decl.Sm (d : Decl) : Prop := (d.name.length ≤ 1000000 ∧ d.type.length ≤ 1000000) ∧ d.binds.length ≤ 1000000 ∧ (∀ b, b ∈ d.binds → b.name.length ≤ 1000000 ∧ b.type.length ≤ 1000000) ∧ d.body.Sm
def Module.Sm (m : Module) : Prop := m.name.length ≤ 1000000 ∧ m.uses.length ≤ 1000000 ∧ (∀ u, u ∈ m.uses → u.module.length ≤ 1000000 ∧ u.name.length ≤ 1000000) ∧ m.decls.length ≤ 1000000 ∧ ∀ d, d ∈ m.decls → d.Sm
def SmP (p : List Module) : Prop := p.length ≤ 1000000 ∧ ∀ m, m ∈ p → m.Sm
end Go.Mach

/- What the program's own functions compute, in plain Lean, and that it is what the reference's do: names and types. -/
namespace Go.Mach
set_option linter.unusedVariables false

def sdB (b : UInt8) : Bool := small b || digit b
def allSD : Str → Bool
  | [] => true
  | b :: r => sdB b && allSD r
def keywordsS : Str := [32, 105, 110, 116, 32, 98, 111, 111, 108, 32, 116, 101, 120, 116, 32, 116, 114, 117, 101, 32, 102, 97, 108, 115, 101, 32, 105, 102, 32, 116, 104, 101, 110, 32, 101, 108, 115, 101, 32, 108, 101, 116, 32, 105, 110, 32, 102, 111, 114, 32, 102, 117, 110, 32, 116, 121, 112, 101, 32, 117, 115, 101, 32, 110, 111, 116, 32, 115, 105, 122, 101, 32, 97, 116, 32, 115, 97, 121, 32]
def firstSmall : Str → Bool
  | [] => false
  | b :: _ => small b
def nameOk (s : Str) : Bool := decide ((s.length : Int) ≤ 8) && (firstSmall s && (allSD s && !Lib.contains keywordsS ([32] ++ s ++ [32])))

/-! #### Words between blanks -/
def spc (ws : List Str) : Str := ws.flatMap fun w => w ++ [32]
theorem index_nonneg_iff (s sub : Str) : 0 ≤ Lib.index s sub ↔ ∃ k, sub <+: s.drop k := by
  rcases Lib.index_spec s sub with ⟨h1, h2⟩ | ⟨i, h1, h2, h3, h4⟩
  · rw [h1]
    constructor
    · intro h; omega
    · rintro ⟨k, hk⟩
      exfalso
      by_cases hl : k ≤ s.length
      · have := h2 k hl
        simp only [Lib.occAt] at this
        rw [List.isPrefixOf_iff_prefix.2 hk] at this
        cases this
      · rw [List.drop_of_length_le (by omega), List.prefix_nil] at hk
        subst hk
        have := h2 0 (Nat.zero_le _)
        simp [Lib.occAt] at this
  · rw [h1]
    exact ⟨fun _ => ⟨i, by simpa [Lib.occAt] using h3⟩, fun _ => by omega⟩
theorem nosp_prefix {s w r t : Str} (hs : ¬ (32 : UInt8) ∈ s) (hw : ¬ (32 : UInt8) ∈ w) (h : s ++ [32] ++ t = w ++ 32 :: r) : s = w := by
  induction s generalizing w with
  | nil => cases w with
    | nil => rfl
    | cons b w => simp at h hw; exact absurd h.1 hw.1
  | cons a s ih => cases w with
    | nil => simp at h hs; exact absurd h.1.symm hs.1
    | cons b w =>
      simp only [List.cons_append, List.cons.injEq, List.mem_cons, not_or] at h hs hw
      rw [h.1, ih hs.2 hw.2 h.2]
theorem spc_infix {s : Str} (hs : ¬ (32 : UInt8) ∈ s) : ∀ (ws : List Str), (∀ w, w ∈ ws → ¬ (32 : UInt8) ∈ w) → ((∃ k, ([32] ++ s ++ [32]) <+: (32 :: spc ws).drop k) ↔ s ∈ ws)
  | [], _ => by
    simp only [List.not_mem_nil, iff_false]
    rintro ⟨k, t, ht⟩
    have := congrArg List.length ht
    simp [spc] at this
    omega
  | w :: ws, hw => by
    have ih := spc_infix hs ws fun x hx => hw x (by simp [hx])
    have hww := hw w (by simp)
    have he : spc (w :: ws) = w ++ 32 :: spc ws := by simp [spc]
    rw [he, List.mem_cons, ← ih]
    constructor
    · rintro ⟨k, t, ht⟩
      cases k with
      | zero =>
        left
        simp only [List.drop_zero, List.cons_append, List.nil_append, List.cons.injEq, true_and, List.append_assoc] at ht
        exact nosp_prefix (t := t) hs hww (by simpa using ht)
      | succ k =>
        right
        simp only [List.drop_succ_cons] at ht
        by_cases hk : k < w.length
        · exfalso
          rw [List.drop_append_of_le_length (by omega)] at ht
          rw [List.drop_eq_getElem_cons hk] at ht
          simp only [List.cons_append, List.nil_append, List.cons.injEq] at ht
          exact hww (ht.1 ▸ List.getElem_mem hk)
        · refine ⟨k - w.length, t, ?_⟩
          rw [List.drop_append, List.drop_of_length_le (by omega)] at ht
          simpa using ht
    · rintro (rfl | ⟨k, t, ht⟩)
      · exact ⟨0, spc ws, by simp⟩
      · refine ⟨k + w.length + 1, t, ?_⟩
        rw [ht]
        simp only [List.drop_succ_cons]
        rw [Nat.add_comm k, ← List.drop_drop]
        simp
theorem keywords_eq : keywordsS = 32 :: spc wordsL := by decide
theorem words_nosp : ∀ w, w ∈ wordsL → ¬ (32 : UInt8) ∈ w := by decide
theorem contains_keywords {s : Str} (hs : ¬ (32 : UInt8) ∈ s) : Lib.contains keywordsS ([32] ++ s ++ [32]) = wordsL.contains s := by
  rw [Lib.contains, Bool.eq_iff_iff, decide_eq_true_eq, index_nonneg_iff, keywords_eq, spc_infix hs _ words_nosp]
  simp
theorem nosp_of_allSD : ∀ {s : Str}, allSD s = true → ¬ (32 : UInt8) ∈ s
  | [], _ => by simp
  | b :: r, h => by
    simp only [allSD, Bool.and_eq_true] at h
    intro hm
    rcases List.mem_cons.1 hm with rfl | hm
    · exact absurd h.1 (by decide)
    · exact nosp_of_allSD h.2 hm
theorem nameChars_succ : ∀ (s : Str) (i : Nat), nameChars (i + 1) s = allSD s
  | [], _ => rfl
  | b :: r, i => by simp [nameChars, allSD, sdB, nameChars_succ r (i + 1)]
theorem nameOk_eq (s : Str) : nameOk s = isName s := by
  cases s with
  | nil => decide
  | cons b r =>
    simp only [nameOk, isName, nameChars, firstSmall, nameChars_succ, allSD, sdB]
    cases hb : small b
    · simp
    · cases hr : allSD r
      · simp
      · rw [contains_keywords (nosp_of_allSD (by simp [allSD, sdB, hb, hr]))]
        have h1 : decide ((r.length : Int) + 1 ≤ 8) = inR (r.length + 1) 1 8 := by
          rw [Bool.eq_iff_iff]; simp [inR]; omega
        simp [h1]

/-! #### Types -/
def stripN : Nat → Str → Str
  | 0, t => t
  | n + 1, t => if brk t then stripN n (mid t) else t
theorem coreOf_more {t : Str} (h : brk t = true) : coreOf t = ((coreOf (mid t)).1, (coreOf (mid t)).2 + 1) := by rw [coreOf]; simp [h]
theorem coreOf_done {t : Str} (h : brk t = false) : coreOf t = (t, 0) := by rw [coreOf]; simp [h]
theorem brk_head {t : Str} (h : brk t = true) : ∃ r, t = 91 :: r := by
  cases t with
  | nil => simp [brk] at h
  | cons b r =>
    simp only [brk, Bool.and_eq_true] at h
    have h1 := h.2.1
    simp [byteAt] at h1
    refine ⟨r, ?_⟩
    have : b = 91 := by
      apply UInt8.toNat_inj.1
      have : (91 : UInt8).toNat = 91 := rfl
      omega
    rw [this]
theorem not_name_of_brk {t : Str} (h : brk t = true) : (isPlain t || isName t) = false := by
  obtain ⟨r, rfl⟩ := brk_head h
  simp [isPlain, isName, nameChars, small, digit]
theorem stripN_core : ∀ (n : Nat) (t : Str), (coreOf t).2 ≤ n → stripN n t = (coreOf t).1
  | 0, t, h => by
    cases hb : brk t with
    | true => rw [coreOf_more hb] at h; simp at h
    | false => rw [coreOf_done hb]; rfl
  | n + 1, t, h => by
    cases hb : brk t with
    | true =>
      rw [coreOf_more hb] at h ⊢
      simp only [stripN, hb, if_true]
      exact stripN_core n (mid t) (by simpa using h)
    | false => rw [coreOf_done hb]; simp [stripN, hb]
theorem stripN_brk : ∀ (n : Nat) (t : Str), n < (coreOf t).2 → brk (stripN n t) = true
  | 0, t, h => by
    cases hb : brk t with
    | true => exact hb
    | false => rw [coreOf_done hb] at h; simp at h
  | n + 1, t, h => by
    cases hb : brk t with
    | true =>
      rw [coreOf_more hb] at h
      simp only [stripN, hb, if_true]
      exact stripN_brk n (mid t) (by simpa using h)
    | false => rw [coreOf_done hb] at h; simp at h
def baseOk (t : Str) : Bool := isPlain (stripN 2 t) || isName (stripN 2 t)
theorem baseOk_eq (t : Str) : baseOk t = typeOk t := by
  by_cases h : (coreOf t).2 ≤ 2
  · simp [baseOk, typeOk, stripN_core 2 t h, h]
  · rw [baseOk, not_name_of_brk (stripN_brk 2 t (by omega))]
    simp [typeOk, h]
/-- A type without records. -/
theorem recordless_eq (t : Str) (h : typeOk t = true) : isPlain (stripN 2 t) = isPlain (coreOf t).1 := by
  simp only [typeOk, Bool.and_eq_true, decide_eq_true_eq] at h
  rw [stripN_core 2 t h.1]
theorem brk_list (t : Str) : brk ([91] ++ t ++ [93]) = true := by
  have h1 : byteAt ([91] ++ t ++ [93]) 0 = 91 := rfl
  have h2 : byteAt ([91] ++ t ++ [93]) ((([91] ++ t ++ [93]).length : Int) - 1) = 93 := by
    have : (((([91] ++ t ++ [93] : Str).length : Int)) - 1).toNat = ([91] ++ t : Str).length := by simp
    unfold byteAt
    rw [this, List.getD_eq_getElem?_getD, List.getElem?_append_right (Nat.le_refl _)]
    simp
  simp only [brk, h1, h2]
  simp
  omega
theorem mid_list (t : Str) : mid ([91] ++ t ++ [93]) = t := by
  have : ([91] ++ t ++ [93] : Str).length - 1 = ([91] ++ t : Str).length := by simp
  unfold mid
  rw [this, List.take_left]
  simp
theorem typeOk_list {t : Str} (h : typeOk ([91] ++ t ++ [93]) = true) : typeOk t = true := by
  simp only [typeOk, coreOf_more (brk_list t), mid_list, Bool.and_eq_true, decide_eq_true_eq] at h ⊢
  exact ⟨by omega, h.2⟩
/-- What an expression's kind asks of it, its parts aside. -/
def shapeOk (k n : Int) (t : Str) (len : Int) : Bool := inR k 0 15 && (validText k t && (inR n 0 (mostOf k) && inR len (kidsOf k).1 (kidsOf k).2))
end Go.Mach

/- What the program's own functions compute, in plain Lean, and that it is what the reference's do: expressions. -/
namespace Go.Mach
set_option linter.unusedVariables false

mutual
/-- How many have been counted behind an expression; none if it does not fit. -/
def fitsN : Expr → Nat → Nat → Option Nat
  | .mk k n t ks, c, tall => if 40 < c + 1 ∨ 9 < tall ∨ shapeOk k n t ks.length = false then none else fitsNs ks (c + 1) (tall + 1)
def fitsNs : List Expr → Nat → Nat → Option Nat
  | [], c, _ => some c
  | x :: xs, c, tall => match fitsN x c tall with
    | none => none
    | some c' => fitsNs xs c' tall
end
theorem fitsN_eq (e : Expr) (c tall : Nat) : fitsN e c tall = if 40 < c + 1 ∨ 9 < tall ∨ shapeOk e.kind e.num e.text e.kids.length = false then none else fitsNs e.kids (c + 1) (tall + 1) := by cases e; rfl
theorem validShape_shape (e : Expr) (tall : Nat) : validShape e tall = (tall != 0 && (shapeOk e.kind e.num e.text e.kids.length && validShapes e.kids (tall - 1))) := by
  rw [validShape_eq, shapeOk]
  simp only [Bool.and_assoc]
mutual
theorem fitsN_spec : ∀ (e : Expr) (c tall : Nat), tall ≤ 10 → c ≤ 40 → fitsN e c tall = if validShape e (10 - tall) = true ∧ c + e.size ≤ 40 then some (c + e.size) else none
  | .mk k n t ks, c, tall, ht, hc => by
    have ih := fitsNs_spec ks (c + 1) (tall + 1)
    simp only [fitsN, validShape_shape, Expr.kind, Expr.num, Expr.text, Expr.kids, Expr.size]
    have h2 : 10 - tall - 1 = 10 - (tall + 1) := by omega
    have h3 : (10 - tall != 0) = !decide (9 < tall) := by rw [Bool.eq_iff_iff]; simp; omega
    have h4 : c + (Expr.sizes ks + 1) = c + 1 + Expr.sizes ks := by omega
    rw [h2, h3, h4]
    grind
theorem fitsNs_spec : ∀ (l : List Expr) (c tall : Nat), tall ≤ 10 → c ≤ 40 → fitsNs l c tall = if validShapes l (10 - tall) = true ∧ c + Expr.sizes l ≤ 40 then some (c + Expr.sizes l) else none
  | [], c, tall, ht, hc => by simp [fitsNs, validShapes, Expr.sizes, hc]
  | x :: xs, c, tall, ht, hc => by
    have h1 := fitsN_spec x c tall ht hc
    have h2 := fitsNs_spec xs (c + x.size) tall ht
    simp only [fitsNs, validShapes, Expr.sizes, h1]
    have h4 : c + (x.size + Expr.sizes xs) = c + x.size + Expr.sizes xs := by omega
    simp only [h4]
    grind
end
/-- An expression fits just if the reference takes it. -/
theorem fitsN_ok (e : Expr) : (fitsN e 0 1).isSome = exprOk e := by
  rw [fitsN_spec e 0 1 (by decide) (by decide), exprOk]
  by_cases h : validShape e 9 = true <;> by_cases h2 : e.size ≤ 40 <;> simp [h, h2]
/-! #### Declarations -/
def recordlessB (t : Str) : Bool := typeOk t && isPlain (stripN 2 t)
def fitsB (k : Int) : List Bind → List Bind → Bool
  | _, [] => true
  | pre, b :: r => isName b.name && (typeOk b.type && (!(pre.any fun x => x.name == b.name) && ((k != 1 || recordlessB b.type) && fitsB k (pre ++ [b]) r)))
def declFits (d : Decl) : Bool := isName d.name && (decide ((d.binds.length : Int) ≤ 4) && (fitsB d.kind [] d.binds &&
  (if d.kind == 1 then decide (0 < d.binds.length) && (d.type == [] && Expr.same d.body zeroE) else d.kind == 0 && (typeOk d.type && exprOk d.body))))
theorem fitsB_one : ∀ (l pre : List Bind), fitsB 1 pre l = (bindsOk pre l && plainBinds l)
  | [], _ => rfl
  | b :: r, pre => by
    simp only [fitsB, bindsOk, plainBinds, fitsB_one r (pre ++ [b])]
    cases h : typeOk b.type
    · simp
    · rw [recordlessB, h, recordless_eq _ h]
      cases isName b.name <;> cases isPlain (coreOf b.type).1 <;> simp
      rw [Bool.and_assoc]
theorem fitsB_ne {k : Int} (hk : (k == 1) = false) : ∀ (l pre : List Bind), fitsB k pre l = bindsOk pre l
  | [], _ => rfl
  | b :: r, pre => by
    have : (k != 1) = true := by simp [bne, hk]
    simp [fitsB, bindsOk, fitsB_ne hk r (pre ++ [b]), this]
theorem declFits_eq (d : Decl) : declFits d = validDecl d := by
  simp only [declFits, validDecl, validBinds]
  cases h1 : d.kind == 1
  · rw [fitsB_ne h1]
    cases h0 : d.kind == 0 <;> simp [Bool.and_comm, Bool.and_left_comm]
    rw [Bool.and_assoc]
  · have h0 : (d.kind == 0) = false := by simp at h1 ⊢; omega
    have hk : d.kind = 1 := by simpa using h1
    rw [hk, fitsB_one]
    simp [Bool.and_comm, Bool.and_left_comm, Bool.and_assoc]
end Go.Mach

/- What the program's own ProgramOk computes, in plain Lean. -/
namespace Go.Mach
set_option linter.unusedVariables false

def useBadI (p : List Module) (i : Nat) (u : Use) (b : List Str) : Bool := match at' p (moduleAt p u.module) with
  | none => true
  | some o => moduleAt p u.module == i || (decide (declAt o u.name < 0) || b.contains u.name)
def usesI (p : List Module) (i : Nat) : List Use → List Str → Option (List Str)
  | [], b => some b
  | u :: r, b => if useBadI p i u b then none else usesI p i r (b ++ [u.name])
def declBad (d : Decl) (b a : List Str) : Bool := !validDecl d || (b.contains d.name || (d.kind == 1 && a.contains d.name))
def declsI : List Decl → List Str → List Str → Option (List Str)
  | [], _, a => some a
  | d :: r, b, a => if declBad d b a then none else declsI r (b ++ [d.name]) (if d.kind == 1 then a ++ [d.name] else a)
def modBad (p : List Module) (i : Nat) (m : Module) : Bool := !isName m.name || (decide (6 < (m.decls.length : Int)) || (decide (4 < (m.uses.length : Int)) || decide (0 ≤ moduleAt (p.take i) m.name)))
def modsI (p : List Module) : List Module → Nat → List Str → Bool
  | [], _, _ => true
  | m :: r, i, a => if modBad p i m then false else match usesI p i m.uses [] with
    | none => false
    | some b => match declsI m.decls b a with
      | none => false
      | some a' => modsI p r (i + 1) a'
def iprogramOk (p : List Module) : Bool := if decide ((p.length : Int) < 1) || decide (3 < (p.length : Int)) then false else modsI p p 0 []
end Go.Mach
