import Derived.Laws.Rows
import Derived.Laws.AppendOwn
import Derived.Below
import Derived.ChangeAgain
import Derived.WalkKit
import Derived.Calls
import Derived.Laws.Build
import Derived.Tactics
import Derived.Laws.Tables
import Derived.Laws.Entries
import Derived.Laws.Slices
import Derived.Laws.MakeOwn
import Derived.Laws.StructEq
import Derived.Great.BuildSlice
import Derived.Deep.MidRow
/- Pure values, the heap of a call's own objects, and how both lie in memory. -/
namespace Go.Mach
open Go
set_option linter.unusedVariables false

inductive PV where
  | bool (b : Bool)
  | int (k : IntKind) (n : Int)
  | str (s : List UInt8)
  | nilp
  | iptr (l : List PV)
  | ptr (o ep i off : Nat)
  | imm (es sp : List (List PV)) (lim : Bool)
  | ref (o ep lo len : Nat) (cap : Option Nat)
  | own (es : List (List PV)) (n sz ty : Nat) (lim : Bool)
  | fn (f : FuncId) (cs : List PV)
  | nilfn
  | agg (cs : List PV)
  | tup (vs : List PV)
  | nilif
  | someif
  | undef
  deriving Inhabited

structure AObj where
  es : List (List PV)
  sz : Nat
  ty : TypeId
  arr : Bool
  frz : Bool

abbrev Heap := List (Option AObj)

def isOwn : PV → Bool
  | .own .. => true
  | _ => false

/-- Where object `o` lies: its block, and how many elements the block has room for; and the blocks of the tree that hangs on cell `j` of object `o`. -/
structure Place where
  pl : Nat → Nat × Nat
  ft : Nat → Nat → Nat → Prop
instance : CoeFun Place fun _ => Nat → Nat × Nat := ⟨Place.pl⟩

/-- Block `b` belongs to the tree at cell `j` of object `o`. -/
def Tb (σ : Heap) (ι : Place) (o j b : Nat) : Prop := ∃ (ob : AObj) (x : PV), σ[o]? = some (some ob) ∧ ob.es.flatten[j]? = some x ∧ isOwn x = true ∧ ι.ft o j b
def Own (σ : Heap) (ι : Place) (b : Nat) : Prop := (∃ (o : Nat) (ob : AObj), σ[o]? = some (some ob) ∧ ob.frz = false ∧ (ι o).1 = b) ∨ ∃ o j, Tb σ ι o j b

/-- Values that lead only to memory that nobody writes any more: its blocks meet `B`. -/
inductive IR (w : World) (B : Nat → Prop) : PV → Value → Prop
  | bool (b : Bool) : IR w B (.bool b) (.bool b)
  | int (k : IntKind) (n : Int) : IR w B (.int k n) (.int k n)
  | str (s : List UInt8) (h : s.length ≤ maxLen) : IR w B (.str s) (.string ⟨s.toArray⟩)
  | nilp : IR w B .nilp (.pointer none)
  | iptr (l : List PV) (a : Addr) (vs : Nat → Value) (ho : 0 < l.length → B a.block) (hc : ∀ j x, l[j]? = some x → w.cell? (a.add j) = some (vs j))
      (hr : ∀ j x, l[j]? = some x → IR w B x (vs j)) : IR w B (.iptr l) (.pointer (some a))
  | imm (es sp : List (List PV)) (lim : Bool) (A : Option Addr) (a : Addr) (c sz : Nat) (vs : Nat → Value) (hc1 : es.length + sp.length ≤ c) (hc2 : c ≤ maxLen)
      (hl : lim = true → c = es.length + sp.length) (hA : 0 < (es ++ sp).length → A = some a) (ho : 0 < (es ++ sp).flatten.length → B a.block) (hz : ∀ e, e ∈ es ++ sp → e.length = sz)
      (hc : ∀ j x, (es ++ sp).flatten[j]? = some x → w.cell? (a.add j) = some (vs j)) (hr : ∀ j x, (es ++ sp).flatten[j]? = some x → IR w B x (vs j)) :
      IR w B (.imm es sp lim) (.slice A es.length c)
  | fn (f : FuncId) (cs : List PV) (vs : List Value) (hl : cs.length = vs.length) (hr : ∀ (j : Nat) (x : PV) (v : Value), cs[j]? = some x → vs[j]? = some v → IR w B x v) :
      IR w B (.fn f cs) (.func (.func f) #[] vs.toArray)
  | nilfn : IR w B .nilfn .nilFunc
  | agg (cs : List PV) (vs : List Value) (hl : cs.length = vs.length) (hr : ∀ (j : Nat) (x : PV) (v : Value), cs[j]? = some x → vs[j]? = some v → IR w B x v) :
      IR w B (.agg cs) (.agg vs.toArray)
  | tup (cs : List PV) (vs : List Value) (hl : cs.length = vs.length) (hr : ∀ (j : Nat) (x : PV) (v : Value), cs[j]? = some x → vs[j]? = some v → IR w B x v) :
      IR w B (.tup cs) (.tuple vs.toArray)
  | nilif : IR w B .nilif .nilIface
  | someif (t : TypeId) (v : Value) : IR w B .someif (.iface t v)

/-- Trees: arrays that nobody else knows, down to values that nobody writes; `S`: the blocks of the tree. -/
inductive TR (w : World) (B : Nat → Prop) : PV → Value → (Nat → Prop) → Prop
  | im (x : PV) (v : Value) (S : Nat → Prop) (hx : isOwn x = false) (h : IR w B x v) (hS : ∀ b, ¬ S b) : TR w B x v S
  | own (es : List (List PV)) (n sz : Nat) (ty : TypeId) (lim : Bool) (A : Option Addr) (b c m : Nat) (cur : Array Value) (S : Nat → Prop) (T : Nat → Nat → Prop) (vs : Nat → Value)
      (hb : w.heap[b]? = some (.cells cur ty (0, 0))) (hcs : cur.size = m * sz) (hcm : c ≤ m) (hm : m ≤ maxLen) (hn : n ≤ es.length) (hc : es.length ≤ c) (hl : lim = true → c = es.length) (hl' : lim = false → c = m)
      (hA : 0 < c → A = some ⟨b, 0, none⟩) (hz : ∀ e, e ∈ es → e.length = sz) (hv : ∀ j x, es.flatten[j]? = some x → cur[j]? = some (vs j)) (hr : ∀ j x, es.flatten[j]? = some x → TR w B x (vs j) (T j))
      (hS : ∀ b', S b' ↔ b' = b ∨ ∃ (j : Nat) (x : PV), es.flatten[j]? = some x ∧ T j b') (hT : ∀ (j : Nat) (x : PV), es.flatten[j]? = some x → ¬ T j b)
      (hd : ∀ (j j' : Nat) (x x' : PV) (b' : Nat), es.flatten[j]? = some x → es.flatten[j']? = some x' → T j b' → T j' b' → j = j') : TR w B (.own es n sz ty lim) (.slice A n c) S

/-- All values of a running function. -/
inductive VR (w : World) (σ : Heap) (ι : Place) (X : Nat → Prop) : PV → Value → Prop
  | im (x : PV) (v : Value) (h : IR w (fun b => ¬ Own σ ι b ∧ ¬ X b) x v) : VR w σ ι X x v
  | ptr (o ep i off : Nat) (v : Value) (ho : o < σ.length) (hs : ∃ a, v = .pointer (some a))
      (h : ∀ ob, σ[o]? = some (some ob) → ep ≤ ob.es.length ∧ (ob.es.length = ep → i < ep ∧ v = .pointer (some ⟨(ι o).1, i * ob.sz + off, none⟩))) : VR w σ ι X (.ptr o ep i off) v
  | ref (o ep lo len : Nat) (cap : Option Nat) (v : Value) (ho : o < σ.length) (hs : ∃ A c, v = .slice A len c)
      (h : ∀ ob, σ[o]? = some (some ob) → ep ≤ ob.es.length ∧ (ob.es.length = ep → lo + len ≤ ep ∧ ∃ A c, v = .slice A len c ∧ (0 < c → A = some ⟨(ι o).1, lo * ob.sz, none⟩) ∧ len ≤ c ∧ lo + c ≤ (ι o).2 ∧
        (cap = none → c = (ι o).2 - lo) ∧ (∀ k, cap = some k → c = k ∧ len ≤ k ∧ lo + k ≤ ep))) : VR w σ ι X (.ref o ep lo len cap) v
  | fn (f : FuncId) (cs : List PV) (vs : List Value) (hl : cs.length = vs.length) (hr : ∀ (j : Nat) (x : PV) (v : Value), cs[j]? = some x → vs[j]? = some v → VR w σ ι X x v) :
      VR w σ ι X (.fn f cs) (.func (.func f) #[] vs.toArray)
  | agg (cs : List PV) (vs : List Value) (hl : cs.length = vs.length) (hr : ∀ (j : Nat) (x : PV) (v : Value), cs[j]? = some x → vs[j]? = some v → VR w σ ι X x v) :
      VR w σ ι X (.agg cs) (.agg vs.toArray)
  | tup (cs : List PV) (vs : List Value) (hl : cs.length = vs.length) (hr : ∀ (j : Nat) (x : PV) (v : Value), cs[j]? = some x → vs[j]? = some v → VR w σ ι X x v) :
      VR w σ ι X (.tup cs) (.tuple vs.toArray)
  | undef (v : Value) : VR w σ ι X .undef v
  | own (es : List (List PV)) (n sz ty : Nat) (lim : Bool) (v : Value) : VR w σ ι X (.own es n sz ty lim) v

/-- Lists of values, one by one. -/
def VRs (w : World) (σ : Heap) (ι : Place) (X : Nat → Prop) (xs : List PV) (vs : List Value) : Prop :=
  xs.length = vs.length ∧ ∀ (j : Nat) (x : PV) (v : Value), xs[j]? = some x → vs[j]? = some v → VR w σ ι X x v
def IRs (w : World) (B : Nat → Prop) (xs : List PV) (vs : List Value) : Prop :=
  xs.length = vs.length ∧ ∀ (j : Nat) (x : PV) (v : Value), xs[j]? = some x → vs[j]? = some v → IR w B x v

section lists
variable {w : World} {σ : Heap} {ι : Place} {X : Nat → Prop}
theorem VRs.nil : VRs w σ ι X [] [] := ⟨rfl, fun j x v h => by simp at h⟩
theorem VRs.cons {x : PV} {v : Value} {xs : List PV} {vs : List Value} (h : VR w σ ι X x v) (hs : VRs w σ ι X xs vs) : VRs w σ ι X (x :: xs) (v :: vs) := by
  refine ⟨by simp [hs.1], fun j y u hy hu => ?_⟩
  cases j with
  | zero => simp at hy hu; subst hy; subst hu; exact h
  | succ j => simp at hy hu; exact hs.2 j y u hy hu
theorem VRs.of_cons {x : PV} {v : Value} {xs : List PV} {vs : List Value} (h : VRs w σ ι X (x :: xs) (v :: vs)) : VR w σ ι X x v ∧ VRs w σ ι X xs vs :=
  ⟨h.2 0 x v rfl rfl, by have := h.1; simp at this; exact this, fun j y u hy hu => h.2 (j + 1) y u (by simpa using hy) (by simpa using hu)⟩
end lists

/-- What one cell of object `o` holds. -/
def CR (w : World) (σ : Heap) (ι : Place) (X : Nat → Prop) (o j : Nat) (x : PV) (v : Value) : Prop :=
  VR w σ ι X x v ∧ (isOwn x = true → TR w (fun b => ¬ Own σ ι b ∧ ¬ X b) x v (ι.ft o j))

/-- The objects as they lie in memory. -/
structure HR (w : World) (σ : Heap) (ι : Place) (X : Nat → Prop) : Prop where
  obj : ∀ (o : Nat) (ob : AObj), σ[o]? = some (some ob) → ∃ cur : Array Value, w.heap[(ι o).1]? = some (.cells cur ob.ty (0, 0)) ∧ cur.size = (ι o).2 * ob.sz ∧ ob.es.length ≤ (ι o).2 ∧ (ι o).2 ≤ maxLen ∧
    (∀ e, e ∈ ob.es → e.length = ob.sz) ∧ ∀ (j : Nat) (x : PV), ob.es.flatten[j]? = some x → ∃ v : Value, cur[j]? = some v ∧ CR w σ ι X o j x v
  inj : ∀ (o o' : Nat) (ob ob' : AObj), σ[o]? = some (some ob) → σ[o']? = some (some ob') → ob.frz = false → (ι o).1 = (ι o').1 → o = o'
  out : ∀ (o : Nat) (ob : AObj), σ[o]? = some (some ob) → ¬ X (ι o).1
  fro : ∀ (o : Nat) (ob : AObj), σ[o]? = some (some ob) → ob.frz = true → ∀ x, x ∈ ob.es.flatten → isOwn x = false
  tin : ∀ (o o' j j' b : Nat), Tb σ ι o j b → Tb σ ι o' j' b → o = o' ∧ j = j'
  tob : ∀ (o j b : Nat), Tb σ ι o j b → ∀ (o' : Nat) (ob' : AObj), σ[o']? = some (some ob') → (ι o').1 ≠ b
  tx : ∀ (o j b : Nat), Tb σ ι o j b → ¬ X b

/-- What a piece of work leaves alone: all old blocks that are not its own to write. -/
structure Kept (ow : Nat → Prop) (w w' : World) : Prop where
  os : w'.os = w.os
  tape : w'.tape = w.tape
  output : w'.output = w.output
  size : w.heap.size ≤ w'.heap.size
  block : ∀ b, b < w.heap.size → ¬ ow b → w'.heap[b]? = w.heap[b]?
  shape : ∀ (b : Nat) (c : Array Value) (t : TypeId) (fr : Nat × Nat), w.heap[b]? = some (.cells c t fr) → ∃ c' : Array Value, w'.heap[b]? = some (.cells c' t fr) ∧ c'.size = c.size
  obj : ∀ b, b < w.heap.size → ow b → ∃ (c : Array Value) (t : TypeId) (fr : Nat × Nat), w.heap[b]? = some (.cells c t fr)

/-- How the objects go on. -/
structure Evo (w : World) (σ : Heap) (ι : Place) (σ' : Heap) (ι' : Place) : Prop where
  len : σ.length ≤ σ'.length
  obj : ∀ o, o < σ.length → ∀ ob', σ'[o]? = some (some ob') → ∃ ob, σ[o]? = some (some ob) ∧ ob'.sz = ob.sz ∧ ob'.ty = ob.ty ∧ ob.es.length ≤ ob'.es.length ∧
    (ob'.es.length = ob.es.length → ι' o = ι o) ∧ (ob'.frz = false → ob.frz = false)
  own : ∀ b, Own σ' ι' b → Own σ ι b ∨ w.heap.size ≤ b

theorem Kept.refl {ow : Nat → Prop} {w : World} (h : ∀ b, b < w.heap.size → ow b → ∃ (c : Array Value) (t : TypeId) (fr : Nat × Nat), w.heap[b]? = some (.cells c t fr)) : Kept ow w w :=
  ⟨rfl, rfl, rfl, Nat.le_refl _, fun _ _ _ => rfl, fun b c t fr h => ⟨c, h, rfl⟩, h⟩

theorem Kept.trans {ow ow' : Nat → Prop} {w w1 w2 : World} (h : Kept ow w w1) (h' : Kept ow' w1 w2) (ho : ∀ b, ow' b → ow b ∨ w.heap.size ≤ b) : Kept ow w w2 where
  os := h'.os.trans h.os
  tape := h'.tape.trans h.tape
  output := h'.output.trans h.output
  size := Nat.le_trans h.size h'.size
  block := fun b hb hn => (h'.block b (Nat.lt_of_lt_of_le hb h.size) (fun hw => (ho b hw).elim hn (fun hle => by omega))).trans (h.block b hb hn)
  shape := fun b c t fr hb => by
    obtain ⟨c1, h1, s1⟩ := h.shape b c t fr hb
    obtain ⟨c2, h2, s2⟩ := h'.shape b c1 t fr h1
    exact ⟨c2, h2, s2.trans s1⟩
  obj := h.obj

theorem Kept.below {w w' : World} (h : Kept (fun _ => False) w w') : RowKit.Below w.heap.size w w' :=
  ⟨h.os, h.tape, h.output, h.size, fun b hb => h.block b hb (fun x => x)⟩
theorem Kept.of_below {w w' : World} (h : RowKit.Below w.heap.size w w') (ow : Nat → Prop)
    (ho : ∀ b, b < w.heap.size → ow b → ∃ (c : Array Value) (t : TypeId) (fr : Nat × Nat), w.heap[b]? = some (.cells c t fr)) : Kept ow w w' :=
  ⟨h.os, h.tape, h.output, h.size, fun b hb _ => h.block b hb, fun b c t fr hb => ⟨c, by rw [h.block b (Array.getElem?_eq_some_iff.1 hb).1]; exact hb, rfl⟩, ho⟩

theorem Kept.keptBut {ow : Nat → Prop} {w w' : World} (h : Kept ow w w') : w.keptBut w' (fun p => ow p.block) := by
  refine ⟨h.os, h.output, fun i hi => ?_⟩
  by_cases ho : ow i
  · obtain ⟨c, t, fr, hc⟩ := h.obj i hi ho
    obtain ⟨c', hc', hs⟩ := h.shape i c t fr hc
    rw [hc, hc']
    exact ⟨rfl, rfl, hs, fun j hj => absurd ho hj⟩
  · rw [h.block i hi ho]
    split <;> simp_all

theorem Kept.cell {ow : Nat → Prop} {w w' : World} (h : Kept ow w w') {a : Addr} {v : Value} (hn : ¬ ow a.block) (hc : w.cell? a = some v) : w'.cell? a = some v :=
  (World.cell?_of_block (h.block a.block (World.block_lt_of_cell? w a hc) hn)).trans hc

theorem add_block (a : Addr) (j : Nat) : (a.add j).block = a.block := by unfold Addr.add; split <;> rfl

/-- Immutable values go on, as long as their blocks do. -/
theorem IR.mono {w w' : World} {B B' : Nat → Prop} {x : PV} {v : Value} (h : IR w B x v) (hB : ∀ b, b < w.heap.size → B b → B' b ∧ w'.heap[b]? = w.heap[b]?) : IR w' B' x v := by
  have hcell : ∀ {a : Addr} {u : Value}, w.cell? a = some u → B a.block → w'.cell? a = some u ∧ B' a.block := by
    intro a u hc hb
    obtain ⟨h1, h2⟩ := hB _ (World.block_lt_of_cell? w a hc) hb
    exact ⟨(World.cell?_of_block h2).trans hc, h1⟩
  induction h with
  | bool b => exact .bool b
  | int k n => exact .int k n
  | str s hs => exact .str s hs
  | nilp => exact .nilp
  | iptr l a vs ho hc hr ih =>
    have hl : ∀ (j : Nat) (x : PV), l[j]? = some x → w'.cell? (a.add j) = some (vs j) ∧ B' a.block := by
      intro j x hx
      have hp : 0 < l.length := by have := (List.getElem?_eq_some_iff.1 hx).1; omega
      have h1 := hcell (hc j x hx) (by rw [add_block]; exact ho hp)
      rw [add_block] at h1
      exact h1
    exact .iptr l a vs (fun hp => (hl 0 l[0] (by simp)).2) (fun j x hx => (hl j x hx).1) ih
  | imm es sp lim A a c sz vs hc1 hc2 hl hA ho hz hc hr ih =>
    have hl' : ∀ (j : Nat) (x : PV), (es ++ sp).flatten[j]? = some x → w'.cell? (a.add j) = some (vs j) ∧ B' a.block := by
      intro j x hx
      have hp : 0 < (es ++ sp).flatten.length := by have := (List.getElem?_eq_some_iff.1 hx).1; omega
      have h1 := hcell (hc j x hx) (by rw [add_block]; exact ho hp)
      rw [add_block] at h1
      exact h1
    exact .imm es sp lim A a c sz vs hc1 hc2 hl hA (fun hf => (hl' 0 _ (List.getElem?_eq_getElem hf)).2) hz (fun j x hx => (hl' j x hx).1) ih
  | fn f cs vs hl hr ih => exact .fn f cs vs hl ih
  | nilfn => exact .nilfn
  | agg cs vs hl hr ih => exact .agg cs vs hl ih
  | tup cs vs hl hr ih => exact .tup cs vs hl ih
  | nilif => exact .nilif
  | someif t v => exact .someif t v

/-- A value that is known goes on being known. -/
theorem VR.mono {w w' : World} {σ σ' : Heap} {ι ι' : Place} {X : Nat → Prop} {x : PV} {v : Value} (h : VR w σ ι X x v) (hk : Kept (Own σ ι) w w') (he : Evo w σ ι σ' ι') : VR w' σ' ι' X x v := by
  induction h with
  | im x v h =>
    refine .im x v (h.mono fun b hb hn => ⟨⟨fun ho => ?_, hn.2⟩, hk.block b hb hn.1⟩)
    rcases he.own b ho with h1 | h1
    · exact hn.1 h1
    · omega
  | ptr o ep i off v ho hs h =>
    refine .ptr o ep i off v (Nat.lt_of_lt_of_le ho he.len) hs (fun ob' hob' => ?_)
    obtain ⟨ob, h1, h2, _, h4, h5, _⟩ := he.obj o ho ob' hob'
    obtain ⟨g1, g2⟩ := h ob h1
    refine ⟨by omega, fun hep => ?_⟩
    obtain ⟨g3, g4⟩ := g2 (by omega)
    exact ⟨g3, by rw [h5 (by omega), h2]; exact g4⟩
  | ref o ep lo len cap v ho hs h =>
    refine .ref o ep lo len cap v (Nat.lt_of_lt_of_le ho he.len) hs (fun ob' hob' => ?_)
    obtain ⟨ob, h1, h2, _, h4, h5, _⟩ := he.obj o ho ob' hob'
    obtain ⟨g1, g2⟩ := h ob h1
    refine ⟨by omega, fun hep => ?_⟩
    obtain ⟨g3, A, c, g4, g5, g6, g7, g8, g9⟩ := g2 (by omega)
    exact ⟨g3, A, c, g4, by rw [h5 (by omega), h2]; exact g5, g6, by rw [h5 (by omega)]; exact g7, by rw [h5 (by omega)]; exact g8, g9⟩
  | fn f cs vs hl hr ih => exact .fn f cs vs hl ih
  | agg cs vs hl hr ih => exact .agg cs vs hl ih
  | tup cs vs hl hr ih => exact .tup cs vs hl ih
  | undef v => exact .undef v
  | own es n sz ty lim v => exact .own es n sz ty lim v

theorem VRs.mono {w w' : World} {σ σ' : Heap} {ι ι' : Place} {X : Nat → Prop} {xs : List PV} {vs : List Value} (h : VRs w σ ι X xs vs) (hk : Kept (Own σ ι) w w') (he : Evo w σ ι σ' ι') :
    VRs w' σ' ι' X xs vs := ⟨h.1, fun j x v hx hv => (h.2 j x v hx hv).mono hk he⟩

theorem TR.cells {w : World} {B : Nat → Prop} {x : PV} {v : Value} {S : Nat → Prop} (h : TR w B x v S) : ∀ b, S b → ∃ (c : Array Value) (t : TypeId) (fr : Nat × Nat), w.heap[b]? = some (.cells c t fr) := by
  induction h with
  | im x v S hx h hS => exact fun b hb => absurd hb (hS b)
  | own es n sz ty lim A b c m cur S T vs hb hcs hcm hm hn hc hl hl' hA hz hv hr hS hT hd ih =>
    intro b' hb'
    rcases (hS b').1 hb' with rfl | ⟨j, x, hx, ht⟩
    · exact ⟨cur, ty, _, hb⟩
    · exact ih j x hx b' ht
/-- Trees go on, as long as their blocks do. -/
theorem TR.mono {w w' : World} {B B' : Nat → Prop} {x : PV} {v : Value} {S : Nat → Prop} (h : TR w B x v S) (hB : ∀ b, b < w.heap.size → B b → B' b ∧ w'.heap[b]? = w.heap[b]?) (hS : ∀ b, S b → w'.heap[b]? = w.heap[b]?) : TR w' B' x v S := by
  induction h with
  | im x v S hx h hS0 => exact .im x v S hx (h.mono hB) hS0
  | own es n sz ty lim A b c m cur S T vs hb hcs hcm hm hn hc hl hl' hA hz hv hr hS' hT hd ih =>
    exact .own es n sz ty lim A b c m cur S T vs (by rw [hS b ((hS' b).2 (.inl rfl))]; exact hb) hcs hcm hm hn hc hl hl' hA hz hv
      (fun j x hx => ih j x hx fun b' hb' => hS b' ((hS' b').2 (.inr ⟨j, x, hx, hb'⟩))) hS' hT hd

theorem HR.own_cells {w : World} {σ : Heap} {ι : Place} {X : Nat → Prop} (h : HR w σ ι X) {b : Nat} (ho : Own σ ι b) : ∃ (c : Array Value) (t : TypeId) (fr : Nat × Nat), w.heap[b]? = some (.cells c t fr) := by
  rcases ho with ⟨o, ob, h1, _, rfl⟩ | ⟨o, j, ob, x, h1, h2, h3, h4⟩
  · obtain ⟨cur, h2, _⟩ := h.obj o ob h1
    exact ⟨cur, _, _, h2⟩
  · obtain ⟨cur, _, _, _, _, _, h6⟩ := h.obj o ob h1
    obtain ⟨v, _, _, hr⟩ := h6 j x h2
    exact (hr h3).cells b h4

theorem Evo.refl (w : World) (σ : Heap) (ι : Place) : Evo w σ ι σ ι :=
  ⟨Nat.le_refl _, fun o _ ob' h => ⟨ob', h, rfl, rfl, Nat.le_refl _, fun _ => rfl, fun h => h⟩, fun b h => .inl h⟩
theorem Evo.trans {w w1 : World} {σ σ1 σ2 : Heap} {ι ι1 ι2 : Place} (h : Evo w σ ι σ1 ι1) (h' : Evo w1 σ1 ι1 σ2 ι2) (hw : w.heap.size ≤ w1.heap.size) : Evo w σ ι σ2 ι2 where
  len := Nat.le_trans h.len h'.len
  obj := fun o ho ob2 h2 => by
    obtain ⟨ob1, h1, a1, a2, a3, a4, a5⟩ := h'.obj o (Nat.lt_of_lt_of_le ho h.len) ob2 h2
    obtain ⟨ob, h0, b1, b2, b3, b4, b5⟩ := h.obj o ho ob1 h1
    exact ⟨ob, h0, a1.trans b1, a2.trans b2, Nat.le_trans b3 a3, fun he => (a4 (by omega)).trans (b4 (by omega)), fun hf => b5 (a5 hf)⟩
  own := fun b hb => by
    rcases h'.own b hb with h1 | h1
    · exact h.own b h1
    · exact .inr (by omega)

end Go.Mach

/- The small language, its pure steps, contracts, and what it means that a piece of code runs well from a pure state. -/
namespace Go.Mach
open Go
set_option linter.unusedVariables false

inductive MX where
  | t (n : Nat)
  | c (v : PV)
  deriving Inhabited

/-- What a field of a struct that is compared holds. -/
inductive EK where
  | s
  | i
  | b
  deriving Inhabited, DecidableEq

inductive MOp where
  | mov (x : MX)
  | pick (c a b : MX)
  | not (x : MX)
  | neg (x : MX)
  | bin (op : BinOp) (x y : MX)
  | seq (ne : Bool) (x y : MX)
  | cat (x y : MX)
  | beq (ne : Bool) (x y : MX)
  | eqa (ne : Bool) (ks : List EK) (x y : MX)
  | eqn (ne : Bool) (x : MX)
  | box (ty : Nat) (x : MX)
  | alloc (ty : Nat) (z : List PV)
  | build (z : List PV) (parts : List (Nat × Nat × MX))
  | bsl (ty sz n : Nat) (z : List PV) (parts : List (Nat × MX))
  | load (ag : Bool) (sz : Nat) (x : MX)
  | store (sz : Nat) (x v : MX)
  | nilc (x : MX)
  | sls (x : MX) (lo hi : Option MX)
  | sl (sz : Nat) (x : MX) (lo hi mx : Option MX)
  | fadr (off : Nat) (x : MX)
  | fld (ag : Bool) (off sz : Nat) (x : MX)
  | iadr (sz : Nat) (x i : MX)
  | idx (x i : MX)
  | ext (x : MX) (n : Nat)
  | mkf (f : FuncId) (caps : List MX)
  | mks (ty sz bytes : Nat) (z : List PV) (len cap : MX)
  | call (f : MX) (args : List MX)
  | lens (x : MX)
  | lenl (x : MX)
  | app (ty sz bytes : Nat) (x y : MX)
  | cnvi (k : IntKind) (x : MX)
  | mm (mx : Bool) (x y : MX)
  | cnvs (x : MX)
  deriving Inhabited

structure MOper where
  dst : Option Nat
  op : MOp
  grd : Option (Nat × Bool)
  deriving Inhabited

inductive MC where
  | skip
  | reg (ops : List MOper)
  | dreg (ops : List (MOper × List Nat))
  | seq (a b : MC)
  | cond (x : MX) (a b : MC)
  | blk (id : Nat) (c : MC)
  | loop (c : MC)
  | exit (id : Nat)
  | ret
  deriving Inhabited

/-- Temporaries, objects, and the objects with which the function was entered. -/
structure St where
  τ : Nat → PV
  σ : Heap
  base : Heap

def St.get (st : St) : MX → PV
  | .t n => st.τ n
  | .c v => v
def St.put (st : St) (d : Nat) (v : PV) : St := ⟨fun t => if t = d then v else st.τ t, st.σ, st.base⟩
def St.putO (st : St) (d : Option Nat) (v : PV) : St := match d with
  | some d => st.put d v
  | none => st
def St.withσ (st : St) (σ : Heap) : St := ⟨st.τ, σ, st.base⟩

/-! ### Values -/
mutual
def pureV : PV → Bool
  | .fn _ cs => pureL cs
  | .agg cs => pureL cs
  | .tup cs => pureL cs
  | .ptr .. => false
  | .ref .. => false
  | .own .. => false
  | .undef => false
  | _ => true
def pureL : List PV → Bool
  | [] => true
  | x :: xs => pureV x && pureL xs
end
mutual
/-- No memory hangs on it. -/
def scalV : PV → Bool
  | .agg cs => scalL cs
  | .tup cs => scalL cs
  | .bool _ => true
  | .int _ _ => true
  | .str _ => true
  | .nilp => true
  | .nilfn => true
  | .nilif => true
  | _ => false
def scalL : List PV → Bool
  | [] => true
  | x :: xs => scalV x && scalL xs
end
/-- One cell of memory can hold it. -/
def cellV : PV → Bool
  | .agg _ => false
  | .tup _ => false
  | .undef => false
  | .own .. => false
  | _ => true
def cellsOf : PV → List PV
  | .agg cs => cs
  | v => [v]

def snapSp (es : List (List PV)) (lo len : Nat) : Option Nat → List (List PV)
  | none => es.drop (lo + len)
  | some k => (es.take (lo + k)).drop (lo + len)
def snapE (es : List (List PV)) (lo len : Nat) (cap : Option Nat) : PV := .imm ((es.take (lo + len)).drop lo) (snapSp es lo len cap) cap.isSome

def mapO {α β : Type} (f : α → Option β) : List α → Option (List β)
  | [] => some []
  | x :: xs => match f x, mapO f xs with
    | some y, some ys => some (y :: ys)
    | _, _ => none
mutual
/-- A tree, to be read only. -/
def unown : PV → PV
  | .own es n _ _ lim => .imm ((unownLL es).take n) ((unownLL es).drop n) lim
  | .agg cs => .agg (unownL cs)
  | .tup cs => .tup (unownL cs)
  | x => x
def unownL : List PV → List PV
  | [] => []
  | x :: xs => unown x :: unownL xs
def unownLL : List (List PV) → List (List PV)
  | [] => []
  | x :: xs => unownL x :: unownLL xs
end
mutual
/-- A tree becomes an object with a reference to it. -/
def unfV (σ : Heap) : PV → PV × Heap
  | .own es n sz ty lim => (.ref σ.length es.length 0 n (if lim then some es.length else none), σ ++ [some ⟨es, sz, ty, true, false⟩])
  | .agg cs => (.agg (unfL σ cs).1, (unfL σ cs).2)
  | .tup cs => (.tup (unfL σ cs).1, (unfL σ cs).2)
  | x => (x, σ)
def unfL (σ : Heap) : List PV → List PV × Heap
  | [] => ([], σ)
  | x :: xs => ((unfV σ x).1 :: (unfL (unfV σ x).2 xs).1, (unfL (unfV σ x).2 xs).2)
end
def treeV (x : PV) : Bool := isOwn x || pureV x
def wholeB (ob : AObj) (ep lo len : Nat) (cap : Option Nat) : Bool :=
  ob.es.length == ep && lo == 0 && !ob.frz && ob.arr && ob.es.all (·.all treeV) && (match cap with | none => true | some k => k == ep)
mutual
/-- References to objects from `m` on become trees, and the objects are gone. -/
def takeV (m : Nat) (σ : Heap) : PV → Option (PV × Heap)
  | .ref o ep lo len cap => if o < m then some (.ref o ep lo len cap, σ) else match σ[o]? with
    | some (some ob) => if wholeB ob ep lo len cap then some (.own ob.es len ob.sz ob.ty cap.isSome, σ.set o none) else none
    | _ => none
  | .agg cs => (takeL m σ cs).map fun r => (.agg r.1, r.2)
  | .tup cs => (takeL m σ cs).map fun r => (.tup r.1, r.2)
  | .ptr o ep i off => if o < m then some (.ptr o ep i off, σ) else none
  | x => if pureV x then some (x, σ) else none
def takeL (m : Nat) (σ : Heap) : List PV → Option (List PV × Heap)
  | [] => some ([], σ)
  | x :: xs => match takeV m σ x with
    | some (y, σ1) => (takeL m σ1 xs).map fun r => (y :: r.1, r.2)
    | none => none
end
mutual
/-- Nothing in it but trees, down to values on which no memory hangs. -/
def closedV : PV → Bool
  | .own es _ _ _ _ => closedLL es
  | .agg cs => closedL cs
  | .tup cs => closedL cs
  | .bool _ => true
  | .int _ _ => true
  | .str _ => true
  | .nilp => true
  | .nilfn => true
  | .nilif => true
  | .imm [] [] _ => true
  | _ => false
def closedL : List PV → Bool
  | [] => true
  | x :: xs => closedV x && closedL xs
def closedLL : List (List PV) → Bool
  | [] => true
  | x :: xs => closedL x && closedLL xs
end
mutual
def noOwnV : PV → Bool
  | .own .. => false
  | .agg cs => noOwnL cs
  | .tup cs => noOwnL cs
  | .fn _ cs => noOwnL cs
  | _ => true
def noOwnL : List PV → Bool
  | [] => true
  | x :: xs => noOwnV x && noOwnL xs
end
/-- The value as memory holds it now, to be read only; objects below `m` are not for it. -/
def snapV (σ : Heap) (m : Nat) : Nat → PV → Option PV
  | 0, x => if pureV x then some x else none
  | n + 1, x => if pureV x then some x else match x with
    | .ref o ep lo len cap => match σ[o]? with
      | some (some ob) => if m ≤ o ∧ ob.es.length = ep then (mapO (mapO fun y => if isOwn y then some (unown y) else snapV σ m n y) ob.es).map fun es => snapE es lo len cap else none
      | _ => none
    | .ptr o ep i off => match σ[o]? with
      | some (some ob) => if m ≤ o ∧ ob.es.length = ep then match ob.es[i]? with
        | some e => (mapO (fun y => if isOwn y then some (unown y) else snapV σ m n y) e).map fun l => .iptr (l.drop off)
        | none => none
        else none
      | _ => none
    | .agg cs => (mapO (snapV σ m n) cs).map .agg
    | .tup cs => (mapO (snapV σ m n) cs).map .tup
    | .fn f cs => (mapO (snapV σ m n) cs).map (.fn f)
    | _ => none
def snapL (σ : Heap) (n : Nat) (xs : List PV) : Option (List PV) := mapO (snapV σ 0 n) xs

/-! ### Steps of the proof alone -/
inductive GOp where
  | abs (o i off : Nat)
  | frz (o : Nat)
/-- The object that a cell refers to becomes the cell's own tree. -/
def absG (σ : Heap) (o i off : Nat) : Option Heap := match σ[o]? with
  | some (some ob) => if ob.frz then none else match ob.es[i]? with
    | some e => match e[off]? with
      | some (.ref o' ep lo len cap) => match σ[o']? with
        | some (some ob') => if o' ≠ o ∧ wholeB ob' ep lo len cap = true then
            some ((σ.set o' none).set o (some { ob with es := ob.es.set i (e.set off (.own ob'.es len ob'.sz ob'.ty cap.isSome)) })) else none
        | _ => none
      | _ => none
    | none => none
  | _ => none
/-- An object that is written no more. -/
def frzG (σ : Heap) (o : Nat) : Option Heap := match σ[o]? with
  | some (some ob) => if ob.es.all (·.all treeV) then some (σ.set o (some { ob with es := unownLL ob.es, frz := true })) else none
  | _ => none
def gop (σ : Heap) : GOp → Option Heap
  | .abs o i off => absG σ o i off
  | .frz o => frzG σ o
def gops : List GOp → Heap → Option Heap
  | [], σ => some σ
  | g :: gs, σ => match gop σ g with
    | some σ' => gops gs σ'
    | none => none
/-- What frozen objects hold. -/
def frzV (σ : Heap) : PV → PV
  | .ref o ep lo len cap => match σ[o]? with
    | some (some ob) => if ob.frz ∧ ob.es.length = ep ∧ ob.es.all pureL then snapE ob.es lo len cap else .ref o ep lo len cap
    | _ => .ref o ep lo len cap
  | x => x

/-! ### What is left of a heap when a function is done -/
mutual
/-- All references lead to the first `m` objects. -/
def bdV (m : Nat) : PV → Bool
  | .ref o .. => decide (o < m)
  | .ptr o .. => decide (o < m)
  | .agg cs => bdL m cs
  | .tup cs => bdL m cs
  | .fn _ cs => bdL m cs
  | _ => true
def bdL (m : Nat) : List PV → Bool
  | [] => true
  | x :: xs => bdV m x && bdL m xs
end
def CutTo (σ0 σ1 : Heap) (m : Nat) (σ' : Heap) : Prop := σ'.length = m ∧ σ0.length ≤ m ∧ m ≤ σ1.length ∧ ∀ o, o < m →
  σ'[o]? = some none ∨ (o < σ0.length ∧ σ'[o]? = σ1[o]? ∧ σ1[o]? = σ0[o]?) ∨
  ∃ ob, σ1[o]? = some (some ob) ∧ σ'[o]? = some (some ob) ∧ (ob.es.all fun e => e.all (bdV m)) = true

/-! ### Steps without calls -/
inductive Ev where
  | ok (v : PV)
  | ob (p : Prop) (v : PV)
  | hp (p : Prop) (v : PV) (σ : Heap)
  | call (f : PV) (A : List PV)
  | bad

def notV : PV → Ev
  | .bool b => .ok (.bool (!b))
  | _ => .bad
def negV : PV → Ev
  | .int k n => .ok (.int k (k.wrap (0 - n)))
  | _ => .bad
def pickV (c a b : PV) : Ev := match c with
  | .bool b' => .ok (if b' then a else b)
  | _ => .bad
def intB (op : BinOp) (k : IntKind) (a b : Int) : Ev := match op with
  | .add => .ok (.int k (k.wrap (a + b)))
  | .sub => .ok (.int k (k.wrap (a - b)))
  | .mul => .ok (.int k (k.wrap (a * b)))
  | .quo => .ob (b ≠ 0) (.int k (k.wrap (a.tdiv b)))
  | .rem => .ob (b ≠ 0) (.int k (a.tmod b))
  | .eql => .ok (.bool (a == b))
  | .neq => .ok (.bool (a != b))
  | .lss => .ok (.bool (a < b))
  | .leq => .ok (.bool (a ≤ b))
  | .gtr => .ok (.bool (a > b))
  | .geq => .ok (.bool (a ≥ b))
  | _ => .bad
def binV (op : BinOp) (x y : PV) : Ev := match x, y with
  | .int k a, .int k' b => if k = k' then intB op k a b else .bad
  | _, _ => .bad
def seqV (ne : Bool) (x y : PV) : Ev := match x, y with
  | .str a, .str b => .ok (.bool (if ne then !(a == b) else a == b))
  | _, _ => .bad
def catV (x y : PV) : Ev := match x, y with
  | .str a, .str b => .ob (a.length + b.length ≤ maxLen) (.str (a ++ b))
  | _, _ => .bad
def beqV (ne : Bool) (x y : PV) : Ev := match x, y with
  | .bool a, .bool b => .ok (.bool (if ne then !(a == b) else a == b))
  | _, _ => .bad
def eqC : List EK → List PV → List PV → Option Bool
  | [], [], [] => some true
  | .s :: ks, .str a :: xs, .str b :: ys => (eqC ks xs ys).map fun r => a == b && r
  | .i :: ks, .int k a :: xs, .int k' b :: ys => if k = k' then (eqC ks xs ys).map fun r => a == b && r else none
  | .b :: ks, .bool a :: xs, .bool b :: ys => (eqC ks xs ys).map fun r => a == b && r
  | _, _, _ => none
def eqaV (ne : Bool) (ks : List EK) (x y : PV) : Ev := match x, y with
  | .agg a, .agg b => match eqC ks a b with
    | some r => .ok (.bool (if ne then !r else r))
    | none => .bad
  | _, _ => .bad
def eqnV (ne : Bool) (x : PV) : Ev := match x with
  | .nilif => .ok (.bool (!ne))
  | .someif => .ok (.bool ne)
  | _ => .bad
def newV (σ : Heap) (ty : Nat) (cs : List PV) : Ev :=
  if cs.all cellV then .hp True (.ptr σ.length 1 0 0) (σ ++ [some ⟨[cs], cs.length, ty, false, false⟩]) else .bad
def boxV (σ : Heap) (ty : Nat) (x : PV) : Ev := newV σ ty (cellsOf x)
def fillC : List PV → List (Nat × Nat × PV) → Option (List PV)
  | cs, [] => some cs
  | cs, (off, sz, v) :: rest => if (cellsOf v).length = sz ∧ off + sz ≤ cs.length ∧ (cellsOf v).all cellV then fillC (cs.take off ++ cellsOf v ++ cs.drop (off + sz)) rest else none
def buildV (z : List PV) (parts : List (Nat × Nat × PV)) : Ev := match fillC z parts with
  | some cs => .ok (.agg cs)
  | none => .bad
def bslGo (sz : Nat) : List (List PV) → List (Nat × PV) → Option (List (List PV))
  | es, [] => some es
  | es, (i, v) :: rest => if (cellsOf v).length = sz ∧ i < es.length ∧ (cellsOf v).all cellV then bslGo sz (es.set i (cellsOf v)) rest else none
def bslV (σ : Heap) (ty sz n : Nat) (z : List PV) (parts : List (Nat × PV)) : Ev :=
  match bslGo sz (List.replicate n z) parts with
  | some es => .hp True (.ref σ.length n 0 n none) (σ ++ [some ⟨es, sz, ty, true, false⟩])
  | none => .bad
def loadC (ag : Bool) (sz : Nat) (l : List PV) : Ev :=
  if ag then (if sz ≤ l.length then .ok (.agg (l.take sz)) else .bad) else match l with
    | x :: _ => .ok x
    | [] => .bad
/-- The trees of the cells of an element become objects. -/
def unf1 (σ : Heap) (o i off : Nat) : Heap := match σ[o]? with
  | some (some ob) => match ob.es[i]? with
    | some e => match e[off]? with
      | some (.own es n sz ty lim) => σ.set o (some { ob with es := ob.es.set i (e.set off (.ref σ.length es.length 0 n (if lim then some es.length else none))) }) ++ [some ⟨es, sz, ty, true, false⟩]
      | _ => σ
    | none => σ
  | _ => σ
def unfs (o i : Nat) : Nat → Nat → Heap → Heap
  | 0, _, σ => σ
  | n + 1, off, σ => unfs o i n (off + 1) (unf1 σ o i off)
def plainV (σ : Heap) (ag : Bool) (sz : Nat) (o ep i off : Nat) : Ev := match σ[o]? with
  | some (some ob) => if ob.es.length = ep then match ob.es[i]? with
    | some e => loadC ag sz (e.drop off)
    | none => .bad
    else .bad
  | _ => .bad
def hpOf (σ : Heap) : Ev → Ev
  | .ok v => .hp True v σ
  | _ => .bad
def loadV (σ : Heap) (ag : Bool) (sz : Nat) (x : PV) : Ev := match x with
  | .iptr l => loadC ag sz l
  | .ptr o ep i off => match σ[o]? with
    | some (some ob) => match ob.es[i]? with
      | some e => if ((e.drop off).take sz).any isOwn then hpOf (unfs o i sz off σ) (plainV (unfs o i sz off σ) ag sz o ep i off) else plainV σ ag sz o ep i off
      | none => .bad
    | _ => .bad
  | _ => .bad
def storeV (σ : Heap) (sz : Nat) (x v : PV) : Ev := match x with
  | .ptr o ep i off => match σ[o]? with
    | some (some ob) => if ob.es.length = ep ∧ ob.frz = false ∧ (cellsOf v).length = sz ∧ off + sz ≤ ob.sz ∧ (cellsOf v).all cellV then match ob.es[i]? with
      | some e => .hp True (.tup []) (σ.set o (some { ob with es := ob.es.set i (e.take off ++ cellsOf v ++ e.drop (off + sz)) }))
      | none => .bad
      else .bad
    | _ => .bad
  | _ => .bad
def nilcV (x : PV) : Ev := match x with
  | .ptr .. => .ok x
  | .iptr _ => .ok x
  | .fn .. => .ok x
  | _ => .bad
def optI (d : Int) : Option PV → Option Int
  | none => some d
  | some (.int _ n) => some n
  | some _ => none
def slsV (x : PV) (lo hi : Option PV) : Ev := match x with
  | .str s => match optI 0 lo, optI s.length hi with
    | some l, some h => .ob (0 ≤ l ∧ l ≤ h ∧ h ≤ s.length) (.str ((s.take h.toNat).drop l.toNat))
    | _, _ => .bad
  | _ => .bad
def slV (σ : Heap) (sz : Nat) (x : PV) (lo hi mx : Option PV) : Ev := match x with
  | .imm es sp lim => match optI 0 lo, optI es.length hi, optI (es.length + sp.length) mx with
    | some l, some h, some m => .ob (0 ≤ l ∧ l ≤ h ∧ h ≤ m ∧ m ≤ es.length + sp.length ∧ ∀ e, e ∈ es ++ sp → e.length = sz)
        (.imm (((es ++ sp).take h.toNat).drop l.toNat) (((es ++ sp).take m.toNat).drop h.toNat) (lim || mx.isSome))
    | _, _, _ => .bad
  | .ref o ep b len cap => match σ[o]? with
    | some (some ob) => if ob.es.length = ep ∧ ob.sz = sz then match optI 0 lo, optI len hi, optI (cap.getD (ep - b)) mx with
      | some l, some h, some m => .ob (0 ≤ l ∧ l ≤ h ∧ h ≤ m ∧ m ≤ (cap.getD (ep - b) : Nat))
          (.ref o ep (b + l.toNat) (h.toNat - l.toNat) (if mx.isSome then some (m.toNat - l.toNat) else cap.map (· - l.toNat)))
      | _, _, _ => .bad
      else .bad
    | _ => .bad
  | _ => .bad
def fadrV (off : Nat) (x : PV) : Ev := match x with
  | .iptr l => .ok (.iptr (l.drop off))
  | .ptr o ep i f => .ok (.ptr o ep i (f + off))
  | _ => .bad
def fldV (ag : Bool) (off sz : Nat) (x : PV) : Ev := match x with
  | .agg cs => if ag then (if off + sz ≤ cs.length then .ok (.agg ((cs.drop off).take sz)) else .bad) else match cs[off]? with
    | some v => .ok v
    | none => .bad
  | _ => .bad
def iadrV (σ : Heap) (sz : Nat) (x i : PV) : Ev := match x, i with
  | .imm es _ _, .int _ n => .ob (0 ≤ n ∧ n < es.length ∧ (es.getD n.toNat []).length = sz) (.iptr (es.getD n.toNat []))
  | .ref o ep lo len _, .int _ n => match σ[o]? with
    | some (some ob) => if ob.es.length = ep ∧ ob.sz = sz then .ob (0 ≤ n ∧ n < len) (.ptr o ep (lo + n.toNat) 0) else .bad
    | _ => .bad
  | _, _ => .bad
def byteAt (s : List UInt8) (n : Int) : Int := ((s.getD n.toNat 0).toNat : Int)
def idxV (x i : PV) : Ev := match x, i with
  | .str s, .int _ n => .ob (0 ≤ n ∧ n < s.length) (.int .u8 (byteAt s n))
  | _, _ => .bad
def extV (x : PV) (n : Nat) : Ev := match x with
  | .tup vs => match vs[n]? with
    | some v => .ok v
    | none => .bad
  | _ => .bad
def mksV (σ : Heap) (ty sz bytes : Nat) (z : List PV) (len cap : PV) : Ev := match len, cap with
  | .int _ l, .int _ c => .hp (0 ≤ l ∧ l ≤ c ∧ c * bytes ≤ 140737488355328 ∧ c ≤ 9223372036854775807) (.ref σ.length c.toNat 0 l.toNat (some c.toNat)) (σ ++ [some ⟨List.replicate c.toNat z, sz, ty, true, false⟩])
  | _, _ => .bad
def lensV : PV → Ev
  | .str s => .ok (.int .i64 s.length)
  | _ => .bad
def lenlV (x : PV) : Ev := match x with
  | .imm es _ _ => .ok (.int .i64 es.length)
  | .ref _ _ _ len _ => .ok (.int .i64 len)
  | _ => .bad
/-- The elements that a slice shows. -/
def elems (σ : Heap) : PV → Option (List (List PV))
  | .imm es _ _ => some es
  | .ref o ep lo len _ => match σ[o]? with
    | some (some ob) => if ob.es.length = ep then some ((ob.es.take (lo + len)).drop lo) else none
    | _ => none
  | _ => none
def okE (sz : Nat) (e : List PV) : Bool := e.length == sz && e.all cellV
def appNew (σ : Heap) (ty sz bytes : Nat) (old ys : List (List PV)) : Ev :=
  .hp ((old.length + ys.length) * bytes ≤ 140737488355328 ∧ (∀ e, e ∈ old → okE sz e = true) ∧ ∀ e, e ∈ ys → okE sz e = true)
    (.ref σ.length (old ++ ys).length 0 (old ++ ys).length none) (σ ++ [some ⟨old ++ ys, sz, ty, true, false⟩])
def appE (es : List (List PV)) (len : Nat) (ys : List (List PV)) : List (List PV) := if len = es.length then es ++ ys else es.take len ++ ys ++ es.drop (len + ys.length)
def appV (σ : Heap) (ty sz bytes : Nat) (x y : PV) : Ev := match elems σ y with
  | none => .bad
  | some ys => match x with
    | .imm es sp lim => match ys with
      | [] => .ok x
      | _ :: _ => if lim ∧ sp = [] then appNew σ ty sz bytes es ys else .bad
    | .ref o ep lo len cap => match σ[o]? with
      | some (some ob) => if ob.es.length = ep ∧ ob.sz = sz ∧ ob.ty = ty then match cap with
          | none => if lo = 0 ∧ ob.frz = false ∧ ob.arr = true then
              .hp ((len + ys.length) * bytes ≤ 140737488355328 ∧ ∀ e, e ∈ ys → okE sz e = true) (.ref o (if len = ep then ep + ys.length else max ep (len + ys.length)) 0 (len + ys.length) none)
                (σ.set o (some { ob with es := appE ob.es len ys }))
            else .bad
          | some k => match ys with
            | [] => .ok x
            | _ :: _ => if k < len + ys.length then appNew σ ty sz bytes ((ob.es.take (lo + len)).drop lo) ys else .bad
        else .bad
      | _ => .bad
    | _ => .bad

def cnviV (k : IntKind) (x : PV) : Ev := match x with
  | .int _ n => .ok (.int k (k.wrap n))
  | _ => .bad
def cnvsV (x : PV) : Ev := match x with
  | .str s => .ok (.str s)
  | _ => .bad
def mmV (mx : Bool) (x y : PV) : Ev := match x, y with
  | .int k a, .int _ b => .ok (.int k (if mx then (if b > a then b else a) else (if b < a then b else a)))
  | _, _ => .bad

def evalOp (st : St) : MOp → Ev
  | .mov x => .ok (st.get x)
  | .pick c a b => pickV (st.get c) (st.get a) (st.get b)
  | .not x => notV (st.get x)
  | .neg x => negV (st.get x)
  | .bin op x y => binV op (st.get x) (st.get y)
  | .seq ne x y => seqV ne (st.get x) (st.get y)
  | .cat x y => catV (st.get x) (st.get y)
  | .beq ne x y => beqV ne (st.get x) (st.get y)
  | .eqa ne ks x y => eqaV ne ks (st.get x) (st.get y)
  | .eqn ne x => eqnV ne (st.get x)
  | .box ty x => boxV st.σ ty (st.get x)
  | .alloc ty z => newV st.σ ty z
  | .build z ps => buildV z (ps.map fun p => (p.1, p.2.1, st.get p.2.2))
  | .bsl ty sz n z ps => bslV st.σ ty sz n z (ps.map fun p => (p.1, st.get p.2))
  | .load ag sz x => loadV st.σ ag sz (st.get x)
  | .store sz x v => storeV st.σ sz (st.get x) (st.get v)
  | .nilc x => nilcV (st.get x)
  | .sls x lo hi => slsV (st.get x) (lo.map st.get) (hi.map st.get)
  | .sl sz x lo hi mx => slV st.σ sz (st.get x) (lo.map st.get) (hi.map st.get) (mx.map st.get)
  | .fadr off x => fadrV off (st.get x)
  | .fld ag off sz x => fldV ag off sz (st.get x)
  | .iadr sz x i => iadrV st.σ sz (st.get x) (st.get i)
  | .idx x i => idxV (st.get x) (st.get i)
  | .ext x n => extV (st.get x) n
  | .mkf f cs => .ok (.fn f (cs.map st.get))
  | .mks ty sz b z l c => mksV st.σ ty sz b z (st.get l) (st.get c)
  | .call f as => .call (st.get f) (as.map st.get)
  | .lens x => lensV (st.get x)
  | .lenl x => lenlV (st.get x)
  | .app ty sz b x y => appV st.σ ty sz b (st.get x) (st.get y)
  | .cnvi k x => cnviV k (st.get x)
  | .mm m x y => mmV m (st.get x) (st.get y)
  | .cnvs x => cnvsV (st.get x)

/-! ### Contracts -/
def G (P : Program) (w : World) : Prop := w.ShapedOpen P ∧ P.low ≤ w.heap.size

/-- A function that is entered when it is called. -/
def Ent (P : Program) (f : FuncId) : Prop := ∃ fn, P.funcs[f]? = some fn ∧ fn.body.isNone = false ∧ (fn.name == "runtime.NumGoroutine") = false
/-- What a call hands back: values of the caller's world, and trees that are all new. -/
inductive RV (w : World) (σ : Heap) (ι : Place) (X : Nat → Prop) : PV → Value → (Nat → Prop) → Prop
  | vr (x : PV) (v : Value) (S : Nat → Prop) (hx : noOwnV x = true) (h : VR w σ ι X x v) (hS : ∀ b, ¬ S b) : RV w σ ι X x v S
  | tr (x : PV) (v : Value) (S : Nat → Prop) (hx : isOwn x = true) (h : TR w (fun b => ¬ Own σ ι b ∧ ¬ X b) x v S) : RV w σ ι X x v S
  | agg (cs : List PV) (vs : List Value) (S : Nat → Prop) (T : Nat → Nat → Prop) (hl : cs.length = vs.length) (hr : ∀ (j : Nat) (x : PV) (v : Value), cs[j]? = some x → vs[j]? = some v → RV w σ ι X x v (T j))
      (hS : ∀ b, S b ↔ ∃ j, j < cs.length ∧ T j b) (hd : ∀ (j j' b : Nat), j < cs.length → j' < cs.length → T j b → T j' b → j = j') : RV w σ ι X (.agg cs) (.agg vs.toArray) S
  | tup (cs : List PV) (vs : List Value) (S : Nat → Prop) (T : Nat → Nat → Prop) (hl : cs.length = vs.length) (hr : ∀ (j : Nat) (x : PV) (v : Value), cs[j]? = some x → vs[j]? = some v → RV w σ ι X x v (T j))
      (hS : ∀ b, S b ↔ ∃ j, j < cs.length ∧ T j b) (hd : ∀ (j j' b : Nat), j < cs.length → j' < cs.length → T j b → T j' b → j = j') : RV w σ ι X (.tup cs) (.tuple vs.toArray) S

/-- A call that works on the objects that it is handed, and hands back trees. -/
def Cs (P : Program) (f : FuncId) (A : List PV) (σ : Heap) (Q : PV → Heap → Prop) : Prop := Ent P f ∧
  ∀ (w : World) (ι : Place) (X : Nat → Prop) (vs : List Value), HR w σ ι X → G P w → (∀ b, X b → b < w.heap.size) → (∀ b, Own σ ι b → P.low ≤ b) → VRs w σ ι X A vs →
    Calls P f vs.toArray w fun e w' => ∃ v ι' y σ' S, Q y σ' ∧ e = .returned v ∧ HR w' σ' ι' (fun b => X b ∨ S b) ∧ RV w' σ' ι' (fun b => X b ∨ S b) y v S ∧ (∀ b, S b → Own σ ι b ∨ w.heap.size ≤ b) ∧
      Kept (Own σ ι) w w' ∧ Evo w σ ι σ' ι'
/-- A call that only reads. -/
def Co (P : Program) (f : FuncId) (A : List PV) (Q : PV → Prop) : Prop := Cs P f A [] fun y σ' => σ' = [] ∧ Q y
/-- .. and tells one value. -/
def Ct (P : Program) (f : FuncId) (A : List PV) (y : PV) : Prop := Co P f A fun y' => y' = y

/-- How the caller takes what it is handed: trees as its own, or to be read only. -/
def took (own : Bool) (σ : Heap) (y : PV) : PV × Heap := if own then unfV σ y else (unown y, σ)

/-- What a call may do to the caller's state. -/
inductive CS (P : Program) (f : FuncId) (A : List PV) (σ : Heap) : (PV → Heap → Prop) → Prop
  | pure (own : Bool) (Q : PV → Prop) (hA : pureL A = true) (h : Co P f A Q) : CS P f A σ fun r σ' => ∃ y, Q y ∧ (r, σ') = took own σ y
  | snap (own : Bool) (Q : PV → Prop) (n : Nat) (A' : List PV) (hA : snapL σ n A = some A') (h : Co P f A' Q) (hc : ∀ y, Q y → closedV y = true) : CS P f A σ fun r σ' => ∃ y, Q y ∧ (r, σ') = took own σ y
  | shared (own : Bool) (Q : PV → Heap → Prop) (h : Cs P f A σ Q) : CS P f A σ fun r σ' => ∃ y σ1, Q y σ1 ∧ (r, σ') = took own σ1 y

def CallP (P : Program) (fv : PV) (A : List PV) (st : St) (k : PV → Heap → Prop) : Prop := match fv with
  | .fn f cs => ∃ gs σ1 Q, gops gs st.σ = some σ1 ∧ CS P f ((A ++ cs).map (frzV σ1)) σ1 Q ∧ ∀ r σ', Q r σ' → k r σ'
  | _ => False

/-! ### Running -/
inductive MExit where
  | normal
  | exit (id : Nat)
  | ret

def gd (st : St) : Option (Nat × Bool) → Option Bool
  | none => some true
  | some (t, b) => match st.τ t with
    | .bool c => some (c == b)
    | .tup _ => some false
    | _ => none

def wops (P : Program) : List MOper → (St → Prop) → St → Prop
  | [], k, st => k st
  | o :: os, k, st => match gd st o.grd with
    | none => False
    | some false => wops P os k (st.putO o.dst (.tup []))
    | some true => match evalOp st o.op with
      | .ok v => wops P os k (st.putO o.dst v)
      | .ob p v => p ∧ wops P os k (st.putO o.dst v)
      | .hp p v σ => p ∧ wops P os k ((st.withσ σ).putO o.dst v)
      | .call f A => CallP P f A st fun r σ => wops P os k ((st.withσ σ).putO o.dst r)
      | .bad => False

def wop1 (P : Program) (o : MOper) (k : St → Prop) (st : St) : Prop := match gd st o.grd with
  | none => False
  | some false => k (st.putO o.dst (.tup []))
  | some true => match evalOp st o.op with
    | .ok v => k (st.putO o.dst v)
    | .ob p v => p ∧ k (st.putO o.dst v)
    | .hp p v σ => p ∧ k ((st.withσ σ).putO o.dst v)
    | .call f A => CallP P f A st fun r σ => k ((st.withσ σ).putO o.dst r)
    | .bad => False

/-- A new object that is but read from now on: what it shows, and no object. -/
def immV (σ : Heap) (v : PV) (σ' : Heap) (iv : PV) : Prop := ∃ ob n, σ' = σ ++ [some ob] ∧ snapV σ' σ.length n v = some iv
def wimm (o : MOper) (k : St → Prop) (st : St) : Prop := gd st o.grd = some true ∧ ∃ p v σ' iv, evalOp st o.op = .hp p v σ' ∧ p ∧ immV st.σ v σ' iv ∧ k (st.putO o.dst iv)
def wop2 (P : Program) (o : MOper) (k : St → Prop) (st : St) : Prop := wop1 P o k st ∨ wimm o k st

/-- The operations that may come next. -/
def rdy (ops : List (MOper × List Nat)) (done : List Bool) : List Nat := (List.range ops.length).filter fun i =>
  !done.getD i true && match ops[i]? with
    | some o => o.2.all fun j => done.getD j false
    | none => false
/-- Every order. -/
def wany (P : Program) (ops : List (MOper × List Nat)) (k : St → Prop) : Nat → List Bool → St → Prop
  | 0, done, st => rdy ops done = [] ∧ k st
  | n + 1, done, st => (rdy ops done = [] → k st) ∧ ∀ i o, i ∈ rdy ops done → ops[i]? = some o → wop2 P o.1 (wany P ops k n (done.set i true)) st

/-- What the proof may do between two rounds: steps of the proof alone, and forgetting. -/
def Gh (st st1 : St) : Prop := st1.base = st.base ∧ ∃ gs σ1, gops gs st.σ = some σ1 ∧ CutTo st.base σ1 st1.σ.length st1.σ ∧ ∀ t, st1.τ t = .undef ∨ (st1.τ t = st.τ t ∧ bdV st1.σ.length (st.τ t) = true)

def awp (P : Program) : MC → (MExit → St → Prop) → St → Prop
  | .skip, Q, st => Q .normal st
  | .reg ops, Q, st => wops P ops (Q .normal) st
  | .dreg ops, Q, st => wany P ops (Q .normal) ops.length (List.replicate ops.length false) st
  | .seq a b, Q, st => awp P a (fun e st => match e with | .normal => awp P b Q st | .exit i => Q (.exit i) st | .ret => Q .ret st) st
  | .cond x a b, Q, st => match st.get x with
    | .bool true => awp P a Q st
    | .bool false => awp P b Q st
    | _ => False
  | .blk id c, Q, st => awp P c (fun e st => match e with | .normal => Q .normal st | .exit i => if i = id then Q .normal st else Q (.exit i) st | .ret => Q .ret st) st
  | .loop c, Q, st => ∃ (I : Nat → St → Prop) (n : Nat), (∃ st1, Gh st st1 ∧ I n st1) ∧ ∀ n st, I n st → awp P c (fun e st' => match e with
    | .normal => ∃ st1 n', Gh st' st1 ∧ n' < n ∧ I n' st1 | .exit i => Q (.exit i) st' | .ret => Q .ret st') st
  | .exit id, Q, st => Q (.exit id) st
  | .ret, Q, st => Q .ret st

/-! ### The translation -/
def constS : Value → Option PV
  | .bool b => some (.bool b)
  | .int k n => some (.int k n)
  | .string s => if s.size ≤ 9223372036854775807 then some (.str s.data.toList) else none
  | .pointer none => some .nilp
  | .slice none 0 0 => some (.imm [] [] true)
  | .nilFunc => some .nilfn
  | .nilIface => some .nilif
  | _ => none
def constV : Value → Option PV
  | .agg cs => (cs.toList.mapM constS).map .agg
  | v => constS v
def trX : Operand → Option MX
  | .tmp t => some (.t t)
  | .const v => (constV v).map .c
  | .func f => some (.c (.fn f []))
  | .global _ => none
def trO : Option Operand → Option (Option MX)
  | none => some none
  | some x => (trX x).map some
def agT (P : Program) (t : TypeId) : Option Bool := (P.underlying t).map fun
  | .struct _ | .array _ _ => true
  | _ => false
def szT (P : Program) (t : TypeId) : Option Nat := (P.info? t).map (·.size)
def zeroT (P : Program) (t : TypeId) : Option (List PV) := do
  let i ← P.info? t
  let z ← i.zero
  let v ← constV z
  pure (cellsOf v)
def eqKs (P : Program) : Nat → List Field → Option (List EK)
  | _, [] => some []
  | i, f :: fs => if f.name = "_" ∨ f.offset ≠ i then none else match P.underlying f.type, eqKs P (i + 1) fs with
    | some .string, some ks => some (.s :: ks)
    | some (.int _), some ks => some (.i :: ks)
    | some .bool, some ks => some (.b :: ks)
    | _, _ => none
def shOp : BinOp → Bool
  | .shl | .shr => true
  | _ => false
def trParts (P : Program) (fs : Array Field) : List (Nat × Operand) → Option (List (Nat × Nat × MX))
  | [] => some []
  | (i, x) :: r => match fs[i]? with
    | none => none
    | some f => match szT P f.type, trX x, trParts P fs r with
      | some sz, some m, some ms => some ((f.offset, sz, m) :: ms)
      | _, _, _ => none
def trBParts : List (Nat × Operand) → Option (List (Nat × MX))
  | [] => some []
  | (i, x) :: r => match trX x, trBParts r with
    | some m, some ms => some ((i, m) :: ms)
    | _, _ => none
def trXs : List Operand → Option (List MX)
  | [] => some []
  | x :: r => match trX x, trXs r with
    | some m, some ms => some (m :: ms)
    | _, _ => none
def trOp (P : Program) (o : Oper) : Option MOp :=
  match o.op with
  | .move x | .assign x => (trX x).map .mov
  | .pick c a b => do pure (.pick (← trX c) (← trX a) (← trX b))
  | .unOp .not _ x => (trX x).map .not
  | .unOp .neg _ x => (trX x).map .neg
  | .binOp op t x y _ => do
    let a ← trX x
    let b ← trX y
    match P.underlying t, op with
    | some (.int _), _ => if shOp op then none else some (.bin op a b)
    | some .string, .eql => some (.seq false a b)
    | some .string, .neq => some (.seq true a b)
    | some .string, .add => some (.cat a b)
    | some .bool, .eql => some (.beq false a b)
    | some .bool, .neq => some (.beq true a b)
    | some (.struct fs), .eql => if !P.stoodInHeld t && !P.eqGuardType P.depth t then (eqKs P 0 fs.toList).map (.eqa false · a b) else none
    | some (.struct fs), .neq => if !P.stoodInHeld t && !P.eqGuardType P.depth t then (eqKs P 0 fs.toList).map (.eqa true · a b) else none
    | some (.interface _), .eql => match y with
      | .const .nilIface => some (.eqn false a)
      | _ => none
    | some (.interface _), .neq => match y with
      | .const .nilIface => some (.eqn true a)
      | _ => none
    | _, _ => none
  | .box t x => (trX x).map (.box t)
  | .alloc t => (zeroT P t).map (.alloc t)
  | .build t ps => match P.underlying t with
    | some (.struct fs) => do
      let z ← zeroT P t
      let parts ← trParts P fs ps.toList
      if fs.toList.all (fun f => (P.info? f.type).isSome) then pure (.build z parts) else none
    | _ => none
  | .buildSlice t n ps => match P.underlying t with
    | some (.slice e) => do
      let z ← zeroT P e
      let sz ← szT P e
      let parts ← trBParts ps.toList
      if n * sz ≤ 16777216 && 0 < sz && z.length == sz then pure (.bsl e sz n z parts) else none
    | _ => none
  | .load t x => do pure (.load (← agT P t) (← szT P t) (← trX x))
  | .store t x v => do pure (.store (← szT P t) (← trX x) (← trX v))
  | .nilCheck x => (trX x).map .nilc
  | .slice t x lo hi mx => do
    let a ← trX x
    let l ← trO lo
    let h ← trO hi
    let m ← trO mx
    match P.underlying t with
    | some .string => if mx.isNone then pure (.sls a l h) else none
    | some (.slice e) => do
      let sz ← szT P e
      if mx.isSome && hi.isNone then none else pure (.sl sz a l h m)
    | _ => none
  | .fieldAddr s x f => match P.underlying s with
    | some (.struct fs) => do
      let fd ← fs[f]?
      let sz ← szT P fd.type
      if sz = 0 then none else pure (.fadr fd.offset (← trX x))
    | _ => none
  | .field s x f => match P.underlying s with
    | some (.struct fs) => do
      let fd ← fs[f]?
      pure (.fld (← agT P fd.type) fd.offset (← szT P fd.type) (← trX x))
    | _ => none
  | .indexAddr t x i => match P.underlying t with
    | some (.slice e) => do
      let sz ← szT P e
      if sz = 0 then none else pure (.iadr sz (← trX x) (← trX i))
    | _ => none
  | .index t x i => match P.underlying t with
    | some .string => do pure (.idx (← trX x) (← trX i))
    | _ => none
  | .extract t ix => (trX t).map (.ext · ix)
  | .makeFunc (.func f) first caps => if first.isEmpty then do pure (.mkf f (← trXs caps.toList)) else none
  | .makeSlice t l c => match P.underlying t with
    | some (.slice e) => do
      let z ← zeroT P e
      let i ← P.info? e
      if z.length = i.size && 0 < i.size && 0 < i.bytes then pure (.mks e i.size i.bytes z (← trX l) (← trX c)) else none
    | _ => none
  | .call c => match c.callee with
    | .value f => do pure (.call (← trX f) (← trXs c.args.toList))
    | .builtin .len => match c.argTypes.toList, c.args.toList with
      | [t], [x] => match P.underlying t with
        | some .string => (trX x).map .lens
        | some (.slice _) => (trX x).map .lenl
        | _ => none
      | _, _ => none
    | .builtin .append => match c.argTypes.toList, c.args.toList with
      | [t, u], [x, y] => match P.underlying t, P.underlying u with
        | some (.slice e), some (.slice _) => do
          let i ← P.info? e
          let z ← i.zero
          if t = u && z.cells.size = i.size && 0 < i.size && 0 < i.bytes then pure (.app e i.size i.bytes (← trX x) (← trX y)) else none
        | _, _ => none
      | _, _ => none
    | .builtin .max => match c.args.toList with
      | [x, y] => do pure (.mm true (← trX x) (← trX y))
      | _ => none
    | .builtin .min => match c.args.toList with
      | [x, y] => do pure (.mm false (← trX x) (← trX y))
      | _ => none
    | _ => none
  | .convert s d x => match P.underlying s, P.underlying d with
    | some (.int _), some (.int k) => (trX x).map (.cnvi k)
    | some .string, some .string => (trX x).map .cnvs
    | _, _ => none
  | _ => none
def trG (ops : Array Oper) (o : Oper) : Option (Option (Nat × Bool)) := match o.guard with
  | none => some none
  | some (j, b) => match (ops[j]?).bind (·.dst) with
    | some d => some (some (d, b))
    | none => none
def trOper (P : Program) (ops : Array Oper) (o : Oper) : Option MOper := do pure ⟨o.dst, ← trOp P o, ← trG ops o⟩
def trC (P : Program) : Code → Option MC
  | .skip => some .skip
  | .region _ ops false => (ops.toList.mapM (trOper P ops)).map .reg
  | .region _ ops true => (ops.toList.mapM fun o => do pure (← trOper P ops o, (o.after.toList.filter (Region.binds .any)).map (fun e : Edge => e.on))).map .dreg
  | .seq a b => do pure (.seq (← trC P a) (← trC P b))
  | .cond x a b => do pure (.cond (← trX x) (← trC P a) (← trC P b))
  | .block id c => (trC P c).map (.blk id)
  | .loop c => (trC P c).map .loop
  | .exit id => some (.exit id)
  | .ret => some .ret
  | _ => none

/-- All temporaries that are written or asked are the function's. -/
def fitO (n : Nat) (o : MOper) : Bool := (match o.dst with | some d => d < n | none => true) && (match o.grd with | some (t, _) => t < n | none => true)
def fitC (n : Nat) : MC → Bool
  | .reg os => os.all (fitO n)
  | .dreg os => os.all fun o => fitO n o.1
  | .seq a b => fitC n a && fitC n b
  | .cond _ a b => fitC n a && fitC n b
  | .blk _ c => fitC n c
  | .loop c => fitC n c
  | _ => true

inductive MR where
  | t (n : Nat)
  | cell (a sz : Nat) (ag : Bool)
structure MF where
  n : Nat
  rs : List MR
  body : MC
def trF (P : Program) (fn : Func) : Option MF := do
  let rs ← fn.results.toList.mapM fun
    | .tmp t => some (.t t)
    | .cell a t => do pure (.cell a (← szT P t) (← agT P t))
  pure ⟨fn.ntmps, rs, ← trC P (← fn.body)⟩

end Go.Mach

/- Running with the rest of the work as data, so that simp can walk. -/
namespace Go.Mach
open Go
set_option linter.unusedVariables false

inductive K where
  | done (Q : MExit → St → Prop)
  | seq (b : MC) (k : K)
  | blk (id : Nat) (k : K)
  | loop (I : Nat → St → Prop) (n : Nat) (k : K)

def Kdo (P : Program) : K → MExit → St → Prop
  | .done Q => Q
  | .seq b k => fun e st => match e with | .normal => awp P b (Kdo P k) st | .exit i => Kdo P k (.exit i) st | .ret => Kdo P k .ret st
  | .blk id k => fun e st => match e with | .normal => Kdo P k .normal st | .exit i => if i = id then Kdo P k .normal st else Kdo P k (.exit i) st | .ret => Kdo P k .ret st
  | .loop I n k => fun e st => match e with | .normal => ∃ st1 n', Gh st st1 ∧ n' < n ∧ I n' st1 | .exit i => Kdo P k (.exit i) st | .ret => Kdo P k .ret st

def Run (P : Program) (c : MC) (k : K) (st : St) : Prop := awp P c (Kdo P k) st
def Ops (P : Program) (os : List MOper) (k : K) (st : St) : Prop := wops P os (Kdo P k .normal) st
def KX (P : Program) (k : K) (e : MExit) (st : St) : Prop := Kdo P k e st
/-- What an operation came to, and what is left to do. -/
def Stp (P : Program) (e : Ev) (d : Option Nat) (os : List MOper) (k : K) (st : St) : Prop := match e with
  | .ok v => Ops P os k (st.putO d v)
  | .ob p v => p ∧ Ops P os k (st.putO d v)
  | .hp p v σ => p ∧ Ops P os k ((st.withσ σ).putO d v)
  | .call f A => CallP P f A st fun r σ => Ops P os k ((st.withσ σ).putO d r)
  | .bad => False
def Grd (P : Program) (g : Option Bool) (d : Option Nat) (op : MOp) (os : List MOper) (k : K) (st : St) : Prop := match g with
  | none => False
  | some false => Ops P os k (st.putO d (.tup []))
  | some true => Stp P (evalOp st op) d os k st
def Cnd (P : Program) (v : PV) (a b : MC) (k : K) (st : St) : Prop := match v with
  | .bool true => Run P a k st
  | .bool false => Run P b k st
  | _ => False

section
variable {P : Program} {k : K} {st : St}
theorem run_seq {a b : MC} : Run P (.seq a b) k st = Run P a (.seq b k) st := rfl
theorem run_skip : Run P .skip k st = KX P k .normal st := rfl
theorem run_reg {os : List MOper} : Run P (.reg os) k st = Ops P os k st := rfl
theorem run_blk {id : Nat} {c : MC} : Run P (.blk id c) k st = Run P c (.blk id k) st := rfl
theorem run_exit {id : Nat} : Run P (.exit id) k st = KX P k (.exit id) st := rfl
theorem run_ret : Run P .ret k st = KX P k .ret st := rfl
theorem run_cond {x : MX} {a b : MC} : Run P (.cond x a b) k st = Cnd P (st.get x) a b k st := rfl
theorem cnd_true {a b : MC} : Cnd P (.bool true) a b k st = Run P a k st := rfl
theorem cnd_false {a b : MC} : Cnd P (.bool false) a b k st = Run P b k st := rfl
theorem cnd_bool {a b : MC} {c : Bool} : Cnd P (.bool c) a b k st = if c = true then Run P a k st else Run P b k st := by cases c <;> rfl
theorem kx_seq_normal {b : MC} : KX P (.seq b k) .normal st = Run P b k st := rfl
theorem kx_seq_exit {b : MC} {i : Nat} : KX P (.seq b k) (.exit i) st = KX P k (.exit i) st := rfl
theorem kx_seq_ret {b : MC} : KX P (.seq b k) .ret st = KX P k .ret st := rfl
theorem kx_loop_exit {I : Nat → St → Prop} {n i : Nat} : KX P (.loop I n k) (.exit i) st = KX P k (.exit i) st := rfl
theorem kx_loop_ret {I : Nat → St → Prop} {n : Nat} : KX P (.loop I n k) .ret st = KX P k .ret st := rfl
/-- A loop: what holds ahead of each round, with a number that each round lowers. -/
theorem run_loop {c : MC} (I : Nat → St → Prop) (n : Nat) (st1 : St) (hg : Gh st st1) (h0 : I n st1) (round : ∀ n st, I n st → Run P c (.loop I n k) st) : Run P (.loop c) k st := ⟨I, n, ⟨st1, hg, h0⟩, fun n st h => round n st h⟩
theorem kx_again {I : Nat → St → Prop} {n : Nat} (n' : Nat) (st1 : St) (hg : Gh st st1) (hn : n' < n) (h : I n' st1) : KX P (.loop I n k) .normal st := ⟨st1, n', hg, hn, h⟩
theorem kx_blk_normal {id : Nat} : KX P (.blk id k) .normal st = KX P k .normal st := rfl
theorem kx_blk_same {id : Nat} : KX P (.blk id k) (.exit id) st = KX P k .normal st := by simp [KX, Kdo]
theorem kx_blk_other {id i : Nat} (h : i ≠ id) : KX P (.blk id k) (.exit i) st = KX P k (.exit i) st := by simp [KX, Kdo, h]
theorem kx_blk_ret {id : Nat} : KX P (.blk id k) .ret st = KX P k .ret st := rfl
theorem kx_done {Q : MExit → St → Prop} {e : MExit} : KX P (.done Q) e st = Q e st := rfl
theorem ops_nil : Ops P [] k st = KX P k .normal st := rfl
theorem ops_cons {d : Option Nat} {op : MOp} {g : Option (Nat × Bool)} {os : List MOper} : Ops P (⟨d, op, g⟩ :: os) k st = Grd P (gd st g) d op os k st := by
  simp only [Ops, Grd, wops]
  cases gd st g with
  | none => rfl
  | some b =>
    cases b with
    | false => rfl
    | true =>
      simp only [Stp]
      cases evalOp st op <;> rfl
theorem ops_plain {d : Option Nat} {op : MOp} {os : List MOper} : Ops P (⟨d, op, none⟩ :: os) k st = Stp P (evalOp st op) d os k st := by rw [ops_cons]; rfl
theorem grd_true {d : Option Nat} {op : MOp} {os : List MOper} : Grd P (some true) d op os k st = Stp P (evalOp st op) d os k st := rfl
theorem grd_false {d : Option Nat} {op : MOp} {os : List MOper} : Grd P (some false) d op os k st = Ops P os k (st.putO d (.tup [])) := rfl
theorem grd_bool {d : Option Nat} {op : MOp} {os : List MOper} {b : Bool} : Grd P (some b) d op os k st = if b = true then Stp P (evalOp st op) d os k st else Ops P os k (st.putO d (.tup [])) := by cases b <;> rfl
theorem stp_ok {v : PV} {d : Option Nat} {os : List MOper} : Stp P (.ok v) d os k st = Ops P os k (st.putO d v) := rfl
theorem stp_ob {p : Prop} {v : PV} {d : Option Nat} {os : List MOper} : Stp P (.ob p v) d os k st = (p ∧ Ops P os k (st.putO d v)) := rfl
theorem stp_hp {p : Prop} {v : PV} {σ : Heap} {d : Option Nat} {os : List MOper} : Stp P (.hp p v σ) d os k st = (p ∧ Ops P os k ((st.withσ σ).putO d v)) := rfl
theorem stp_bad {d : Option Nat} {os : List MOper} : Stp P .bad d os k st = False := rfl
theorem stp_if {c : Prop} [Decidable c] {a b : Ev} {d : Option Nat} {os : List MOper} : Stp P (if c then a else b) d os k st = if c then Stp P a d os k st else Stp P b d os k st := by split <;> rfl
theorem gd_none : gd st none = some true := rfl
end

section reads
variable {τ : Nat → PV} {σ : Heap}
theorem get_t {n : Nat} {st : St} : st.get (.t n) = st.τ n := rfl
theorem get_c {v : PV} {st : St} : st.get (.c v) = v := rfl
theorem putO_some {d : Nat} {v : PV} {st : St} : st.putO (some d) v = st.put d v := rfl
theorem putO_none {v : PV} {st : St} : st.putO none v = st := rfl
theorem put_same {d : Nat} {v : PV} {st : St} : (st.put d v).τ d = v := by simp [St.put]
theorem put_ne {d n : Nat} {v : PV} {st : St} (h : n ≠ d) : (st.put d v).τ n = st.τ n := by simp [St.put, h]
theorem put_σ {d : Nat} {v : PV} {st : St} : (st.put d v).σ = st.σ := rfl
theorem withσ_τ {st : St} {σ : Heap} : (st.withσ σ).τ = st.τ := rfl
theorem withσ_σ {st : St} {σ : Heap} : (st.withσ σ).σ = σ := rfl
theorem withσ_put {d : Nat} {v : PV} {st : St} {σ : Heap} : (st.put d v).withσ σ = (st.withσ σ).put d v := rfl
theorem withσ_withσ {st : St} {σ σ' : Heap} : (st.withσ σ).withσ σ' = st.withσ σ' := rfl
theorem put_base {d : Nat} {v : PV} {st : St} : (st.put d v).base = st.base := rfl
theorem withσ_base {st : St} {σ : Heap} : (st.withσ σ).base = st.base := rfl
theorem mk_τ {β : Heap} : (St.mk τ σ β).τ = τ := rfl
theorem mk_σ {β : Heap} : (St.mk τ σ β).σ = σ := rfl
theorem mk_base {β : Heap} : (St.mk τ σ β).base = β := rfl
theorem mk_withσ {β : Heap} {σ' : Heap} : (St.mk τ σ β).withσ σ' = St.mk τ σ' β := rfl
end reads

/-- The state in which a function begins. -/
def entry (A : List PV) (σ : Heap) : St := ⟨fun t => A.getD t (.tup []), σ, σ⟩
theorem entry_τ {A : List PV} {σ : Heap} {n : Nat} : (entry A σ).τ n = A.getD n (.tup []) := rfl
theorem entry_σ {A : List PV} {σ : Heap} : (entry A σ).σ = σ := rfl
theorem entry_base {A : List PV} {σ : Heap} : (entry A σ).base = σ := rfl

/-- What a function hands back. -/
def resV (st : St) : MR → Option PV
  | .t n => some (st.τ n)
  | .cell a sz ag => match loadV st.σ ag sz (st.τ a) with
    | .ok v => some v
    | _ => none
def resL (st : St) : List MR → Option (List PV)
  | [] => some []
  | r :: rs => match resV st r, resL st rs with
    | some v, some vs => some (v :: vs)
    | _, _ => none
def ret1 : List PV → PV
  | [v] => v
  | vs => .tup vs
/-- A function that only reads ends so: what it hands back is to be read only. -/
def endP (rs : List MR) (Q : PV → Prop) (e : MExit) (st : St) : Prop := match e with
  | .exit _ => False
  | _ => ∃ vs d r, resL st rs = some vs ∧ snapV st.σ 0 d (ret1 vs) = some r ∧ Q r
/-- A function that hands back trees ends so. -/
def endO (rs : List MR) (Q : PV → Prop) (e : MExit) (st : St) : Prop := match e with
  | .exit _ => False
  | _ => ∃ vs gs σ1 r, resL st rs = some vs ∧ gops gs st.σ = some σ1 ∧ takeV 0 σ1 (ret1 vs) = some r ∧ Q r.1
/-- A function that works on its caller's objects `σ0` ends so. -/
def endS (σ0 : Heap) (rs : List MR) (Q : PV → Heap → Prop) (e : MExit) (st : St) : Prop := match e with
  | .exit _ => False
  | _ => ∃ vs gs σ1 r σ', resL st rs = some vs ∧ gops gs st.σ = some σ1 ∧ takeV σ'.length σ1 (ret1 vs) = some r ∧ CutTo σ0 r.2 σ'.length σ' ∧ Q r.1 σ'

end Go.Mach

/- Each operation does in memory what the pure step says. -/
namespace Go.Mach
open Go
set_option linter.unusedVariables false
set_option linter.unusedSimpArgs false

section inv
variable {w : World} {σ : Heap} {ι : Place} {X : Nat → Prop} {v : Value}
theorem VR.of_bool {b : Bool} (h : VR w σ ι X (.bool b) v) : v = .bool b := by
  cases h with | im _ _ h => cases h; rfl
theorem VR.of_int {k : IntKind} {n : Int} (h : VR w σ ι X (.int k n) v) : v = .int k n := by
  cases h with | im _ _ h => cases h; rfl
theorem VR.of_str {s : List UInt8} (h : VR w σ ι X (.str s) v) : v = .string ⟨s.toArray⟩ ∧ s.length ≤ maxLen := by
  cases h with | im _ _ h => cases h with | str _ h => exact ⟨rfl, h⟩
theorem VR.of_nilif (h : VR w σ ι X .nilif v) : v = .nilIface := by
  cases h with | im _ _ h => cases h; rfl
theorem VR.of_someif (h : VR w σ ι X .someif v) : ∃ t u, v = .iface t u := by
  cases h with | im _ _ h => cases h with | someif t u => exact ⟨t, u, rfl⟩
theorem VR.of_agg {cs : List PV} (h : VR w σ ι X (.agg cs) v) : ∃ vs : List Value, v = .agg vs.toArray ∧ VRs w σ ι X cs vs := by
  cases h with
  | im _ _ h => cases h with | agg _ vs hl hr => exact ⟨vs, rfl, hl, fun j x u hx hu => .im _ _ (hr j x u hx hu)⟩
  | agg _ vs hl hr => exact ⟨vs, rfl, hl, hr⟩
theorem VR.of_tup {cs : List PV} (h : VR w σ ι X (.tup cs) v) : ∃ vs : List Value, v = .tuple vs.toArray ∧ VRs w σ ι X cs vs := by
  cases h with
  | im _ _ h => cases h with | tup _ vs hl hr => exact ⟨vs, rfl, hl, fun j x u hx hu => .im _ _ (hr j x u hx hu)⟩
  | tup _ vs hl hr => exact ⟨vs, rfl, hl, hr⟩
theorem VR.of_fn {f : FuncId} {cs : List PV} (h : VR w σ ι X (.fn f cs) v) : ∃ vs : List Value, v = .func (.func f) #[] vs.toArray ∧ VRs w σ ι X cs vs := by
  cases h with
  | im _ _ h => cases h with | fn _ _ vs hl hr => exact ⟨vs, rfl, hl, fun j x u hx hu => .im _ _ (hr j x u hx hu)⟩
  | fn _ _ vs hl hr => exact ⟨vs, rfl, hl, hr⟩
theorem VR.of_iptr {l : List PV} (h : VR w σ ι X (.iptr l) v) : IR w (fun b => ¬ Own σ ι b ∧ ¬ X b) (.iptr l) v := by
  cases h with | im _ _ h => exact h
theorem VR.of_imm {es sp : List (List PV)} {lim : Bool} (h : VR w σ ι X (.imm es sp lim) v) : IR w (fun b => ¬ Own σ ι b ∧ ¬ X b) (.imm es sp lim) v := by
  cases h with | im _ _ h => exact h
theorem VR.of_ptr {o ep i off : Nat} (h : VR w σ ι X (.ptr o ep i off) v) : o < σ.length ∧ (∃ a, v = .pointer (some a)) ∧ ∀ ob, σ[o]? = some (some ob) → ep ≤ ob.es.length ∧ (ob.es.length = ep → i < ep ∧ v = .pointer (some ⟨(ι o).1, i * ob.sz + off, none⟩)) := by
  cases h with
  | im _ _ h => cases h
  | ptr _ _ _ _ _ ho hs h => exact ⟨ho, hs, h⟩
theorem VR.of_ref {o ep lo len : Nat} {cap : Option Nat} (h : VR w σ ι X (.ref o ep lo len cap) v) : o < σ.length ∧ (∃ A c, v = .slice A len c) ∧ ∀ ob, σ[o]? = some (some ob) → ep ≤ ob.es.length ∧ (ob.es.length = ep → lo + len ≤ ep ∧ ∃ A c, v = .slice A len c ∧ (0 < c → A = some ⟨(ι o).1, lo * ob.sz, none⟩) ∧ len ≤ c ∧ lo + c ≤ (ι o).2 ∧
        (cap = none → c = (ι o).2 - lo) ∧ (∀ k, cap = some k → c = k ∧ len ≤ k ∧ lo + k ≤ ep)) := by
  cases h with
  | im _ _ h => cases h
  | ref _ _ _ _ _ _ ho hs h => exact ⟨ho, hs, h⟩
end inv

mutual
theorem pure_ir {w : World} {σ : Heap} {ι : Place} {X : Nat → Prop} : ∀ (x : PV) (v : Value), pureV x = true → VR w σ ι X x v → IR w (fun b => ¬ Own σ ι b ∧ ¬ X b) x v
  | .bool b, v, _, h => by cases h with | im _ _ h => exact h
  | .int k n, v, _, h => by cases h with | im _ _ h => exact h
  | .str s, v, _, h => by cases h with | im _ _ h => exact h
  | .nilp, v, _, h => by cases h with | im _ _ h => exact h
  | .iptr l, v, _, h => h.of_iptr
  | .imm es sp lim, v, _, h => h.of_imm
  | .nilfn, v, _, h => by cases h with | im _ _ h => exact h
  | .nilif, v, _, h => by cases h with | im _ _ h => exact h
  | .someif, v, _, h => by cases h with | im _ _ h => exact h
  | .ptr .., v, hp, _ => by simp [pureV] at hp
  | .ref .., v, hp, _ => by simp [pureV] at hp
  | .own .., v, hp, _ => by simp [pureV] at hp
  | .undef, v, hp, _ => by simp [pureV] at hp
  | .fn f cs, v, hp, h => by
    obtain ⟨vs, rfl, hs⟩ := h.of_fn
    exact .fn f cs vs hs.1 (pure_irs cs vs (by simpa [pureV] using hp) hs)
  | .agg cs, v, hp, h => by
    obtain ⟨vs, rfl, hs⟩ := h.of_agg
    exact .agg cs vs hs.1 (pure_irs cs vs (by simpa [pureV] using hp) hs)
  | .tup cs, v, hp, h => by
    obtain ⟨vs, rfl, hs⟩ := h.of_tup
    exact .tup cs vs hs.1 (pure_irs cs vs (by simpa [pureV] using hp) hs)
theorem pure_irs {w : World} {σ : Heap} {ι : Place} {X : Nat → Prop} : ∀ (xs : List PV) (vs : List Value), pureL xs = true → VRs w σ ι X xs vs →
    ∀ (j : Nat) (x : PV) (v : Value), xs[j]? = some x → vs[j]? = some v → IR w (fun b => ¬ Own σ ι b ∧ ¬ X b) x v
  | [], vs, _, _, j, x, v, hx, _ => by simp at hx
  | y :: ys, [], _, h, j, x, v, hx, hv => by simp at hv
  | y :: ys, u :: us, hp, h, j, x, v, hx, hv => by
    simp [pureL] at hp
    obtain ⟨h1, h2⟩ := h.of_cons
    cases j with
    | zero => simp at hx hv; subst hx; subst hv; exact pure_ir y u hp.1 h1
    | succ j => exact pure_irs ys us hp.2 h2 j x v (by simpa using hx) (by simpa using hv)
end

theorem constS_ir {w : World} {B : Nat → Prop} {v : Value} {x : PV} (h : constS v = some x) : IR w B x v := by
  unfold constS at h
  split at h
  · cases h; exact .bool _
  · cases h; exact .int _ _
  · rename_i s
    split at h
    · rename_i hs
      cases h
      have : (Value.string s) = .string ⟨s.data.toList.toArray⟩ := by cases s; simp
      rw [this]
      refine .str _ ?_
      simp only [maxLen]
      have : s.data.toList.length = s.size := by simp
      omega
    · cases h
  · cases h; exact .nilp
  · cases h
    have := IR.imm (w := w) (B := B) [] [] true none ⟨0, 0, none⟩ 0 0 (fun _ => undef) (by simp) (by simp) (by simp) (by simp) (by simp) (by simp) (by simp) (by simp)
    exact this
  · cases h; exact .nilfn
  · cases h; exact .nilif
  · cases h
theorem constSs_irs {w : World} {B : Nat → Prop} : ∀ (vs : List Value) (xs : List PV), vs.mapM constS = some xs → xs.length = vs.length ∧ ∀ (j : Nat) (x : PV) (v : Value), xs[j]? = some x → vs[j]? = some v → IR w B x v
  | [], xs, h => by simp at h; subst h; simp
  | v :: vs, xs, h => by
    simp only [List.mapM_cons, Option.bind_eq_bind, Option.pure_def] at h
    cases h1 : constS v with
    | none => simp [h1] at h
    | some x =>
      cases h2 : vs.mapM constS with
      | none => simp [h1, h2] at h
      | some ys =>
        simp [h1, h2] at h
        subst h
        obtain ⟨hl, hr⟩ := constSs_irs (w := w) (B := B) vs ys h2
        refine ⟨by simp [hl], fun j y u hy hu => ?_⟩
        cases j with
        | zero => simp at hy hu; subst hy; subst hu; exact constS_ir h1
        | succ j => exact hr j y u (by simpa using hy) (by simpa using hu)
theorem constV_ir {w : World} {B : Nat → Prop} {v : Value} {x : PV} (h : constV v = some x) : IR w B x v := by
  unfold constV at h
  split at h
  · rename_i cs
    cases h2 : cs.toList.mapM constS with
    | none => simp [h2] at h
    | some ys =>
      simp [h2] at h
      subst h
      obtain ⟨hl, hr⟩ := constSs_irs (w := w) (B := B) cs.toList ys h2
      have := IR.agg (w := w) (B := B) ys cs.toList hl hr
      simpa using this
  · exact constS_ir h

/-- The state of a running function, in memory. -/
structure SR (P : Program) (w0 : World) (σ0 : Heap) (ι0 : Place) (X : Nat → Prop) (N : Nat) (st : St) (a : Act) (w : World) (ι : Place) : Prop where
  hr : HR w st.σ ι X
  tm : ∀ t, VR w st.σ ι X (st.τ t) (a.tmps.getD t undef)
  df : a.defers = []
  sz : a.tmps.size = N
  kept : Kept (Own σ0 ι0) w0 w
  evo : Evo w0 σ0 ι0 st.σ ι
  g : G P w
  low : ∀ b, Own st.σ ι b → P.low ≤ b
  xs : ∀ b, X b → b < w.heap.size
  bs : st.base = σ0

section sr
variable {P : Program} {w0 : World} {σ0 : Heap} {ι0 : Place} {X : Nat → Prop} {N : Nat} {st : St} {a : Act} {w : World} {ι : Place}
theorem SR.get (h : SR P w0 σ0 ι0 X N st a w ι) {x : Operand} {mx : MX} (hx : trX x = some mx) : VR w st.σ ι X (st.get mx) (a.eval x) := by
  cases x with
  | tmp t => simp [trX] at hx; subst hx; exact h.tm t
  | const v =>
    simp only [trX, Option.map_eq_some_iff] at hx
    obtain ⟨y, hy, rfl⟩ := hx
    exact .im _ _ (constV_ir hy)
  | func f =>
    simp [trX] at hx; subst hx
    exact .im _ _ (.fn f [] [] rfl (fun j x v h => by simp at h))
  | global g => simp [trX] at hx
theorem SR.gets (h : SR P w0 σ0 ι0 X N st a w ι) : ∀ {xs : List Operand} {ms : List MX}, trXs xs = some ms → VRs w st.σ ι X (ms.map st.get) (xs.map a.eval)
  | [], ms, hx => by simp [trXs] at hx; subst hx; exact VRs.nil
  | x :: xs, ms, hx => by
    simp only [trXs] at hx
    split at hx
    · rename_i m ms' h1 h2
      cases hx
      exact VRs.cons (h.get h1) (h.gets h2)
    · cases hx

theorem G.kept {ow : Nat → Prop} {w w' : World} (h : G P w) (hk : Kept ow w w') (hl : ∀ b, ow b → P.low ≤ b) : G P w' :=
  ⟨h.1.keptBut hk.keptBut (fun p hp => hl p.block hp), Nat.le_trans h.2 hk.size⟩

/-- An operation that comes to a value. -/
def Did (P : Program) (X : Nat → Prop) (s : Sem Next) (w : World) (σ : Heap) (ι : Place) (v : PV) (σ' : Heap) : Prop :=
  ∃ n w' ι' u, s.run P w = .ok n w' ∧ (n = .value u ∨ (n = .skip ∧ u = undef)) ∧ HR w' σ' ι' X ∧ VR w' σ' ι' X v u ∧ Kept (Own σ ι) w w' ∧ Evo w σ ι σ' ι'

theorem SR.put (h : SR P w0 σ0 ι0 X N st a w ι) {w' : World} {σ' : Heap} {ι' : Place} {v : PV} {u : Value} {d : Option Nat} (hd : ∀ t, d = some t → t < N)
    (h1 : HR w' σ' ι' X) (h2 : VR w' σ' ι' X v u) (h3 : Kept (Own st.σ ι) w w') (h4 : Evo w st.σ ι σ' ι') : SR P w0 σ0 ι0 X N ((st.withσ σ').putO d v) (a.put d u) w' ι' := by
  have hσ : ((st.withσ σ').putO d v).σ = σ' := by cases d <;> rfl
  refine ⟨by rw [hσ]; exact h1, ?_, by cases d <;> exact h.df, by cases d <;> simp [Act.put, h.sz], h.kept.trans h3 ?_, ?_, h.g.kept h3 h.low, ?_, fun b hb => Nat.lt_of_lt_of_le (h.xs b hb) h3.size, by cases d <;> exact h.bs⟩
  · intro t
    rw [hσ]
    cases d with
    | none => exact (h.tm t).mono h3 h4
    | some d =>
      have hlt := hd d rfl
      by_cases ht : t = d
      · subst ht
        have : (a.put (some t) u).tmps.getD t undef = u := by
          simp [Act.put, h.sz, hlt]
        rw [this]
        show VR w' σ' ι' X ((st.withσ σ').put t v |>.τ t) u
        rw [put_same]; exact h2
      · have : (a.put (some d) u).tmps.getD t undef = a.tmps.getD t undef := by
          simp [Act.put, Array.getElem?_setIfInBounds_ne (Ne.symm ht)]
        rw [this]
        show VR w' σ' ι' X ((st.withσ σ').put d v |>.τ t) _
        rw [put_ne ht]; exact (h.tm t).mono h3 h4
  · intro b hb
    rcases h.evo.own b hb with h5 | h5
    · exact .inl h5
    · exact .inr h5
  · rw [hσ]; exact h.evo.trans h4 h.kept.size
  · intro b hb
    rw [hσ] at hb
    rcases h4.own b hb with h5 | h5
    · exact h.low b h5
    · exact Nat.le_trans h.g.2 h5
theorem SR.putV (h : SR P w0 σ0 ι0 X N st a w ι) {v : PV} {u : Value} {d : Option Nat} (hd : ∀ t, d = some t → t < N) (h2 : VR w st.σ ι X v u) : SR P w0 σ0 ι0 X N (st.putO d v) (a.put d u) w ι := by
  have := h.put (σ' := st.σ) hd h.hr h2 (Kept.refl fun b _ ho => h.hr.own_cells ho) (Evo.refl _ _ _)
  cases d <;> exact this

/-- A value without a change of memory. -/
theorem Did.val {s : Sem Next} {σ : Heap} {v : PV} {u : Value} (hh : HR w σ ι X) (hr : s.run P w = .ok (.value u) w) (h : VR w σ ι X v u) : Did P X s w σ ι v σ :=
  ⟨.value u, w, ι, u, hr, .inl rfl, hh, h, Kept.refl fun b _ ho => hh.own_cells ho, Evo.refl _ _ _⟩
end sr

end Go.Mach
