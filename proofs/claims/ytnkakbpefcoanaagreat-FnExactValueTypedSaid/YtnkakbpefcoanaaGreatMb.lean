import Derived.Test.YtnkakbpefcoanaaGreatMa
/- Each operation does in memory what the pure step says. -/
namespace Go.Mach
open Go
set_option linter.unusedVariables false
set_option linter.unusedSimpArgs false

def EvOk (P : Program) (X : Nat → Prop) (s : Sem Next) (w : World) (σ : Heap) (ι : Place) (e : Ev) : Prop := match e with
  | .ok v => Did P X s w σ ι v σ
  | .ob p v => p → Did P X s w σ ι v σ
  | .hp p v σ' => p → Did P X s w σ ι v σ'
  | _ => True

section ops
variable {P : Program} {w0 : World} {σ0 : Heap} {ι0 : Place} {X : Nat → Prop} {N : Nat} {st : St} {a : Act} {w : World} {ι : Place}

theorem im_bool (b : Bool) {σ : Heap} : VR w σ ι X (.bool b) (.bool b) := .im _ _ (.bool b)
theorem im_int (k : IntKind) (n : Int) {σ : Heap} : VR w σ ι X (.int k n) (.int k n) := .im _ _ (.int k n)

theorem op_not {u : Value} {x : PV} {s : Sem Next} {σ : Heap} (hh : HR w σ ι X) (hx : VR w σ ι X x u) (hs : s = (do pure (.value (← Op.unary .not u)))) : EvOk P X s w σ ι (notV x) := by
  subst hs
  cases x <;> simp only [notV, EvOk]
  rename_i b
  rw [hx.of_bool]
  exact Did.val hh (by simp [Op.unary]) (im_bool _)
theorem op_neg {u : Value} {x : PV} {s : Sem Next} {σ : Heap} (hh : HR w σ ι X) (hx : VR w σ ι X x u) (hs : s = (do pure (.value (← Op.unary .neg u)))) : EvOk P X s w σ ι (negV x) := by
  subst hs
  cases x <;> simp only [negV, EvOk]
  rw [hx.of_int]
  exact Did.val hh (by simp [Op.unary, Op.intArith]) (im_int _ _)
theorem op_pick {u u1 u2 : Value} {c x y : PV} {s : Sem Next} {σ : Heap} (hh : HR w σ ι X) (hc : VR w σ ι X c u) (hx : VR w σ ι X x u1) (hy : VR w σ ι X y u2)
    (hs : s = (do pure (.value (if ← asBool u then u1 else u2)))) : EvOk P X s w σ ι (pickV c x y) := by
  subst hs
  cases c <;> simp only [pickV, EvOk]
  rename_i b
  rw [hc.of_bool]
  cases b
  · exact Did.val hh (by simp [asBool]) hy
  · exact Did.val hh (by simp [asBool]) hx
theorem op_bin {u1 u2 : Value} {x y : PV} {op : BinOp} {s : Sem Next} {σ : Heap} (t : TypeId) (ox oy : Operand) (hh : HR w σ ι X) (hx : VR w σ ι X x u1) (hy : VR w σ ι X y u2) (hop : op ≠ .shl ∧ op ≠ .shr)
    (hs : s = (do pure (.value (← (do eqGuard op t ox oy u1 u2; binOp op t u1 u2))))) : EvOk P X s w σ ι (binV op x y) := by
  subst hs
  unfold binV
  split
  · rename_i k n k' n'
    rw [hx.of_int, hy.of_int]
    split
    · rename_i hk
      subst hk
      have hg : (eqGuard op t ox oy (.int k n) (.int k n')).run P w = .ok () w := by
        unfold eqGuard
        cases op <;> simp
      cases op <;> simp only [intB, EvOk]
      all_goals first
        | (exact Did.val hh (by simp [hg, binOp, Op.intArith, Op.intCmp]) (im_int _ _))
        | (exact Did.val hh (by simp [hg, binOp, Op.intArith, Op.intCmp]) (im_bool _))
        | (intro hb; exact Did.val hh (by simp [hg, binOp, Op.intDiv, hb]) (im_int _ _))
    · trivial
  · trivial

theorem op_seq {u1 u2 : Value} {x y : PV} {ne : Bool} {s : Sem Next} {σ : Heap} (t : TypeId) (ox oy : Operand) (hh : HR w σ ι X) (hx : VR w σ ι X x u1) (hy : VR w σ ι X y u2)
    (hs : s = (do pure (.value (← (do eqGuard (if ne then .neq else .eql) t ox oy u1 u2; binOp (if ne then .neq else .eql) t u1 u2))))) : EvOk P X s w σ ι (seqV ne x y) := by
  subst hs
  cases x with
  | str a => cases y with
    | str b =>
      rw [hx.of_str.1, hy.of_str.1]
      have hg : ∀ op, (eqGuard op t ox oy (.string ⟨a.toArray⟩) (.string ⟨b.toArray⟩)).run P w = .ok () w := by
        intro op; unfold eqGuard; cases op <;> simp
      cases ne
      · exact Did.val (u := .bool (a == b)) hh (by simp [hg, binOp, Op.stringOp]) (im_bool _)
      · exact Did.val (u := .bool (!(a == b))) hh (by simp [hg, binOp, Op.stringOp]) (im_bool _)
    | _ => exact True.intro
  | _ => exact True.intro
theorem size_mk (a : List UInt8) : (⟨a.toArray⟩ : ByteArray).size = a.length := by simp [ByteArray.size]
theorem op_cat {u1 u2 : Value} {x y : PV} {s : Sem Next} {σ : Heap} (t : TypeId) (ox oy : Operand) (hh : HR w σ ι X) (hx : VR w σ ι X x u1) (hy : VR w σ ι X y u2)
    (hs : s = (do pure (.value (← (do eqGuard .add t ox oy u1 u2; binOp .add t u1 u2))))) : EvOk P X s w σ ι (catV x y) := by
  subst hs
  cases x with
  | str a => cases y with
    | str b =>
      rw [hx.of_str.1, hy.of_str.1]
      have hg : (eqGuard .add t ox oy (.string ⟨a.toArray⟩) (.string ⟨b.toArray⟩)).run P w = .ok () w := by
        unfold eqGuard; simp
      intro hle
      have hr : (binOp .add t (.string ⟨a.toArray⟩) (.string ⟨b.toArray⟩)).run P w = .ok (.string ⟨(a ++ b).toArray⟩) w := by
        unfold binOp Op.stringOp
        simp only [size_mk]
        rw [if_neg (by simp only [maxLen] at hle; have : IntKind.i64.max = 9223372036854775807 := by decide
                       omega)]
        have happ : (⟨a.toArray⟩ : ByteArray) ++ ⟨b.toArray⟩ = ⟨(a ++ b).toArray⟩ := by
          apply ByteArray.ext; simp
        rw [happ]; rfl
      exact Did.val (u := .string ⟨(a ++ b).toArray⟩) hh (by simp [hg, hr]) (.im _ _ (.str _ (by simpa using hle)))
    | _ => exact True.intro
  | _ => exact True.intro
theorem op_beq {u1 u2 : Value} {x y : PV} {ne : Bool} {s : Sem Next} {σ : Heap} (t : TypeId) (ht : P.underlying t = some .bool) (ox oy : Operand) (hh : HR w σ ι X) (hx : VR w σ ι X x u1) (hy : VR w σ ι X y u2)
    (hs : s = (do pure (.value (← (do eqGuard (if ne then .neq else .eql) t ox oy u1 u2; binOp (if ne then .neq else .eql) t u1 u2))))) : EvOk P X s w σ ι (beqV ne x y) := by
  subst hs
  cases x with
  | bool a => cases y with
    | bool b =>
      rw [hx.of_bool, hy.of_bool]
      have hg : ∀ op, (eqGuard op t ox oy (.bool a) (.bool b)).run P w = .ok () w := by
        intro op; unfold eqGuard; cases op <;> simp
      have he := run_equalIn_bool' (P := P) w 9999 t a b ht
      have he' : (Op.equal t (.bool a) (.bool b)).run P w = .ok (a == b) w := he
      cases ne
      · exact Did.val (u := .bool (a == b)) hh (by simp [hg, binOp, he']) (im_bool _)
      · exact Did.val (u := .bool (!(a == b))) hh (by simp [hg, binOp, he']) (im_bool _)
    | _ => exact True.intro
  | _ => exact True.intro
theorem eq_nil1' {t : TypeId} {ms : Array (String × TypeId)} (ht : P.underlying t = some (.interface ms)) (d : Nat) : (Op.equalIn (d + 1) t .nilIface .nilIface).run P w = .ok true w := by
  simp only [Op.equalIn, Sem.run_bind, run_underlying ht, Result.andThen_ok, Sem.run_pure]
theorem eq_nil2' {t t' : TypeId} {v' : Value} {ms : Array (String × TypeId)} (ht : P.underlying t = some (.interface ms)) (d : Nat) : (Op.equalIn (d + 1) t (.iface t' v') .nilIface).run P w = .ok false w := by
  simp only [Op.equalIn, Sem.run_bind, run_underlying ht, Result.andThen_ok, Sem.run_pure]
theorem eq_nil1 {t : TypeId} {ms : Array (String × TypeId)} (ht : P.underlying t = some (.interface ms)) : (Op.equal t .nilIface .nilIface).run P w = .ok true w := eq_nil1' ht 9999
theorem eq_nil2 {t t' : TypeId} {v' : Value} {ms : Array (String × TypeId)} (ht : P.underlying t = some (.interface ms)) : (Op.equal t (.iface t' v') .nilIface).run P w = .ok false w := eq_nil2' ht 9999
theorem op_eqn {u : Value} {x : PV} {ne : Bool} {s : Sem Next} {σ : Heap} (t : TypeId) (ms : Array (String × TypeId)) (ht : P.underlying t = some (.interface ms)) (ox : Operand) (hh : HR w σ ι X) (hx : VR w σ ι X x u)
    (hs : s = (do pure (.value (← (do eqGuard (if ne then .neq else .eql) t ox (.const .nilIface) u .nilIface; binOp (if ne then .neq else .eql) t u .nilIface))))) : EvOk P X s w σ ι (eqnV ne x) := by
  subst hs
  cases x with
  | nilif =>
    rw [hx.of_nilif]
    have hg : ∀ op, (eqGuard op t ox (.const .nilIface) .nilIface .nilIface).run P w = .ok () w := by
      intro op; unfold eqGuard; cases op <;> simp
    have he := eq_nil1 (P := P) (w := w) ht
    cases ne
    · exact Did.val (u := .bool true) hh (by simp [hg, binOp, he]) (im_bool _)
    · exact Did.val (u := .bool false) hh (by simp [hg, binOp, he]) (im_bool _)
  | someif =>
    obtain ⟨t', v', rfl⟩ := hx.of_someif
    have hg : ∀ op, (eqGuard op t ox (.const .nilIface) (.iface t' v') .nilIface).run P w = .ok () w := by
      intro op; unfold eqGuard; cases op <;> simp
    have he := eq_nil2 (P := P) (w := w) (t' := t') (v' := v') ht
    cases ne
    · exact Did.val (u := .bool false) hh (by simp [hg, binOp, he]) (im_bool _)
    · exact Did.val (u := .bool true) hh (by simp [hg, binOp, he]) (im_bool _)
  | _ => exact True.intro
theorem op_nilc {u : Value} {x : PV} {s : Sem Next} {σ : Heap} (hh : HR w σ ι X) (hx : VR w σ ι X x u)
    (hs : ∀ v, u = v → (∃ a, v = .pointer (some a)) ∨ (∃ f cs, v = .func (.func f) #[] cs) → s = pure (.value v)) : EvOk P X s w σ ι (nilcV x) := by
  cases x with
  | ptr o ep i off =>
    obtain ⟨ho, ⟨a, rfl⟩, h1⟩ := hx.of_ptr
    exact Did.val hh (by rw [hs _ rfl (.inl ⟨_, rfl⟩)]; simp) hx
  | iptr l =>
    have h1 := hx.of_iptr
    cases h1 with
    | iptr l a vs h2 h3 h4 => exact Did.val hh (by rw [hs _ rfl (.inl ⟨_, rfl⟩)]; simp) hx
  | fn f cs =>
    obtain ⟨vs, rfl, h1⟩ := hx.of_fn
    exact Did.val hh (by rw [hs _ rfl (.inr ⟨_, _, rfl⟩)]; simp) hx
  | _ => exact True.intro
theorem op_ext {u : Value} {x : PV} {n : Nat} {s : Sem Next} {σ : Heap} (hh : HR w σ ι X) (hx : VR w σ ι X x u) (hs : s = (do pure (.value (← Instr.extract u n)))) : EvOk P X s w σ ι (extV x n) := by
  subst hs
  cases x with
  | tup vs =>
    obtain ⟨us, rfl, h1⟩ := hx.of_tup
    simp only [extV]
    split
    · rename_i v hv
      have hlt : n < us.length := by have := (List.getElem?_eq_some_iff.1 hv).1; rw [h1.1] at this; exact this
      exact Did.val (u := us[n]) hh (by simp [Instr.extract, hlt]) (h1.2 n v _ hv (by simp [hlt]))
    · exact True.intro
  | _ => exact True.intro
theorem op_mkf {f : FuncId} {xs : List PV} {us : List Value} {s : Sem Next} {σ : Heap} (hh : HR w σ ι X) (hx : VRs w σ ι X xs us) (hs : s = (do pure (.value (← Instr.makeFunc (.func f) #[] us.toArray)))) : EvOk P X s w σ ι (.ok (.fn f xs)) := by
  subst hs
  exact Did.val hh (by simp [Instr.makeFunc]) (.fn f xs us hx.1 hx.2)
theorem op_idx {u1 u2 : Value} {x i : PV} {s : Sem Next} {σ : Heap} (t : TypeId) (ht : P.underlying t = some .string) (hh : HR w σ ι X) (hx : VR w σ ι X x u1) (hi : VR w σ ι X i u2)
    (hs : s = (do pure (.value (← Instr.index t u1 u2)))) : EvOk P X s w σ ι (idxV x i) := by
  subst hs
  cases x with
  | str l => cases i with
    | int k n =>
      rw [hx.of_str.1, hi.of_int]
      rintro ⟨h0, h1⟩
      have hlt : n.toNat < l.length := by omega
      have hg : (⟨l.toArray⟩ : ByteArray)[n.toNat]? = some l[n.toNat] := by
        rw [getElem?_pos _ _ (by rw [size_mk]; exact hlt)]; rfl
      have hb : byteAt l n = (l[n.toNat].toNat : Int) := by simp [byteAt, List.getElem?_eq_getElem hlt]
      rw [hb]
      exact Did.val hh (by simp [Instr.index, run_underlying ht, asIntOf, h0, hg]) (im_int _ _)
    | _ => exact True.intro
  | _ => exact True.intro
theorem op_lens {u : Value} {x : PV} {s : Sem Next} {σ : Heap} (t ty : TypeId) (ht : P.underlying t = some .string) (hh : HR w σ ι X) (hx : VR w σ ι X x u)
    (hs : s = (do pure (.value (← Builtin.len_ #[t] ty #[u])))) : EvOk P X s w σ ι (lensV x) := by
  subst hs
  cases x with
  | str l =>
    rw [hx.of_str.1]
    exact Did.val hh (by simp [Builtin.len_, run_underlying ht, goInt, size_mk]) (im_int _ _)
  | _ => exact True.intro
theorem op_lenl {u : Value} {x : PV} {s : Sem Next} {σ : Heap} (t e ty : TypeId) (ht : P.underlying t = some (.slice e)) (hh : HR w σ ι X) (hx : VR w σ ι X x u)
    (hs : s = (do pure (.value (← Builtin.len_ #[t] ty #[u])))) : EvOk P X s w σ ι (lenlV x) := by
  subst hs
  cases x with
  | imm es sp lim =>
    have h1 := hx.of_imm
    cases h1 with
    | imm es sp lim A a c sz vs => exact Did.val hh (by simp [Builtin.len_, run_underlying ht, goInt]) (im_int _ _)
  | ref o ep lo len cap =>
    obtain ⟨ho, ⟨A, c, rfl⟩, h1⟩ := hx.of_ref
    exact Did.val hh (by simp [Builtin.len_, run_underlying ht, goInt]) (im_int _ _)
  | _ => exact True.intro
theorem op_cnvi {u : Value} {x : PV} {k : IntKind} {s : Sem Next} {σ : Heap} (t d : TypeId) (k' : IntKind) (ht : P.underlying t = some (.int k')) (hd : P.underlying d = some (.int k)) (hh : HR w σ ι X) (hx : VR w σ ι X x u)
    (hs : s = (do pure (.value (← convert t d u)))) : EvOk P X s w σ ι (cnviV k x) := by
  subst hs
  cases x with
  | int k0 n =>
    rw [hx.of_int]
    exact Did.val hh (by simp [convert, run_underlying ht, run_underlying hd, Conv.intToInt]) (im_int _ _)
  | _ => exact True.intro
theorem op_mm {u1 u2 : Value} {x y : PV} {mx : Bool} {s : Sem Next} {σ : Heap} (ts : Array TypeId) (ty : TypeId) (hh : HR w σ ι X) (hx : VR w σ ι X x u1) (hy : VR w σ ι X y u2)
    (hs : s = (do pure (.value (← (if mx then Builtin.max_ ts ty #[u1, u2] else Builtin.min_ ts ty #[u1, u2]))))) : EvOk P X s w σ ι (mmV mx x y) := by
  subst hs
  cases x with
  | int k a => cases y with
    | int k' b =>
      rw [hx.of_int, hy.of_int]
      cases mx
      · exact Did.val hh (by simp [Builtin.min_, Builtin.min2]) (im_int _ _)
      · exact Did.val hh (by simp [Builtin.max_, Builtin.max2]) (im_int _ _)
    | _ => exact True.intro
  | _ => exact True.intro
end ops
end Go.Mach

/- Operations that read: slices, fields, elements, loads, comparisons of structs. -/
namespace Go.Mach
open Go
set_option linter.unusedVariables false
set_option linter.unusedSimpArgs false

section lists
variable {w : World} {σ : Heap} {ι : Place} {X : Nat → Prop}
theorem flat_len {sz : Nat} : ∀ {es : List (List PV)}, (∀ e, e ∈ es → e.length = sz) → es.flatten.length = es.length * sz
  | [], _ => by simp
  | e :: es, h => by
    have h1 := h e (by simp)
    have h2 := flat_len (es := es) (sz := sz) fun e' he => h e' (by simp [he])
    simp only [List.flatten_cons, List.length_append, List.length_cons, h1, h2, Nat.add_mul, Nat.one_mul]
    omega
theorem flat_get {sz : Nat} : ∀ {es : List (List PV)}, (∀ e, e ∈ es → e.length = sz) → ∀ {i j : Nat} {e : List PV} {x : PV}, es[i]? = some e → e[j]? = some x → es.flatten[i * sz + j]? = some x
  | [], _, i, j, e, x, h, _ => by simp at h
  | f :: es, hz, i, j, e, x, h, hx => by
    have h1 := hz f (by simp)
    rw [List.flatten_cons]
    cases i with
    | zero =>
      simp at h; subst h
      have : j < f.length := (List.getElem?_eq_some_iff.1 hx).1
      rw [Nat.zero_mul, Nat.zero_add, List.getElem?_append_left this]
      exact hx
    | succ i =>
      have h2 := flat_get (es := es) (sz := sz) (fun e' he => hz e' (by simp [he])) (i := i) (by simpa using h) hx
      rw [List.getElem?_append_right (by rw [h1, Nat.add_mul]; omega), h1]
      have : (i + 1) * sz + j - sz = i * sz + j := by rw [Nat.add_mul]; omega
      rw [this]; exact h2
theorem VRs.append {xs ys : List PV} {us vs : List Value} (h1 : VRs w σ ι X xs us) (h2 : VRs w σ ι X ys vs) : VRs w σ ι X (xs ++ ys) (us ++ vs) := by
  refine ⟨by simp [h1.1, h2.1], fun j x v hx hv => ?_⟩
  by_cases hj : j < xs.length
  · rw [List.getElem?_append_left hj] at hx
    rw [List.getElem?_append_left (by rw [← h1.1]; exact hj)] at hv
    exact h1.2 j x v hx hv
  · rw [List.getElem?_append_right (by omega)] at hx
    rw [List.getElem?_append_right (by rw [← h1.1]; omega), ← h1.1] at hv
    exact h2.2 _ x v hx hv
theorem VRs.take {xs : List PV} {us : List Value} (h : VRs w σ ι X xs us) (n : Nat) : VRs w σ ι X (xs.take n) (us.take n) := by
  refine ⟨by simp [h.1], fun j x v hx hv => ?_⟩
  rw [List.getElem?_take] at hx hv
  split at hx
  · rename_i hj; rw [if_pos hj] at hv; exact h.2 j x v hx hv
  · cases hx
theorem VRs.drop {xs : List PV} {us : List Value} (h : VRs w σ ι X xs us) (n : Nat) : VRs w σ ι X (xs.drop n) (us.drop n) := by
  refine ⟨by simp [h.1], fun j x v hx hv => ?_⟩
  rw [List.getElem?_drop] at hx hv
  exact h.2 _ x v hx hv
theorem VRs.get {xs : List PV} {us : List Value} (h : VRs w σ ι X xs us) {n : Nat} {x : PV} (hx : xs[n]? = some x) : ∃ u, us[n]? = some u ∧ VR w σ ι X x u := by
  have hlt : n < us.length := by rw [← h.1]; exact (List.getElem?_eq_some_iff.1 hx).1
  exact ⟨us[n], List.getElem?_eq_getElem hlt, h.2 n x _ hx (List.getElem?_eq_getElem hlt)⟩
end lists

section ops
variable {P : Program} {X : Nat → Prop} {w : World} {ι : Place} {σ : Heap}

/-- An optional operand. -/
def OptR (w : World) (σ : Heap) (ι : Place) (X : Nat → Prop) (lo : Option PV) (lo' : Option Value) : Prop :=
  (lo = none ∧ lo' = none) ∨ ∃ x u, lo = some x ∧ lo' = some u ∧ VR w σ ι X x u
theorem optI_of {lo : Option PV} {lo' : Option Value} {d l : Int} (h : OptR w σ ι X lo lo') (hl : optI d lo = some l) : (lo = none ∧ lo' = none ∧ l = d) ∨ ∃ k, lo = some (.int k l) ∧ lo' = some (.int k l) := by
  rcases h with ⟨rfl, rfl⟩ | ⟨x, u, rfl, rfl, hx⟩
  · simp [optI] at hl; exact .inl ⟨rfl, rfl, hl.symm⟩
  · cases x <;> simp [optI] at hl
    subst hl
    rw [hx.of_int]
    exact .inr ⟨_, rfl, rfl⟩
theorem run_bounds {isS : Bool} {len cap : Nat} {lo hi mx : Option PV} {lo' hi' mx' : Option Value} {l h m : Int} (h1 : OptR w σ ι X lo lo') (h2 : OptR w σ ι X hi hi') (h3 : OptR w σ ι X mx mx')
    (e1 : optI 0 lo = some l) (e2 : optI len hi = some h) (e3 : mx.isSome = true → optI 0 mx = some m) (hm : mx.isSome = true → hi.isSome = true)
    (b0 : 0 ≤ l) (b1 : l ≤ h) (b2 : mx.isSome = true → h ≤ m ∧ m ≤ cap) (b3 : mx = none → h ≤ cap) :
    (Instr.sliceBounds isS len cap lo' hi' mx').run P w = .ok (l.toNat, h.toNat, if mx.isSome then m.toNat else cap) w := by
  unfold Instr.sliceBounds
  have e : ∀ z : Int, 0 ≤ z → (z.toNat : Int) = z := fun z hz => Int.toNat_of_nonneg hz
  rcases h3 with ⟨rfl, rfl⟩ | ⟨x, u, rfl, rfl, hx⟩
  · have b3' := b3 rfl
    rcases optI_of h1 e1 with ⟨rfl, rfl, rfl⟩ | ⟨k1, rfl, rfl⟩ <;> rcases optI_of h2 e2 with ⟨rfl, rfl, rfl⟩ | ⟨k2, rfl, rfl⟩
    · simp
    · simp [run_sliceBound (P := P) w k2 h cap _ (by omega) (by omega)]
    · simp [run_sliceBound (P := P) w k1 l len _ (by omega) (by omega)]
    · simp [run_sliceBound (P := P) w k2 h cap _ (by omega) (by omega), run_sliceBound (P := P) w k1 l h.toNat _ (by omega) (by rw [e _ (by omega)]; omega)]
  · have b2' := b2 rfl
    rcases optI_of (.inr ⟨x, u, rfl, rfl, hx⟩) (e3 rfl) with ⟨h', _⟩ | ⟨k3, h3, h4⟩
    · cases h'
    · cases h3; cases h4
      rcases optI_of h2 e2 with ⟨rfl, rfl, rfl⟩ | ⟨k2, rfl, rfl⟩
      · simp at hm
      · rcases optI_of h1 e1 with ⟨rfl, rfl, rfl⟩ | ⟨k1, rfl, rfl⟩
        · simp [run_sliceBound (P := P) w k3 m cap _ (by omega) (by omega), run_sliceBound (P := P) w k2 h m.toNat _ (by omega) (by rw [e _ (by omega)]; omega)]
        · simp [run_sliceBound (P := P) w k3 m cap _ (by omega) (by omega), run_sliceBound (P := P) w k2 h m.toNat _ (by omega) (by rw [e _ (by omega)]; omega),
            run_sliceBound (P := P) w k1 l h.toNat _ (by omega) (by rw [e _ (by omega)]; omega)]

theorem op_sls {u : Value} {x : PV} {lo hi : Option PV} {lo' hi' : Option Value} {s : Sem Next} (t : TypeId) (ht : P.underlying t = some .string) (hh : HR w σ ι X) (hx : VR w σ ι X x u)
    (h1 : OptR w σ ι X lo lo') (h2 : OptR w σ ι X hi hi') (hs : s = (do pure (.value (← Instr.sliceAt t u lo' hi' none)))) : EvOk P X s w σ ι (slsV x lo hi) := by
  subst hs
  cases x with
  | str l =>
    simp only [slsV]
    split
    · rename_i a b e1 e2
      rw [hx.of_str.1]
      rintro ⟨b0, b1, b2⟩
      have hb := run_bounds (P := P) (isS := false) (len := l.length) (cap := l.length) h1 h2 (mx := none) (.inl ⟨rfl, rfl⟩) (m := 0) e1 e2 (by simp) (by simp) b0 b1 (by simp) (fun _ => b2)
      have hr : (Instr.sliceAt t (.string ⟨l.toArray⟩) lo' hi' none).run P w = .ok (.string ⟨((l.take b.toNat).drop a.toNat).toArray⟩) w := by
        simp only [Instr.sliceAt, Sem.run_bind, run_underlying ht, Result.andThen_ok, Instr.slice, size_mk, Option.isSome_none, Bool.false_eq_true, if_false, hb, Sem.run_pure]
        congr 2
        apply ByteArray.ext
        apply Array.ext'
        simp [List.drop_take]
      refine Did.val (u := .string ⟨((l.take b.toNat).drop a.toNat).toArray⟩) hh (by simp [hr]) (.im _ _ (.str _ ?_))
      have := hx.of_str.2
      simp; omega
    · exact True.intro
  | _ => exact True.intro

theorem add_add (a : Addr) (m n : Nat) : (a.add m).add n = a.add (m + n) := by
  unfold Addr.add
  by_cases h1 : m = 0
  · subst h1; simp
  · by_cases h2 : n = 0
    · subst h2; simp [h1]
    · have h3 : ¬ (m = 0 ∧ n = 0) := by omega
      simp [h1, h2, h3, Nat.add_assoc]

theorem IR.iptr_drop {B : Nat → Prop} {l : List PV} {a : Addr} (h : IR w B (.iptr l) (.pointer (some a))) (n : Nat) : IR w B (.iptr (l.drop n)) (.pointer (some (a.add n))) := by
  cases h with
  | iptr _ _ vs ho hc hr =>
    refine .iptr _ _ (fun j => vs (n + j)) (fun hl => ?_) (fun j x hx => ?_) (fun j x hx => ?_)
    · rw [add_block]; exact ho (by simp at hl; omega)
    · rw [add_add]; rw [List.getElem?_drop] at hx; exact hc _ x hx
    · rw [List.getElem?_drop] at hx; exact hr _ x hx

theorem op_fadr {u : Value} {x : PV} {off f : Nat} {s : Sem Next} (t : TypeId) (fs : Array Field) (fd : Field) (sz : Nat) (ht : P.underlying t = some (.struct fs)) (hf : fs[f]? = some fd) (ho : fd.offset = off)
    (hsz : szT P fd.type = some sz) (h0 : sz ≠ 0) (hh : HR w σ ι X) (hx : VR w σ ι X x u) (hs : s = (do pure (.value (← Instr.fieldAt t u f)))) : EvOk P X s w σ ι (fadrV off x) := by
  subst hs; subst ho
  simp only [szT, Option.map_eq_some_iff] at hsz
  obtain ⟨i, hi, rfl⟩ := hsz
  have hr : ∀ a, (Instr.fieldAt t (.pointer (some a)) f).run P w = .ok (.pointer (some (a.add fd.offset))) w := by
    intro a
    simp [Instr.fieldAt, run_underlying ht, hf, Instr.sureAddr, fieldPlace, sizeOf, typeInfo, hi, h0]
  cases x with
  | iptr l =>
    have h1 := hx.of_iptr
    cases h1 with
    | iptr _ a vs h2 h3 h4 =>
      exact Did.val (u := .pointer (some (a.add fd.offset))) hh (by simp [hr]) (.im _ _ ((IR.iptr l a vs h2 h3 h4).iptr_drop fd.offset))
  | ptr o ep i' off =>
    obtain ⟨h1, ⟨a, rfl⟩, h2⟩ := hx.of_ptr
    refine Did.val (u := .pointer (some (a.add fd.offset))) hh (by simp [hr]) (.ptr _ _ _ _ _ h1 ⟨_, rfl⟩ fun ob hob => ?_)
    obtain ⟨h3, h4⟩ := h2 ob hob
    refine ⟨h3, fun hep => ?_⟩
    obtain ⟨h5, h6⟩ := h4 hep
    injection h6 with h6; injection h6 with h6
    subst h6
    refine ⟨h5, ?_⟩
    rw [Addr.add_mid]
    simp [Nat.add_assoc]
  | _ => exact True.intro

/-- Cells that lie one after the other are loaded. -/
theorem run_loadT {ag : Bool} {sz : Nat} {t : TypeId} {a : Addr} {vs : List Value} (hag : agT P t = some ag) (hsz : szT P t = some sz) (hl : sz ≤ vs.length) (hp : ag = false → 0 < vs.length) (hc : ∀ (j : Nat) (v : Value), vs[j]? = some v → w.cell? (a.add j) = some v) :
    (loadVar t a).run P w = .ok (if ag then .agg (vs.take sz).toArray else vs.headD undef) w := by
  simp only [szT, Option.map_eq_some_iff] at hsz
  obtain ⟨i, hi, rfl⟩ := hsz
  simp only [agT, Option.map_eq_some_iff] at hag
  obtain ⟨d, hd, hag⟩ := hag
  have hagg : (isAgg t).run P w = .ok ag w := by
    unfold isAgg
    rw [Sem.run_bind, run_underlying hd w]
    cases d <;> simp_all
  cases ag with
  | true =>
    have hlc : (loadCells a i.size).run P w = .ok (vs.take i.size).toArray w := by
      have := run_loadCells_list (P := P) w a (vs.take i.size) (fun j v hv => hc j v (by rw [List.getElem?_take] at hv; split at hv; exact hv; cases hv))
      rwa [List.length_take, Nat.min_eq_left hl] at this
    simp [loadVar, Sem.run_bind, hagg, sizeOf, typeInfo, hi, hlc]
  | false =>
    have h2 : a.add 0 = a := by simp [Addr.add]
    cases vs with
    | nil => simp at hp
    | cons v vs =>
      have h1 := hc 0 v rfl
      rw [h2] at h1
      simp [loadVar, Sem.run_bind, hagg, load, Sem.run, h1]

theorem op_loadC {ag : Bool} {sz : Nat} {t : TypeId} {a : Addr} {l : List PV} {vs : List Value} {s : Sem Next} (hag : agT P t = some ag) (hsz : szT P t = some sz) (hh : HR w σ ι X) (hv : VRs w σ ι X l vs)
    (hc : ∀ (j : Nat) (v : Value), vs[j]? = some v → w.cell? (a.add j) = some v) (hs : s = (do pure (.value (← Instr.loadAt t (.pointer (some a)))))) : EvOk P X s w σ ι (loadC ag sz l) := by
  subst hs
  unfold loadC
  cases ag with
  | true =>
    simp only [if_true]
    split
    · rename_i hle
      have hr := run_loadT hag hsz (by rw [← hv.1]; exact hle) (by simp) hc
      have ht := hv.take sz
      exact Did.val (u := .agg (vs.take sz).toArray) hh (by simp [Instr.loadAt, Instr.sureAddr, hr]) (.agg _ _ ht.1 ht.2)
    · exact True.intro
  | false =>
    simp only [Bool.false_eq_true, if_false]
    cases l with
    | nil => exact True.intro
    | cons x l =>
      have h1 : 0 < vs.length := by rw [← hv.1]; simp
      obtain ⟨v, vs', rfl⟩ : ∃ v vs', vs = v :: vs' := by cases vs with
        | nil => simp at h1
        | cons v vs' => exact ⟨v, vs', rfl⟩
      have h2 : a.add 0 = a := by simp [Addr.add]
      have h3 := hc 0 v rfl
      rw [h2] at h3
      have hagg : (isAgg t).run P w = .ok false w := by
        simp only [agT, Option.map_eq_some_iff] at hag
        obtain ⟨d, hd, hag⟩ := hag
        unfold isAgg
        rw [Sem.run_bind, run_underlying hd w]
        cases d <;> simp_all
      exact Did.val (u := v) hh (by simp [Instr.loadAt, Instr.sureAddr, loadVar, hagg, load, Sem.run, h3]) hv.of_cons.1

/-- The cells of an object's element. -/
theorem HR.cells (hh : HR w σ ι X) {o : Nat} {ob : AObj} (ho : σ[o]? = some (some ob)) {i : Nat} {e : List PV} (he : ob.es[i]? = some e) (off : Nat) :
    ∃ vs : List Value, VRs w σ ι X (e.drop off) vs ∧ ∀ (j : Nat) (v : Value), vs[j]? = some v → w.cell? ((⟨(ι o).1, i * ob.sz + off, none⟩ : Addr).add j) = some v := by
  obtain ⟨cur, h1, h2, h3, h4, h5, h6⟩ := hh.obj o ob ho
  have hez : e.length = ob.sz := h5 e (List.mem_of_getElem? he)
  have hcell : ∀ j, j < e.length → ∃ v : Value, cur[i * ob.sz + j]? = some v ∧ ∀ x, e[j]? = some x → VR w σ ι X x v := by
    intro j hj
    have hx : e[j]? = some e[j] := List.getElem?_eq_getElem hj
    obtain ⟨v, hv, hr⟩ := h6 _ _ (flat_get h5 he hx)
    exact ⟨v, hv, fun x hx' => by rw [hx] at hx'; cases hx'; exact hr.1⟩
  refine ⟨(List.range (e.length - off)).map fun j => cur.getD (i * ob.sz + (off + j)) undef, ⟨by simp, fun j x v hx hv => ?_⟩, fun j v hv => ?_⟩
  · rw [List.getElem?_drop] at hx
    have hj := (List.getElem?_eq_some_iff.1 hx).1
    obtain ⟨u, hu, hr⟩ := hcell (off + j) hj
    simp only [List.getElem?_map, Option.map_eq_some_iff] at hv
    obtain ⟨j', hj', rfl⟩ := hv
    have : j' = j := by rw [List.getElem?_range (by omega)] at hj'; cases hj'; rfl
    subst this
    have : cur.getD (i * ob.sz + (off + j')) undef = u := by simp [Array.getD_eq_getD_getElem?, hu]
    rw [this]
    exact hr x hx
  · simp only [List.getElem?_map, Option.map_eq_some_iff] at hv
    obtain ⟨j', hj', rfl⟩ := hv
    have hlt : j < e.length - off := by
      rcases Nat.lt_or_ge j (e.length - off) with h | h
      · exact h
      · rw [List.getElem?_eq_none (by simp; omega)] at hj'; cases hj'
    have : j' = j := by rw [List.getElem?_range hlt] at hj'; cases hj'; rfl
    subst this
    obtain ⟨u, hu, hr⟩ := hcell (off + j') (by omega)
    rw [Addr.add_mid, cell_of_row w _ _ cur ob.ty (0, 0) h1, Nat.add_assoc, hu]
    simp [Array.getD_eq_getD_getElem?, hu]

theorem op_iload {ag : Bool} {sz : Nat} {t : TypeId} {u : Value} {l : List PV} {s : Sem Next} (hag : agT P t = some ag) (hsz : szT P t = some sz) (hh : HR w σ ι X) (hx : VR w σ ι X (.iptr l) u)
    (hs : s = (do pure (.value (← Instr.loadAt t u)))) : EvOk P X s w σ ι (loadC ag sz l) := by
  subst hs
  have h1 := hx.of_iptr
  cases h1 with
  | iptr _ a vs h2 h3 h4 =>
    refine op_loadC (a := a) (l := l) (vs := (List.range l.length).map vs) hag hsz hh ⟨by simp, fun j x v hx hv => ?_⟩ (fun j v hv => ?_) rfl
    · have hj := (List.getElem?_eq_some_iff.1 hx).1
      simp [List.getElem?_range hj] at hv
      subst hv
      exact .im _ _ (h4 j x hx)
    · simp only [List.getElem?_map, Option.map_eq_some_iff] at hv
      obtain ⟨j', hj', rfl⟩ := hv
      have hlt : j < l.length := by
        rcases Nat.lt_or_ge j l.length with h | h
        · exact h
        · rw [List.getElem?_eq_none (by simpa using h)] at hj'; cases hj'
      have : j' = j := by rw [List.getElem?_range hlt] at hj'; cases hj'; rfl
      subst this
      exact h3 j' _ (List.getElem?_eq_getElem hlt)

theorem op_plain {ag : Bool} {sz : Nat} {t : TypeId} {u : Value} {o ep i off : Nat} {s : Sem Next} (hag : agT P t = some ag) (hsz : szT P t = some sz) (hh : HR w σ ι X) (hx : VR w σ ι X (.ptr o ep i off) u)
    (hs : s = (do pure (.value (← Instr.loadAt t u)))) : EvOk P X s w σ ι (plainV σ ag sz o ep i off) := by
  subst hs
  obtain ⟨h1, _, h2⟩ := hx.of_ptr
  unfold plainV
  split
  · rename_i ob hob
    split
    · rename_i hep
      split
      · rename_i e he
        obtain ⟨_, h4⟩ := h2 ob hob
        obtain ⟨_, rfl⟩ := h4 hep
        obtain ⟨vs, h5, h6⟩ := hh.cells hob he off
        exact op_loadC hag hsz hh h5 h6 rfl
      · exact True.intro
    · exact True.intro
  · exact True.intro

theorem op_fld {ag : Bool} {off sz f : Nat} {u : Value} {x : PV} {s : Sem Next} (t : TypeId) (fs : Array Field) (fd : Field) (ht : P.underlying t = some (.struct fs)) (hf : fs[f]? = some fd) (ho : fd.offset = off)
    (hag : agT P fd.type = some ag) (hsz : szT P fd.type = some sz) (hh : HR w σ ι X) (hx : VR w σ ι X x u) (hs : s = (do pure (.value (← Instr.field t u f)))) : EvOk P X s w σ ι (fldV ag off sz x) := by
  subst hs; subst ho
  simp only [szT, Option.map_eq_some_iff] at hsz
  obtain ⟨i, hi, rfl⟩ := hsz
  have hagg : (isAgg fd.type).run P w = .ok ag w := by
    simp only [agT, Option.map_eq_some_iff] at hag
    obtain ⟨d, hd, hag⟩ := hag
    unfold isAgg
    rw [Sem.run_bind, run_underlying hd w]
    cases d <;> simp_all
  cases x with
  | agg cs =>
    obtain ⟨us, rfl, h1⟩ := hx.of_agg
    simp only [fldV]
    cases ag with
    | true =>
      simp only [if_true]
      split
      · have ht2 := (h1.drop fd.offset).take i.size
        refine Did.val (u := .agg ((us.drop fd.offset).take i.size).toArray) hh ?_ (.agg _ _ ht2.1 ht2.2)
        simp [Instr.field, run_underlying ht, hf, asAgg, part, hagg, sizeOf, typeInfo, hi]
      · exact True.intro
    | false =>
      simp only [Bool.false_eq_true, if_false]
      split
      · rename_i v hv
        obtain ⟨u, hu, hr⟩ := h1.get hv
        have hlt := (List.getElem?_eq_some_iff.1 hu).1
        have he : us[fd.offset] = u := (List.getElem?_eq_some_iff.1 hu).2
        exact Did.val (u := u) hh (by simp [Instr.field, run_underlying ht, hf, asAgg, part, hagg, hlt, he]) hr
      · exact True.intro
  | _ => exact True.intro
end ops
end Go.Mach

/- How the heap of objects goes on: a new one, a written one, one that moves, one that is written no more. -/
namespace Go.Mach
open Go
set_option linter.unusedVariables false
set_option linter.unusedSimpArgs false

theorem set_get {σ : Heap} {o : Nat} {x : Option AObj} {o' : Nat} : (σ.set o x)[o']? = if o = o' then (if o' < σ.length then some x else none) else σ[o']? := by
  rw [List.getElem?_set]
  split
  · rename_i h; subst h; rfl
  · rfl
theorem obj_lt {σ : Heap} {o : Nat} {x : Option AObj} (h : σ[o]? = some x) : o < σ.length := (List.getElem?_eq_some_iff.1 h).1

section
variable {X : Nat → Prop} {w w' : World} {ι : Place} {σ : Heap}

def putP (ι : Place) (o : Nat) (p : Nat × Nat) : Place := ⟨fun o' => if o' = o then p else ι o', ι.ft⟩

theorem VRs.noOwn {xs : List PV} {us : List Value} (h : ∀ x, x ∈ xs → cellV x = true) : ∀ x, x ∈ xs → isOwn x = false := fun x hx => by
  have := h x hx
  cases x <;> simp_all [cellV, isOwn]

/-- A cell goes on. -/
theorem CR.go {σ' : Heap} {ι' : Place} {o j : Nat} {x : PV} {v : Value} (hr : CR w σ ι X o j x v) (hk : Kept (Own σ ι) w w') (he : Evo w σ ι σ' ι') (hf : isOwn x = true → ι'.ft o j = ι.ft o j)
    (hS : isOwn x = true → ∀ b, ι.ft o j b → w'.heap[b]? = w.heap[b]?) : CR w' σ' ι' X o j x v := by
  refine ⟨hr.1.mono hk he, fun hx => ?_⟩
  rw [hf hx]
  refine (hr.2 hx).mono (fun b hb hn => ⟨⟨fun ho => ?_, hn.2⟩, hk.block b hb hn.1⟩) (hS hx)
  rcases he.own b ho with h1 | h1
  · exact hn.1 h1
  · omega

theorem HR.lt (hh : HR w σ ι X) {o : Nat} {ob : AObj} (ho : σ[o]? = some (some ob)) : (ι o).1 < w.heap.size := by
  obtain ⟨c, hc, _⟩ := hh.obj o ob ho
  exact (Array.getElem?_eq_some_iff.1 hc).1
theorem HR.tb_lt (hh : HR w σ ι X) {o j b : Nat} (h : Tb σ ι o j b) : b < w.heap.size := by
  obtain ⟨c, t, fr, h⟩ := hh.own_cells (.inr ⟨o, j, h⟩)
  exact (Array.getElem?_eq_some_iff.1 h).1
theorem HR.own_lt (hh : HR w σ ι X) {b : Nat} (h : Own σ ι b) : b < w.heap.size := by
  obtain ⟨c, t, fr, h⟩ := hh.own_cells h
  exact (Array.getElem?_eq_some_iff.1 h).1

/-- A new object. -/
theorem HR.push (hh : HR w σ ι X) (hX : ∀ b, X b → b < w.heap.size) (cur : Array Value) (ob : AObj) (n : Nat) (h1 : cur.size = n * ob.sz) (h2 : ob.es.length ≤ n) (h3 : n ≤ maxLen)
    (h4 : ∀ e, e ∈ ob.es → e.length = ob.sz) (h5 : ∀ (j : Nat) (x : PV), ob.es.flatten[j]? = some x → ∃ v : Value, cur[j]? = some v ∧ VR w σ ι X x v) (hno : ∀ x, x ∈ ob.es.flatten → isOwn x = false)
    (hw : w'.heap = w.heap.push (.cells cur ob.ty (0, 0))) (hos : w'.os = w.os) (htp : w'.tape = w.tape) (hou : w'.output = w.output) :
    HR w' (σ ++ [some ob]) (putP ι σ.length (w.heap.size, n)) X ∧ Kept (Own σ ι) w w' ∧ Evo w σ ι (σ ++ [some ob]) (putP ι σ.length (w.heap.size, n)) := by
  have hold : ∀ b, b < w.heap.size → w'.heap[b]? = w.heap[b]? := fun b hb => by rw [hw, Array.getElem?_push, if_neg (by omega)]
  have hnew : w'.heap[w.heap.size]? = some (.cells cur ob.ty (0, 0)) := by rw [hw, Array.getElem?_push, if_pos rfl]
  have hk : Kept (Own σ ι) w w' := ⟨hos, htp, hou, by rw [hw]; simp, fun b hb _ => hold b hb, fun b c t fr hb => ⟨c, by rw [hold b (Array.getElem?_eq_some_iff.1 hb).1]; exact hb, rfl⟩, fun b _ ho => hh.own_cells ho⟩
  have hget : ∀ (o : Nat) (ob' : AObj), (σ ++ [some ob])[o]? = some (some ob') → (o < σ.length ∧ σ[o]? = some (some ob')) ∨ (o = σ.length ∧ ob' = ob) := by
    intro o ob' h
    rw [List.getElem?_append] at h
    split at h
    · rename_i hlt; exact .inl ⟨hlt, h⟩
    · rename_i hge
      have : o - σ.length = 0 := by
        rcases Nat.eq_zero_or_pos (o - σ.length) with h0 | h0
        · exact h0
        · rw [List.getElem?_eq_none (by simp; omega)] at h; cases h
      rw [this] at h
      simp at h
      exact .inr ⟨by omega, h.symm⟩
  have pn : putP ι σ.length (w.heap.size, n) σ.length = (w.heap.size, n) := by simp [putP]
  have po : ∀ o, o < σ.length → putP ι σ.length (w.heap.size, n) o = ι o := fun o ho => by simp [putP]; omega
  have htb : ∀ o j b, Tb (σ ++ [some ob]) (putP ι σ.length (w.heap.size, n)) o j b → Tb σ ι o j b := by
    rintro o j b ⟨ob', x, h, hx, hox, hft⟩
    rcases hget o ob' h with ⟨_, h'⟩ | ⟨rfl, rfl⟩
    · exact ⟨ob', x, h', hx, hox, hft⟩
    · rw [hno x (List.mem_of_getElem? hx)] at hox; cases hox
  have he : Evo w σ ι (σ ++ [some ob]) (putP ι σ.length (w.heap.size, n)) := by
    refine ⟨by simp, fun o ho ob' h => ?_, fun b hb => ?_⟩
    · rcases hget o ob' h with ⟨_, h'⟩ | ⟨h', _⟩
      · exact ⟨ob', h', rfl, rfl, Nat.le_refl _, fun _ => po o ho, fun h => h⟩
      · omega
    · rcases hb with ⟨o, ob', h, hf, rfl⟩ | ⟨o, j, h⟩
      · rcases hget o ob' h with ⟨h1', h'⟩ | ⟨rfl, rfl⟩
        · exact .inl (.inl ⟨o, ob', h', hf, by rw [po o h1']⟩)
        · exact .inr (by rw [pn]; exact Nat.le_refl _)
      · exact .inl (.inr ⟨o, j, htb o j b h⟩)
  refine ⟨⟨fun o ob' h => ?_, fun o o' a b ha hb hf heq => ?_, fun o ob' h hx => ?_, fun o ob' h hf x hx => ?_, fun o o' j j' b h h' => hh.tin o o' j j' b (htb _ _ _ h) (htb _ _ _ h'), fun o j b h o' ob' ho' => ?_, fun o j b h => hh.tx o j b (htb _ _ _ h)⟩, hk, he⟩
  · rcases hget o ob' h with ⟨h1', h'⟩ | ⟨rfl, rfl⟩
    · obtain ⟨c, c1, c2, c3, c4, c5, c6⟩ := hh.obj o ob' h'
      rw [po o h1']
      exact ⟨c, by rw [hold _ (hh.lt h')]; exact c1, c2, c3, c4, c5, fun j x hx => by
        obtain ⟨v, hv, hr⟩ := c6 j x hx
        exact ⟨v, hv, hr.go hk he (fun _ => rfl) fun hox b hb => hold b (hh.tb_lt ⟨ob', x, h', hx, hox, hb⟩)⟩⟩
    · rw [pn]
      exact ⟨cur, hnew, h1, h2, h3, h4, fun j x hx => by
        obtain ⟨v, hv, hr⟩ := h5 j x hx
        exact ⟨v, hv, hr.mono hk he, fun hox => by rw [hno x (List.mem_of_getElem? hx)] at hox; cases hox⟩⟩
  · rcases hget o a ha with ⟨h1', h'⟩ | ⟨rfl, rfl⟩ <;> rcases hget o' b hb with ⟨h2', h''⟩ | ⟨rfl, rfl⟩
    · rw [po o h1', po o' h2'] at heq; exact hh.inj o o' a b h' h'' hf heq
    · rw [po o h1', pn] at heq; have := hh.lt h'; simp only at heq; omega
    · rw [po o' h2', pn] at heq; have := hh.lt h''; simp only at heq; omega
    · rfl
  · rcases hget o ob' h with ⟨h1', h'⟩ | ⟨rfl, rfl⟩
    · rw [po o h1'] at hx; exact hh.out o ob' h' hx
    · rw [pn] at hx; have := hX _ hx; simp only at this; omega
  · rcases hget o ob' h with ⟨h1', h'⟩ | ⟨rfl, rfl⟩
    · exact hh.fro o ob' h' hf x hx
    · exact hno x hx
  · rcases hget o' ob' ho' with ⟨h1', h'⟩ | ⟨rfl, rfl⟩
    · rw [po o' h1']; exact hh.tob o j b (htb _ _ _ h) o' ob' h'
    · rw [pn]; have := hh.tb_lt (htb _ _ _ h); simp only; omega

/-- An object whose block is written, in place. -/
theorem HR.write (hh : HR w σ ι X) {o : Nat} {ob ob' : AObj} (ho : σ[o]? = some (some ob)) (hf : ob.frz = false) {cur cur' : Array Value} (hc : w.heap[(ι o).1]? = some (.cells cur ob.ty (0, 0)))
    (hcs : cur'.size = cur.size) (hsz : ob'.sz = ob.sz) (hty : ob'.ty = ob.ty) (hfz : ob'.frz = ob.frz) (hle : ob.es.length ≤ ob'.es.length) (hfit : ob'.es.length ≤ (ι o).2)
    (h4 : ∀ e, e ∈ ob'.es → e.length = ob'.sz) (h5 : ∀ (j : Nat) (x : PV), ob'.es.flatten[j]? = some x → ∃ v : Value, cur'[j]? = some v ∧ VR w σ ι X x v)
    (h6 : ∀ (j : Nat) (x : PV), ob'.es.flatten[j]? = some x → isOwn x = true → ob.es.flatten[j]? = some x ∧ cur'[j]? = cur[j]?) :
    HR (w.setRow (ι o).1 cur') (σ.set o (some ob')) ι X ∧ Kept (Own σ ι) w (w.setRow (ι o).1 cur') ∧ Evo w σ ι (σ.set o (some ob')) ι := by
  have hnew : (w.setRow (ι o).1 cur').heap[(ι o).1]? = some (.cells cur' ob.ty (0, 0)) := setRow_heap w _ cur cur' ob.ty (0, 0) hc
  have hoth : ∀ b, b ≠ (ι o).1 → (w.setRow (ι o).1 cur').heap[b]? = w.heap[b]? := fun b hb => setRow_other w _ b cur' hb
  have hown : Own σ ι (ι o).1 := .inl ⟨o, ob, ho, hf, rfl⟩
  have hk : Kept (Own σ ι) w (w.setRow (ι o).1 cur') := by
    refine ⟨rfl, rfl, rfl, by simp, fun b hb hn => hoth b (fun e => hn (e ▸ hown)), fun b c t fr hb => ?_, fun b _ h => hh.own_cells h⟩
    by_cases e : b = (ι o).1
    · subst e; rw [hc] at hb; cases hb; exact ⟨cur', hnew, hcs⟩
    · exact ⟨c, by rw [hoth b e]; exact hb, rfl⟩
  have hget : ∀ (p : Nat) (q : AObj), (σ.set o (some ob'))[p]? = some (some q) → (p = o ∧ q = ob') ∨ (p ≠ o ∧ σ[p]? = some (some q)) := by
    intro p q h
    rw [set_get] at h
    split at h
    · rename_i e
      subst e
      rw [if_pos (obj_lt ho)] at h
      cases h; exact .inl ⟨rfl, rfl⟩
    · rename_i e; exact .inr ⟨fun e' => e e'.symm, h⟩
  have htb : ∀ p j b, Tb (σ.set o (some ob')) ι p j b → Tb σ ι p j b := by
    rintro p j b ⟨q, x, h, hx, hox, hft⟩
    rcases hget p q h with ⟨rfl, rfl⟩ | ⟨_, h'⟩
    · exact ⟨ob, x, ho, (h6 j x hx hox).1, hox, hft⟩
    · exact ⟨q, x, h', hx, hox, hft⟩
  have he : Evo w σ ι (σ.set o (some ob')) ι := by
    refine ⟨by simp, fun p hp q h => ?_, fun b hb => ?_⟩
    · rcases hget p q h with ⟨rfl, rfl⟩ | ⟨_, h'⟩
      · exact ⟨ob, ho, hsz, hty, hle, fun _ => rfl, fun _ => hf⟩
      · exact ⟨q, h', rfl, rfl, Nat.le_refl _, fun _ => rfl, fun h => h⟩
    · rcases hb with ⟨p, q, h, hq, rfl⟩ | ⟨p, j, h⟩
      · rcases hget p q h with ⟨rfl, rfl⟩ | ⟨_, h'⟩
        · exact .inl hown
        · exact .inl (.inl ⟨p, q, h', hq, rfl⟩)
      · exact .inl (.inr ⟨p, j, htb _ _ _ h⟩)
  obtain ⟨c, c1, c2, c3, c4, c5, c6⟩ := hh.obj o ob ho
  rw [hc] at c1
  have hcc : cur = c := by injection c1 with c1; injection c1
  subst hcc
  have hkeep : ∀ p j b, Tb σ ι p j b → (w.setRow (ι o).1 cur').heap[b]? = w.heap[b]? := fun p j b h => hoth b fun e => hh.tob p j b h o ob ho e.symm
  refine ⟨⟨fun p q h => ?_, fun p p' q q' hq hq' hqf heq => ?_, fun p q h => ?_, fun p q h hqf => ?_, fun p p' j j' b h h' => hh.tin p p' j j' b (htb _ _ _ h) (htb _ _ _ h'), fun p j b h p' q hq => ?_, fun p j b h => hh.tx p j b (htb _ _ _ h)⟩, hk, he⟩
  · rcases hget p q h with ⟨rfl, rfl⟩ | ⟨hne, h'⟩
    · exact ⟨cur', by rw [hty]; exact hnew, by rw [hcs, c2, hsz], hfit, c4, h4, fun j x hx => by
        obtain ⟨v, hv, hr⟩ := h5 j x hx
        refine ⟨v, hv, hr.mono hk he, fun hox => ?_⟩
        obtain ⟨g1, g2⟩ := h6 j x hx hox
        obtain ⟨v', hv', hr'⟩ := c6 j x g1
        rw [g2, hv'] at hv; cases hv
        exact (hr'.go hk he (fun _ => rfl) fun hox b hb => hkeep p j b ⟨ob, x, ho, g1, hox, hb⟩).2 hox⟩
    · obtain ⟨d, d1, d2, d3, d4, d5, d6⟩ := hh.obj p q h'
      have hb : (ι p).1 ≠ (ι o).1 := fun e => hne (hh.inj o p ob q ho h' hf e.symm).symm
      exact ⟨d, by rw [hoth _ hb]; exact d1, d2, d3, d4, d5, fun j x hx => by
        obtain ⟨v, hv, hr⟩ := d6 j x hx
        exact ⟨v, hv, hr.go hk he (fun _ => rfl) fun hox b hb => hkeep p j b ⟨q, x, h', hx, hox, hb⟩⟩⟩
  · rcases hget p q hq with ⟨rfl, rfl⟩ | ⟨hne, h'⟩ <;> rcases hget p' q' hq' with ⟨rfl, rfl⟩ | ⟨hne', h''⟩
    · rfl
    · exact hh.inj _ _ ob q' ho h'' hf heq
    · exact hh.inj _ _ q ob h' ho hqf heq
    · exact hh.inj _ _ q q' h' h'' hqf heq
  · rcases hget p q h with ⟨rfl, rfl⟩ | ⟨hne, h'⟩
    · exact hh.out _ _ ho
    · exact hh.out _ _ h'
  · rcases hget p q h with ⟨rfl, rfl⟩ | ⟨hne, h'⟩
    · rw [hfz, hf] at hqf; cases hqf
    · exact hh.fro _ _ h' hqf
  · rcases hget p' q hq with ⟨rfl, rfl⟩ | ⟨hne, h'⟩
    · exact hh.tob _ _ _ (htb _ _ _ h) _ _ ho
    · exact hh.tob _ _ _ (htb _ _ _ h) _ _ h'

/-- An object that moves to a new block. -/
theorem HR.move (hh : HR w σ ι X) (hX : ∀ b, X b → b < w.heap.size) {o : Nat} {ob ob' : AObj} (ho : σ[o]? = some (some ob)) (hf : ob.frz = false) {cur : Array Value} (hc : w.heap[(ι o).1]? = some (.cells cur ob.ty (0, 0))) (cur' : Array Value) (n : Nat)
    (hcs : cur'.size = n * ob'.sz) (hsz : ob'.sz = ob.sz) (hty : ob'.ty = ob.ty) (hfz : ob'.frz = ob.frz) (hle : ob.es.length < ob'.es.length) (hfit : ob'.es.length ≤ n) (hm : n ≤ maxLen)
    (h4 : ∀ e, e ∈ ob'.es → e.length = ob'.sz) (h5 : ∀ (j : Nat) (x : PV), ob'.es.flatten[j]? = some x → ∃ v : Value, cur'[j]? = some v ∧ VR w σ ι X x v)
    (h6 : ∀ (j : Nat) (x : PV), ob'.es.flatten[j]? = some x → isOwn x = true → ob.es.flatten[j]? = some x ∧ cur'[j]? = cur[j]?)
    (hw : w'.heap = w.heap.push (.cells cur' ob'.ty (0, 0))) (hos : w'.os = w.os) (htp : w'.tape = w.tape) (hou : w'.output = w.output) :
    HR w' (σ.set o (some ob')) (putP ι o (w.heap.size, n)) X ∧ Kept (Own σ ι) w w' ∧ Evo w σ ι (σ.set o (some ob')) (putP ι o (w.heap.size, n)) := by
  have hold : ∀ b, b < w.heap.size → w'.heap[b]? = w.heap[b]? := fun b hb => by rw [hw, Array.getElem?_push, if_neg (by omega)]
  have hnew : w'.heap[w.heap.size]? = some (.cells cur' ob'.ty (0, 0)) := by rw [hw, Array.getElem?_push, if_pos rfl]
  have hk : Kept (Own σ ι) w w' := ⟨hos, htp, hou, by rw [hw]; simp, fun b hb _ => hold b hb, fun b c t fr hb => ⟨c, by rw [hold b (Array.getElem?_eq_some_iff.1 hb).1]; exact hb, rfl⟩, fun b _ ho => hh.own_cells ho⟩
  have hget : ∀ (p : Nat) (q : AObj), (σ.set o (some ob'))[p]? = some (some q) → (p = o ∧ q = ob') ∨ (p ≠ o ∧ σ[p]? = some (some q)) := by
    intro p q h
    rw [set_get] at h
    split at h
    · rename_i e
      subst e
      rw [if_pos (obj_lt ho)] at h
      cases h; exact .inl ⟨rfl, rfl⟩
    · rename_i e; exact .inr ⟨fun e' => e e'.symm, h⟩
  have pn : putP ι o (w.heap.size, n) o = (w.heap.size, n) := by simp [putP]
  have po : ∀ p, p ≠ o → putP ι o (w.heap.size, n) p = ι p := fun p hp => by simp [putP, hp]
  have htb : ∀ p j b, Tb (σ.set o (some ob')) (putP ι o (w.heap.size, n)) p j b → Tb σ ι p j b := by
    rintro p j b ⟨q, x, h, hx, hox, hft⟩
    rcases hget p q h with ⟨rfl, rfl⟩ | ⟨_, h'⟩
    · exact ⟨ob, x, ho, (h6 j x hx hox).1, hox, hft⟩
    · exact ⟨q, x, h', hx, hox, hft⟩
  have he : Evo w σ ι (σ.set o (some ob')) (putP ι o (w.heap.size, n)) := by
    refine ⟨by simp, fun p hp q h => ?_, fun b hb => ?_⟩
    · rcases hget p q h with ⟨rfl, rfl⟩ | ⟨hne, h'⟩
      · exact ⟨ob, ho, hsz, hty, by omega, fun e => by omega, fun _ => hf⟩
      · exact ⟨q, h', rfl, rfl, Nat.le_refl _, fun _ => po p hne, fun h => h⟩
    · rcases hb with ⟨p, q, h, hq, rfl⟩ | ⟨p, j, h⟩
      · rcases hget p q h with ⟨rfl, rfl⟩ | ⟨hne, h'⟩
        · exact .inr (by rw [pn]; exact Nat.le_refl _)
        · exact .inl (.inl ⟨p, q, h', hq, by rw [po p hne]⟩)
      · exact .inl (.inr ⟨p, j, htb _ _ _ h⟩)
  obtain ⟨c, c1, c2, c3, c4, c5, c6⟩ := hh.obj o ob ho
  rw [hc] at c1
  have hcc : cur = c := by injection c1 with c1; injection c1
  subst hcc
  refine ⟨⟨fun p q h => ?_, fun p p' q q' hq hq' hqf heq => ?_, fun p q h hx => ?_, fun p q h hqf => ?_, fun p p' j j' b h h' => hh.tin p p' j j' b (htb _ _ _ h) (htb _ _ _ h'), fun p j b h p' q hq => ?_, fun p j b h => hh.tx p j b (htb _ _ _ h)⟩, hk, he⟩
  · rcases hget p q h with ⟨rfl, rfl⟩ | ⟨hne, h'⟩
    · rw [pn]
      exact ⟨cur', hnew, hcs, hfit, hm, h4, fun j x hx => by
        obtain ⟨v, hv, hr⟩ := h5 j x hx
        refine ⟨v, hv, hr.mono hk he, fun hox => ?_⟩
        obtain ⟨g1, g2⟩ := h6 j x hx hox
        obtain ⟨v', hv', hr'⟩ := c6 j x g1
        rw [g2, hv'] at hv; cases hv
        exact (hr'.go hk he (fun _ => rfl) fun hox b hb => hold b (hh.tb_lt ⟨ob, x, ho, g1, hox, hb⟩)).2 hox⟩
    · obtain ⟨d, d1, d2, d3, d4, d5, d6⟩ := hh.obj p q h'
      rw [po p hne]
      exact ⟨d, by rw [hold _ (hh.lt h')]; exact d1, d2, d3, d4, d5, fun j x hx => by
        obtain ⟨v, hv, hr⟩ := d6 j x hx
        exact ⟨v, hv, hr.go hk he (fun _ => rfl) fun hox b hb => hold b (hh.tb_lt ⟨q, x, h', hx, hox, hb⟩)⟩⟩
  · rcases hget p q hq with ⟨rfl, rfl⟩ | ⟨hne, h'⟩ <;> rcases hget p' q' hq' with ⟨rfl, rfl⟩ | ⟨hne', h''⟩
    · rfl
    · rw [pn, po p' hne'] at heq; have := hh.lt h''; simp only at heq; omega
    · rw [pn, po p hne] at heq; have := hh.lt h'; simp only at heq; omega
    · rw [po p hne, po p' hne'] at heq; exact hh.inj _ _ q q' h' h'' hqf heq
  · rcases hget p q h with ⟨rfl, rfl⟩ | ⟨hne, h'⟩
    · rw [pn] at hx; have := hX _ hx; simp only at this; omega
    · rw [po p hne] at hx; exact hh.out _ _ h' hx
  · rcases hget p q h with ⟨rfl, rfl⟩ | ⟨hne, h'⟩
    · rw [hfz, hf] at hqf; cases hqf
    · exact hh.fro _ _ h' hqf
  · rcases hget p' q hq with ⟨rfl, rfl⟩ | ⟨hne, h'⟩
    · rw [pn]; have := hh.tb_lt (htb _ _ _ h); simp only; omega
    · rw [po p' hne]; exact hh.tob _ _ _ (htb _ _ _ h) _ _ h'

theorem flat_drop {sz : Nat} : ∀ {es : List (List PV)} (n : Nat), (∀ e, e ∈ es → e.length = sz) → (es.drop n).flatten = es.flatten.drop (n * sz)
  | es, 0, _ => by simp
  | [], n + 1, _ => by simp
  | e :: es, n + 1, h => by
    have h1 := h e (by simp)
    rw [List.drop_succ_cons, flat_drop n (fun e' he => h e' (by simp [he])), List.flatten_cons, List.drop_append, h1, List.drop_eq_nil_of_le (as := e) (by rw [h1, Nat.add_mul]; omega)]
    simp only [List.nil_append]
    congr 1
    rw [Nat.add_mul]; omega
theorem flat_take {sz : Nat} : ∀ {es : List (List PV)} (n : Nat), (∀ e, e ∈ es → e.length = sz) → (es.take n).flatten = es.flatten.take (n * sz)
  | es, 0, _ => by simp
  | [], n + 1, _ => by simp
  | e :: es, n + 1, h => by
    have h1 := h e (by simp)
    rw [List.take_succ_cons, List.flatten_cons, List.flatten_cons, flat_take n (fun e' he => h e' (by simp [he])), List.take_append, h1, List.take_of_length_le (l := e) (by rw [h1, Nat.add_mul]; omega)]
    congr 2
    rw [Nat.add_mul]; omega
theorem cut2 {α : Type} (M : List α) {l h : Nat} (h1 : l ≤ h) : (M.take h).drop l ++ M.drop h = M.drop l := by
  have e1 : (M.take h).drop l = (M.drop l).take (h - l) := List.drop_take
  have e2 : M.drop h = (M.drop l).drop (h - l) := by rw [List.drop_drop]; congr 1; omega
  rw [e1, e2, List.take_append_drop]
theorem cut3 {α : Type} (L : List α) {l h m : Nat} (h1 : l ≤ h) (h2 : h ≤ m) : (L.take h).drop l ++ (L.take m).drop h = (L.take m).drop l := by
  have e : L.take h = (L.take m).take h := by rw [List.take_take, Nat.min_eq_left h2]
  rw [e]; exact cut2 _ h1

theorem unownL_map (xs : List PV) : unownL xs = xs.map unown := by induction xs <;> simp_all [unownL]
theorem unownLL_map (xs : List (List PV)) : unownLL xs = xs.map unownL := by induction xs <;> simp_all [unownLL]
theorem unown_eq {x : PV} (h : pureV x = true) : unown x = x ∨ (∃ cs, x = .agg cs) ∨ ∃ cs, x = .tup cs := by cases x <;> simp_all [unown, pureV]

/-- What an object holds, to be read only. -/
theorem HR.snap (hh : HR w σ ι X) {o ep lo len : Nat} {cap : Option Nat} {v : Value} {ob : AObj} (hx : VR w σ ι X (.ref o ep lo len cap) v) (ho : σ[o]? = some (some ob)) (hep : ob.es.length = ep)
    {es : List (List PV)} (hl : es.length = ob.es.length) (hz : ∀ e, e ∈ es → e.length = ob.sz) {B : Nat → Prop} (hB : B (ι o).1)
    (hc : ∀ (j : Nat) (x : PV), es.flatten[j]? = some x → ∃ y, ob.es.flatten[j]? = some y ∧ ∀ u, CR w σ ι X o j y u → IR w B x u) : IR w B (snapE es lo len cap) v := by
  obtain ⟨_, _, h1⟩ := hx.of_ref
  obtain ⟨_, h2⟩ := h1 ob ho
  obtain ⟨h3, A, c, rfl, h4, h5, h6, h7, h8⟩ := h2 hep
  obtain ⟨cur, c1, c2, c3, c4, c5, c6⟩ := hh.obj o ob ho
  have hlen : ((es.take (lo + len)).drop lo).length = len := by simp; omega
  -- both lists together
  have hall : ∃ m, lo + len ≤ m ∧ m ≤ es.length ∧ m - lo ≤ c ∧ (cap.isSome = true → c = m - lo) ∧
      (es.take (lo + len)).drop lo ++ (snapSp es lo len cap) = (es.take m).drop lo ∧
      (snapSp es lo len cap).length = m - (lo + len) := by
    cases cap with
    | none =>
      refine ⟨es.length, by omega, Nat.le_refl _, by have := h7 rfl; omega, by simp, ?_, by simp [snapSp]⟩
      rw [List.take_length]
      exact cut2 es (by omega)
    | some k =>
      obtain ⟨g1, g2, g3⟩ := h8 k rfl
      refine ⟨lo + k, by omega, by omega, by omega, fun _ => by omega, cut3 es (by omega) (by omega), by simp [snapSp]; omega⟩
  obtain ⟨m, m1, m2, m3, m4, m5, m6⟩ := hall
  unfold snapE
  have hsub : ∀ e, e ∈ (es.take m).drop lo → e ∈ es := fun e he => List.mem_of_mem_take (List.mem_of_mem_drop he)
  have hflat : ((es.take m).drop lo).flatten = (es.flatten.take (m * ob.sz)).drop (lo * ob.sz) := by
    rw [flat_drop lo (fun e he => hz e (List.mem_of_mem_take he)), flat_take m hz]
  have hcell : ∀ (j : Nat) (x : PV), ((es.take m).drop lo).flatten[j]? = some x → ∃ u : Value, cur[lo * ob.sz + j]? = some u ∧ IR w B x u := by
    intro j x hj
    rw [hflat, List.getElem?_drop, List.getElem?_take] at hj
    split at hj
    · obtain ⟨y, hy, hyr⟩ := hc _ x hj
      obtain ⟨u, hu, hr⟩ := c6 _ y hy
      exact ⟨u, hu, hyr u hr⟩
    · cases hj
  have key := IR.imm (w := w) (B := B) ((es.take (lo + len)).drop lo) (snapSp es lo len cap) cap.isSome A
    ⟨(ι o).1, lo * ob.sz, none⟩ c ob.sz (fun j => cur.getD (lo * ob.sz + j) undef) (by rw [hlen, m6]; omega) (by omega) (fun hc => by rw [hlen, m6]; have := m4 hc; omega)
    (fun hl => by
      rw [m5] at hl
      have : 0 < c := by simp at hl; omega
      exact h4 this) (fun _ => hB) (fun e he => by rw [m5] at he; exact hz e (hsub e he))
    (fun j x hj => by
      rw [m5] at hj
      obtain ⟨u, hu, _⟩ := hcell j x hj
      rw [Addr.add_mid, cell_of_row w _ _ cur ob.ty (0, 0) c1, hu]
      simp [Array.getD_eq_getD_getElem?, hu])
    (fun j x hj => by
      rw [m5] at hj
      obtain ⟨u, hu, hr⟩ := hcell j x hj
      simp only [Array.getD_eq_getD_getElem?, hu, Option.getD_some]
      exact hr)
  rw [hlen] at key
  exact key
end
end Go.Mach
