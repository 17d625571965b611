import Derived.Test.YtnkakbpefcoanaaGreatMc
import Derived.Laws.Append
/- Operations that take addresses, compare structs, make and write objects. -/
namespace Go.Mach
open Go
set_option linter.unusedVariables false
set_option linter.unusedSimpArgs false

section ops
variable {P : Program} {X : Nat → Prop} {w : World} {ι : Place} {σ : Heap}

theorem op_iadr {u1 u2 : Value} {x i : PV} {sz : Nat} {s : Sem Next} (t e : TypeId) (ht : P.underlying t = some (.slice e)) (hsz : szT P e = some sz) (hh : HR w σ ι X) (hx : VR w σ ι X x u1) (hi : VR w σ ι X i u2)
    (hs : s = (do pure (.value (← Instr.indexAt t u1 u2)))) : EvOk P X s w σ ι (iadrV σ sz x i) := by
  subst hs
  simp only [szT, Option.map_eq_some_iff] at hsz
  obtain ⟨ie, hie, rfl⟩ := hsz
  have hr : ∀ (a : Addr) (n c : Nat) (k : IntKind) (z : Int), 0 ≤ z → z < n → (Instr.indexAt t (.slice (some a) n c) (.int k z)).run P w = .ok (.pointer (some (a.add (z.toNat * ie.size)))) w := by
    intro a n c k z h0 h1
    simp [Instr.indexAt, run_underlying ht, asIntOf, h0, h1, sizeOf, typeInfo, hie]
  cases x with
  | imm es sp lim => cases i with
    | int k z =>
      rw [hi.of_int]
      rintro ⟨h0, h1, h2⟩
      have hm := hx.of_imm
      cases hm with
      | imm _ _ _ A a c sz vs hc1 hc2 hl hA ho hz hc hr' =>
        have hlt : z.toNat < es.length := by omega
        have hA' : A = some a := hA (by simp; omega)
        subst hA'
        have he : es[z.toNat]? = some es[z.toNat] := List.getElem?_eq_getElem hlt
        have hee : es.getD z.toNat [] = es[z.toNat] := by simp [List.getD_eq_getElem?_getD, he]
        have hez : es[z.toNat].length = sz := hz _ (by simp)
        rw [hee] at h2 ⊢
        have hszz : sz = ie.size := by omega
        subst hszz
        have hfl : ∀ (j : Nat) (x : PV), es[z.toNat][j]? = some x → (es ++ sp).flatten[z.toNat * ie.size + j]? = some x := by
          intro j x hj
          exact flat_get (fun e he => hz e he) (by rw [List.getElem?_append_left hlt]; exact he) hj
        refine Did.val (u := .pointer (some (a.add (z.toNat * ie.size)))) hh (by simp [hr a es.length c k z h0 h1]) (.im _ _ (.iptr _ _ (fun j => vs (z.toNat * ie.size + j)) (fun hp => ?_) (fun j x hj => ?_) (fun j x hj => ?_)))
        · rw [add_block]
          refine ho ?_
          have := (List.getElem?_eq_some_iff.1 (hfl 0 _ (List.getElem?_eq_getElem hp))).1
          omega
        · rw [add_add]; exact hc _ x (hfl j x hj)
        · exact hr' _ x (hfl j x hj)
    | _ => exact True.intro
  | ref o ep lo len cap => cases i with
    | int k z =>
      rw [hi.of_int]
      obtain ⟨h1, _, h2⟩ := hx.of_ref
      simp only [iadrV]
      split
      · rename_i ob hob
        split
        · rename_i hep
          rintro ⟨b0, b1⟩
          obtain ⟨h3, h4⟩ := h2 ob hob
          obtain ⟨h5, A, c, rfl, h6, h7, _⟩ := h4 hep.1
          have hA : A = some ⟨(ι o).1, lo * ob.sz, none⟩ := h6 (by omega)
          subst hA
          refine Did.val (u := .pointer (some ⟨(ι o).1, lo * ob.sz + z.toNat * ob.sz, none⟩)) hh (by simp [hr _ len c k z b0 b1, Addr.add_mid, hep.2]) (.ptr _ _ _ _ _ h1 ⟨_, rfl⟩ fun ob' hob' => ?_)
          rw [hob] at hob'; cases hob'
          exact ⟨by omega, fun _ => ⟨by omega, by rw [Nat.add_mul]; simp⟩⟩
        · exact True.intro
      · exact True.intro
    | _ => exact True.intro
  | _ => exact True.intro

theorem op_sl {u : Value} {x : PV} {sz : Nat} {lo hi mx : Option PV} {lo' hi' mx' : Option Value} {s : Sem Next} (t e : TypeId) (ht : P.underlying t = some (.slice e)) (hsz : szT P e = some sz) (hh : HR w σ ι X) (hx : VR w σ ι X x u)
    (h1 : OptR w σ ι X lo lo') (h2 : OptR w σ ι X hi hi') (h3 : OptR w σ ι X mx mx') (hmh : mx.isSome = true → hi.isSome = true) (hs : s = (do pure (.value (← Instr.sliceAt t u lo' hi' mx')))) : EvOk P X s w σ ι (slV σ sz x lo hi mx) := by
  subst hs
  simp only [szT, Option.map_eq_some_iff] at hsz
  obtain ⟨ie, hie, rfl⟩ := hsz
  have hr : ∀ (A : Option Addr) (len c : Nat) (l h m : Int), optI 0 lo = some l → optI len hi = some h → (mx.isSome = true → optI 0 mx = some m) → 0 ≤ l → l ≤ h → (mx.isSome = true → h ≤ m ∧ m ≤ c) → (mx = none → h ≤ c) →
      (Instr.sliceAt t (.slice A len c) lo' hi' mx').run P w = .ok (.slice (if (if mx.isSome then m.toNat else c) = l.toNat then A else A.map (·.add (l.toNat * ie.size))) (h.toNat - l.toNat) ((if mx.isSome then m.toNat else c) - l.toNat)) w := by
    intro A len c l h m e1 e2 e3 b0 b1 b2 b3
    have hb := run_bounds (P := P) (isS := true) (len := len) (cap := c) h1 h2 h3 e1 e2 e3 hmh b0 b1 b2 b3
    simp only [Instr.sliceAt, Sem.run_bind, run_underlying ht, Result.andThen_ok, Instr.slice, hb, Sem.run_pure, sizeOf, typeInfo, program, Sem.run, hie]
  have hdef : ∀ (d d' m : Int), optI d mx = some m → mx.isSome = true → optI d' mx = some m := by
    intro d d' m h hm
    cases mx with
    | none => simp at hm
    | some y => cases y <;> simp_all [optI]
  cases x with
  | imm es sp lim =>
    simp only [slV]
    split
    · rename_i l h m e1 e2 e3
      rintro ⟨b0, b1, b2, b3, hz'⟩
      have hm := hx.of_imm
      cases hm with
      | imm _ _ _ A a c sz vs hc1 hc2 hl hA ho hz hc hr' =>
        have hmn : mx = none → m = es.length + sp.length := by
          rintro rfl; simp [optI] at e3; omega
        have key := hr A es.length c l h m e1 e2 (fun hm => hdef _ _ m e3 hm) b0 b1 (fun _ => ⟨b2, by omega⟩) (fun hm => by have := hmn hm; omega)
        refine Did.val hh (by simp only [Sem.run_bind, key, Result.andThen_ok, Sem.run_pure]; rfl) (.im _ _ ?_)
        have hcut := cut3 (es ++ sp) (l := l.toNat) (h := h.toNat) (m := m.toNat) (by omega) (by omega)
        have hlen1 : (((es ++ sp).take h.toNat).drop l.toNat).length = h.toNat - l.toNat := by simp; omega
        have hlen2 : (((es ++ sp).take m.toNat).drop h.toNat).length = m.toNat - h.toNat := by simp; omega
        have hsub : ∀ e, e ∈ ((es ++ sp).take m.toNat).drop l.toNat → e ∈ es ++ sp := fun e he => List.mem_of_mem_take (List.mem_of_mem_drop he)
        have hfl : ∀ (j : Nat) (x : PV), (((es ++ sp).take m.toNat).drop l.toNat).flatten[j]? = some x → (es ++ sp).flatten[l.toNat * ie.size + j]? = some x := by
          intro j x hj
          rw [flat_drop l.toNat (fun e he => hz' e (List.mem_of_mem_take he)), flat_take m.toNat hz', List.getElem?_drop, List.getElem?_take] at hj
          split at hj
          · exact hj
          · cases hj
        rw [← hlen1]
        refine .imm _ _ _ _ (a.add (l.toNat * ie.size)) _ ie.size (fun j => vs (l.toNat * ie.size + j)) ?_ ?_ ?_ ?_ ?_ ?_ ?_ ?_
        · rw [hlen1, hlen2]
          by_cases hm : mx.isSome = true
          · simp only [hm, if_true]; omega
          · have := hmn (by simpa using hm); simp only [hm]; simp; omega
        · by_cases hm : mx.isSome = true
          · simp only [hm, if_true]; omega
          · simp only [hm]; simp; omega
        · intro hlim
          rw [hlen1, hlen2]
          by_cases hm : mx.isSome = true
          · simp only [hm, if_true]; omega
          · have hm' := hmn (by simpa using hm)
            have hl' : lim = true := by simpa [hm] using hlim
            have := hl hl'
            simp only [hm]; simp; omega
        · intro hp
          rw [hcut] at hp
          simp only [List.length_drop, List.length_take] at hp
          have hA' : A = some a := hA (by omega)
          subst hA'
          rw [if_neg]
          · rfl
          · by_cases hm : mx.isSome = true
            · simp only [hm, if_true]; omega
            · have := hmn (by simpa using hm); simp only [hm]; simp; omega
        · intro hp
          rw [hcut] at hp
          rw [add_block]
          refine ho ?_
          have := (List.getElem?_eq_some_iff.1 (hfl 0 _ (List.getElem?_eq_getElem hp))).1
          omega
        · intro e he
          rw [hcut] at he
          exact hz' e (hsub e he)
        · intro j x hj
          rw [hcut] at hj
          rw [add_add]; exact hc _ x (hfl j x hj)
        · intro j x hj
          rw [hcut] at hj
          exact hr' _ x (hfl j x hj)
    · exact True.intro
  | ref o ep b len cap =>
    simp only [slV]
    split
    · rename_i ob hob
      split
      · rename_i hep
        split
        · rename_i l h m e1 e2 e3
          rintro ⟨b0, b1, b2, b3⟩
          obtain ⟨g1, _, g2⟩ := hx.of_ref
          obtain ⟨g3, g4⟩ := g2 ob hob
          obtain ⟨g5, A, c, rfl, g6, g7, g8, g9, g10⟩ := g4 hep.1
          obtain ⟨cur, c1, c2, c3, c4, c5, c6⟩ := hh.obj o ob hob
          have hcap : cap.getD (ep - b) ≤ c := by
            cases cap with
            | none => have := g9 rfl; simp; omega
            | some k => have := (g10 k rfl).1; simp; omega
          have hmn : mx = none → m = (cap.getD (ep - b) : Nat) := by
            rintro rfl; simp [optI] at e3; omega
          have key := hr A len c l h m e1 e2 (fun hm => hdef _ _ m e3 hm) b0 b1 (fun _ => ⟨b2, by omega⟩) (fun hm => by have := hmn hm; omega)
          refine Did.val hh (by simp only [Sem.run_bind, key, Result.andThen_ok, Sem.run_pure]; rfl) (.ref _ _ _ _ _ _ g1 ⟨_, _, rfl⟩ fun ob' hob' => ?_)
          rw [hob] at hob'; cases hob'
          have hbep : b + cap.getD (ep - b) ≤ ep := by
            cases cap with
            | none => simp; omega
            | some k => have := (g10 k rfl).2.2; simp; omega
          refine ⟨by omega, fun _ => ⟨by omega, _, _, rfl, ?_, ?_, ?_, ?_, ?_⟩⟩
          · intro hp
            by_cases hm : mx.isSome = true
            · simp only [hm, if_true] at hp ⊢
              rw [if_neg (by omega), g6 (by omega)]
              simp [Addr.add_mid, Nat.add_mul, hep.2]
            · simp only [hm] at hp ⊢
              simp at hp
              have := hmn (by simpa using hm)
              simp only [Bool.false_eq_true, if_false]
              rw [if_neg (by omega), g6 (by omega)]
              simp [Addr.add_mid, Nat.add_mul, hep.2]
          · by_cases hm : mx.isSome = true
            · simp only [hm, if_true]; omega
            · have := hmn (by simpa using hm); simp only [hm]; simp; omega
          · by_cases hm : mx.isSome = true
            · simp only [hm, if_true]; omega
            · simp only [hm]; simp; omega
          · intro hn
            by_cases hm : mx.isSome = true
            · simp [hm] at hn
            · simp only [hm] at hn ⊢
              simp at hn
              have := g9 hn
              simp; omega
          · intro k hk
            by_cases hm : mx.isSome = true
            · simp only [hm, if_true] at hk ⊢
              cases hk
              exact ⟨rfl, by omega, by omega⟩
            · have hm' := hmn (by simpa using hm)
              simp only [hm] at hk ⊢
              simp at hk
              obtain ⟨k', rfl, rfl⟩ := hk
              obtain ⟨q1, q2, q3⟩ := g10 k' rfl
              simp at hm' ⊢
              exact ⟨by omega, by omega, by omega⟩
        · exact True.intro
      · exact True.intro
    · exact True.intro
  | _ => exact True.intro

/-- What one cell can hold is one cell. -/
theorem cell_one {x : PV} {v : Value} (h : VR w σ ι X x v) (hc : cellV x = true) : v.cells = #[v] ∧ v.oneCell' = true := by
  cases x with
  | bool b => rw [h.of_bool]; exact ⟨rfl, rfl⟩
  | int k n => rw [h.of_int]; exact ⟨rfl, rfl⟩
  | str s => rw [h.of_str.1]; exact ⟨rfl, rfl⟩
  | nilp => cases h with | im _ _ h => cases h; exact ⟨rfl, rfl⟩
  | iptr l => have h1 := h.of_iptr; cases h1; exact ⟨rfl, rfl⟩
  | ptr o ep i off => obtain ⟨_, ⟨a, rfl⟩, _⟩ := h.of_ptr; exact ⟨rfl, rfl⟩
  | imm es sp lim => have h1 := h.of_imm; cases h1; exact ⟨rfl, rfl⟩
  | ref o ep lo len cap => obtain ⟨_, ⟨A, c, rfl⟩, _⟩ := h.of_ref; exact ⟨rfl, rfl⟩
  | own => simp [cellV] at hc
  | fn f cs => obtain ⟨vs, rfl, _⟩ := h.of_fn; exact ⟨rfl, rfl⟩
  | nilfn => cases h with | im _ _ h => cases h; exact ⟨rfl, rfl⟩
  | agg cs => simp [cellV] at hc
  | tup cs => simp [cellV] at hc
  | nilif => rw [h.of_nilif]; exact ⟨rfl, rfl⟩
  | someif => obtain ⟨t, u, rfl⟩ := h.of_someif; exact ⟨rfl, rfl⟩
  | undef => simp [cellV] at hc
theorem cells_of {x : PV} {v : Value} (h : VR w σ ι X x v) (hc : (cellsOf x).all cellV = true) : VRs w σ ι X (cellsOf x) v.cells.toList ∧ ∀ u, u ∈ v.cells.toList → u.oneCell' = true := by
  have one : ∀ {x : PV}, VR w σ ι X x v → cellsOf x = [x] → cellV x = true → VRs w σ ι X (cellsOf x) v.cells.toList ∧ ∀ u, u ∈ v.cells.toList → u.oneCell' = true := by
    intro x h e hc
    obtain ⟨h1, h2⟩ := cell_one h hc
    rw [e, h1]
    exact ⟨VRs.cons h VRs.nil, fun u hu => by simp at hu; rw [hu]; exact h2⟩
  cases x with
  | agg cs =>
    obtain ⟨vs, rfl, h1⟩ := h.of_agg
    simp only [cellsOf] at hc ⊢
    refine ⟨by simpa [Value.cells] using h1, fun u hu => ?_⟩
    simp only [Value.cells] at hu
    obtain ⟨j, hj⟩ := List.getElem?_of_mem hu
    have hlt : j < cs.length := by rw [h1.1]; exact (List.getElem?_eq_some_iff.1 hj).1
    exact (cell_one (h1.2 j _ u (List.getElem?_eq_getElem hlt) hj) (List.all_eq_true.1 hc _ (by simp))).2
  | _ => exact one h rfl (by simpa [cellsOf] using hc)

/-- Cells at the head of a block. -/
def Lie (w : World) (σ : Heap) (ι : Place) (X : Nat → Prop) (L : List PV) (cur : List Value) : Prop := ∀ (j : Nat) (x : PV), L[j]? = some x → ∃ v : Value, cur[j]? = some v ∧ VR w σ ι X x v
theorem Lie.of_vrs {L : List PV} {cur : List Value} (h : VRs w σ ι X L cur) : Lie w σ ι X L cur := fun j x hx => h.get hx
theorem Lie.splice {L cs : List PV} {cur vs : List Value} {k : Nat} (h : Lie w σ ι X L cur) (hv : VRs w σ ι X cs vs) (hk : k + cs.length ≤ L.length) :
    Lie w σ ι X (L.take k ++ cs ++ L.drop (k + cs.length)) (cur.take k ++ vs ++ cur.drop (k + cs.length)) := by
  have hcur : L.length ≤ cur.length := by
    rcases Nat.eq_zero_or_pos L.length with h0 | h0
    · omega
    · obtain ⟨v, hv', _⟩ := h (L.length - 1) _ (List.getElem?_eq_getElem (show L.length - 1 < L.length by omega))
      have := (List.getElem?_eq_some_iff.1 hv').1; omega
  intro j x hx
  have e1 : (L.take k).length = k := by simp; omega
  have e2 : (cur.take k).length = k := by simp; omega
  by_cases hj : j < k
  · rw [List.append_assoc, List.getElem?_append_left (by omega), List.getElem?_take, if_pos hj] at hx
    rw [List.append_assoc, List.getElem?_append_left (by omega), List.getElem?_take, if_pos hj]
    exact h j x hx
  · by_cases hj2 : j < k + cs.length
    · rw [List.append_assoc, List.getElem?_append_right (by omega), List.getElem?_append_left (by omega), e1] at hx
      rw [List.append_assoc, List.getElem?_append_right (by omega), List.getElem?_append_left (by rw [← hv.1]; omega), e2]
      exact hv.get hx
    · rw [List.append_assoc, List.getElem?_append_right (by omega), List.getElem?_append_right (by omega), e1, List.getElem?_drop] at hx
      rw [List.append_assoc, List.getElem?_append_right (by omega), List.getElem?_append_right (by rw [← hv.1]; omega), e2, List.getElem?_drop, ← hv.1]
      exact h _ x hx

end ops
end Go.Mach

/- Operations that make and write objects. -/
namespace Go.Mach
open Go
set_option linter.unusedVariables false
set_option linter.unusedSimpArgs false

section ops
variable {P : Program} {X : Nat → Prop} {w : World} {ι : Place} {σ : Heap}

theorem Lie.arr {L : List PV} {cur : Array Value} (h : Lie w σ ι X L cur.toList) : ∀ (j : Nat) (x : PV), L[j]? = some x → ∃ v : Value, cur[j]? = some v ∧ VR w σ ι X x v := fun j x hx => by
  obtain ⟨v, hv, hr⟩ := h j x hx
  exact ⟨v, by simpa using hv, hr⟩

theorem cell_noOwn {L : List PV} (h : ∀ x, x ∈ L → cellV x = true) : ∀ x, x ∈ L → isOwn x = false := fun x hx => by
  have := h x hx
  cases x <;> simp_all [cellV, isOwn]

/-- A new object of one element. -/
theorem op_new {cs : List PV} {us : Array Value} {ty : Nat} {s : Sem Next} (hh : HR w σ ι X) (hX : ∀ b, X b → b < w.heap.size) (hv : cs.all cellV = true → VRs w σ ι X cs us.toList)
    (hs : s = (do pure (.value (.pointer (some (← newRow ty us)))))) : EvOk P X s w σ ι (newV σ ty cs) := by
  subst hs
  unfold newV
  split
  · rename_i hc
    intro _
    have hv := hv hc
    have hl : us.size = cs.length := by have := hv.1; simp at this; exact this.symm
    obtain ⟨h1, h2, h3⟩ := hh.push (w' := w.alloc (.cells us ty)) hX us ⟨[cs], cs.length, ty, false, false⟩ 1 (by simp [hl]) (by simp) (by simp [maxLen]) (by simp)
      (by simp only [List.flatten_cons, List.flatten_nil, List.append_nil]; exact (Lie.of_vrs hv).arr) (by
        simp only [List.flatten_cons, List.flatten_nil, List.append_nil]
        exact cell_noOwn fun x hx => List.all_eq_true.1 hc x hx) rfl rfl rfl rfl
    refine ⟨.value (.pointer (some ⟨w.heap.size, 0, none⟩)), w.alloc (.cells us ty), _, _, by simp [newRow], .inl rfl, h1, ?_, h2, h3⟩
    refine .ptr _ _ _ _ _ (by simp) ⟨_, rfl⟩ fun ob hob => ?_
    rw [List.getElem?_append_right (Nat.le_refl _), Nat.sub_self] at hob
    simp at hob
    subst hob
    simp [putP]
  · exact True.intro

/-- Zero values. -/
theorem zeroT_ok {t : TypeId} {z : List PV} (h : zeroT P t = some z) : ∃ i zv, P.info? t = some i ∧ i.zero = some zv ∧ VRs w σ ι X z zv.cells.toList ∧ ((∀ v, constV zv = some v → cellsOf v = z)) := by
  unfold zeroT at h
  simp only [Option.bind_eq_bind, Option.bind_eq_some_iff, Option.pure_def, Option.some.injEq] at h
  obtain ⟨i, hi, zv, hz, v, hv, rfl⟩ := h
  refine ⟨i, zv, hi, hz, ?_, fun v' hv' => by rw [hv] at hv'; cases hv'; rfl⟩
  have hr : VR w σ ι X v zv := .im _ _ (constV_ir hv)
  unfold constV at hv
  split at hv
  · rename_i cs
    simp only [Option.map_eq_some_iff] at hv
    obtain ⟨ys, hys, rfl⟩ := hv
    obtain ⟨vs, h1, h2⟩ := hr.of_agg
    injection h1 with h1
    subst h1
    simpa [Value.cells, cellsOf] using h2
  · rename_i hna
    have : cellV v = true ∧ cellsOf v = [v] := by
      unfold constS at hv
      split at hv <;> first | (cases hv; done) | (cases hv; exact ⟨rfl, rfl⟩) | (split at hv <;> first | (cases hv; exact ⟨rfl, rfl⟩) | cases hv)
    rw [this.2, (cell_one hr this.1).1]
    exact VRs.cons hr VRs.nil

theorem op_box {u : Value} {x : PV} {ty : Nat} {s : Sem Next} (hh : HR w σ ι X) (hX : ∀ b, X b → b < w.heap.size) (hx : VR w σ ι X x u) (hs : s = (do pure (.value (← Instr.box ty u)))) : EvOk P X s w σ ι (boxV σ ty x) := by
  refine op_new (us := u.cells) hh hX (fun hc => (cells_of hx hc).1) ?_
  subst hs
  simp [Instr.box, newVar]
theorem run_newRow (ty : TypeId) (us : Array Value) : (newRow ty us).run P w = .ok ⟨w.heap.size, 0, none⟩ (w.alloc (.cells us ty)) := by simp [newRow]
theorem EvOk.congr {s s' : Sem Next} {e : Ev} (h : EvOk P X s w σ ι e) (hs : s'.run P w = s.run P w) : EvOk P X s' w σ ι e := by
  cases e with
  | ok v => obtain ⟨n, w', ι', u, h1, h2⟩ := h; exact ⟨n, w', ι', u, hs.trans h1, h2⟩
  | ob p v => intro hp; obtain ⟨n, w', ι', u, h1, h2⟩ := h hp; exact ⟨n, w', ι', u, hs.trans h1, h2⟩
  | hp p v σ' => intro hp; obtain ⟨n, w', ι', u, h1, h2⟩ := h hp; exact ⟨n, w', ι', u, hs.trans h1, h2⟩
  | call f A => exact True.intro
  | bad => exact True.intro
theorem op_alloc {ty : Nat} {z : List PV} {s : Sem Next} (hz : zeroT P ty = some z) (hh : HR w σ ι X) (hX : ∀ b, X b → b < w.heap.size) (hs : s = (do pure (.value (← Instr.alloc ty true (.tuple #[]))))) : EvOk P X s w σ ι (newV σ ty z) := by
  obtain ⟨i, zv, hi, hzv, hr, _⟩ := zeroT_ok (w := w) (σ := σ) (ι := ι) (X := X) hz
  refine (op_new (us := zv.cells) (s := do pure (.value (.pointer (some (← newRow ty zv.cells))))) hh hX (fun _ => hr) rfl).congr ?_
  subst hs
  simp [Instr.alloc, zeroValue, typeInfo, hi, hzv, newVar, run_newRow]

/-! #### Composite values -/
theorem fold_set (vs : List Value) (off : Nat) : ∀ (k : Nat) (cs : Array Value), off + k + vs.length ≤ cs.size →
    (vs.zipIdx k).foldl (fun cs (p : Value × Nat) => cs.setIfInBounds (off + p.2) p.1) cs = (cs.toList.take (off + k) ++ vs ++ cs.toList.drop (off + k + vs.length)).toArray := by
  induction vs with
  | nil => intro k cs h; simp
  | cons v vs ih =>
    intro k cs h
    simp only [List.zipIdx_cons, List.foldl_cons]
    rw [ih (k + 1) _ (by simp at h ⊢; omega)]
    congr 1
    simp only [Array.toList_setIfInBounds]
    have := list_seg_step cs.toList (off + k) v vs (by simp at h ⊢; omega)
    simp only [List.length_cons]
    rw [← Nat.add_assoc off k 1, this]
theorem fill_step {place : Nat → Option (Nat × Nat)} {i off sz : Nat} {v : Value} {rest : List (Nat × Value)} {cells : Array Value} (hp : place i = some (off, sz)) (hv : v.cells.size = sz) (hle : off + sz ≤ cells.size) :
    Instr.fill place cells ((i, v) :: rest) = Instr.fill place (cells.toList.take off ++ v.cells.toList ++ cells.toList.drop (off + sz)).toArray rest := by
  have := fold_set v.cells.toList off 0 cells (by simp; omega)
  simp only [Nat.add_zero, Array.length_toList, hv] at this
  rw [Instr.fill, hp]
  simp only [hv]
  rw [if_neg (by simp; omega), ← this, ← Array.foldl_toList, Array.toList_zipIdx]

/-- The pure filling and the real one, side by side. -/
theorem fill_ok {place : Nat → Option (Nat × Nat)} : ∀ (ps : List (Nat × Nat × Nat × PV)) (vs : List (Nat × Value)) (cs : List PV) (cells : Array Value) (out : List PV),
    ps.length = vs.length → (∀ (j : Nat) (p : Nat × Nat × Nat × PV) (v : Nat × Value), ps[j]? = some p → vs[j]? = some v → p.1 = v.1 ∧ place p.1 = some (p.2.1, p.2.2.1) ∧ VR w σ ι X p.2.2.2 v.2) →
    VRs w σ ι X cs cells.toList → fillC cs (ps.map (·.2)) = some out → ∃ cells', Instr.fill place cells vs = some cells' ∧ VRs w σ ι X out cells'.toList
  | [], [], cs, cells, out, _, _, hv, h => by simp [fillC] at h; subst h; exact ⟨cells, rfl, hv⟩
  | [], v :: vs, cs, cells, out, hl, _, _, _ => by simp at hl
  | p :: ps, [], cs, cells, out, hl, _, _, _ => by simp at hl
  | (i, off, sz, x) :: ps, (i', v) :: vs, cs, cells, out, hl, hp, hv, h => by
    obtain ⟨h1, h2, h3⟩ := hp 0 _ _ rfl rfl
    simp only at h1 h2 h3
    subst h1
    simp only [List.map_cons, fillC] at h
    split at h
    · rename_i hc
      obtain ⟨c1, c2, c3⟩ := hc
      obtain ⟨d1, d2⟩ := cells_of h3 c3
      have hcl : cells.size = cs.length := by have := hv.1; simp at this; exact this.symm
      have hvs : v.cells.size = sz := by have := d1.1; simp at this; omega
      rw [fill_step h2 hvs (by omega)]
      refine fill_ok ps vs _ _ out (by simpa using hl) (fun j p v hj hj' => hp (j + 1) p v (by simpa using hj) (by simpa using hj')) ?_ h
      simpa using ((hv.take off).append d1).append (hv.drop (off + sz))
    · cases h

theorem op_build {t : TypeId} {fs : Array Field} {z : List PV} {ps : List (Nat × Nat × Nat × PV)} {vs : List (Nat × Value)} {s : Sem Next} (ht : P.underlying t = some (.struct fs)) (hz : zeroT P t = some z)
    (hall : ∀ f, f ∈ fs.toList → (P.info? f.type).isSome = true) (hl : ps.length = vs.length)
    (hp : ∀ (j : Nat) (p : Nat × Nat × Nat × PV) (v : Nat × Value), ps[j]? = some p → vs[j]? = some v → p.1 = v.1 ∧ (∃ f : Field, fs[p.1]? = some f ∧ f.offset = p.2.1 ∧ szT P f.type = some p.2.2.1) ∧ VR w σ ι X p.2.2.2 v.2)
    (hh : HR w σ ι X) (hs : s = (do pure (.value (← Instr.build t vs.toArray)))) : EvOk P X s w σ ι (buildV z (ps.map (·.2))) := by
  subst hs
  unfold buildV
  split
  · rename_i out hout
    obtain ⟨i, zv, hi, hzv, hr, _⟩ := zeroT_ok (w := w) (σ := σ) (ι := ι) (X := X) hz
    obtain ⟨places, hpl⟩ : ∃ places, fs.toList.mapM (fun f => (P.info? f.type).map fun i => (f.offset, i.size)) = some places := by
      generalize fs.toList = l at hall
      induction l with
      | nil => exact ⟨[], rfl⟩
      | cons f l ih =>
        obtain ⟨ps', h1⟩ := ih fun f' hf => hall f' (by simp [hf])
        obtain ⟨i', h2⟩ := Option.isSome_iff_exists.1 (hall f (by simp))
        exact ⟨(f.offset, i'.size) :: ps', by simp [List.mapM_cons, h1, h2]⟩
    have hpg : ∀ (l : List Field) (places : List (Nat × Nat)), l.mapM (fun f => (P.info? f.type).map fun i => (f.offset, i.size)) = some places → ∀ (k : Nat) (f : Field), l[k]? = some f → ∃ i', P.info? f.type = some i' ∧ places[k]? = some (f.offset, i'.size) := by
      intro l
      induction l with
      | nil => intro places _ k f h; simp at h
      | cons g l ih =>
        intro places h k f hk
        simp only [List.mapM_cons, Option.bind_eq_bind, Option.pure_def] at h
        cases h1 : P.info? g.type with
        | none => simp [h1] at h
        | some i' =>
          cases h2 : l.mapM (fun f => (P.info? f.type).map fun i => (f.offset, i.size)) with
          | none => simp [h1, h2] at h
          | some ps' =>
            simp [h1, h2] at h
            subst h
            cases k with
            | zero => simp at hk; subst hk; exact ⟨i', h1, rfl⟩
            | succ k => exact ih ps' h2 k f (by simpa using hk)
    have hfill := fill_ok (place := (places.toArray[·]?)) ps vs z zv.cells out hl (fun j p v hj hv => by
      obtain ⟨h1, ⟨f, h2, h3, h4⟩, h5⟩ := hp j p v hj hv
      refine ⟨h1, ?_, h5⟩
      obtain ⟨i', h6, h7⟩ := hpg fs.toList places hpl p.1 f (by simpa using h2)
      simp only [szT, h6, Option.map_some, Option.some.injEq] at h4
      simp [h7, h3, h4]) hr hout
    obtain ⟨cells', h1, h2⟩ := hfill
    have hb : P.built t vs = some cells' := by
      unfold Program.built
      rw [hi, ht]
      simp only [hzv, hpl]
      exact h1
    have hrun := run_build (P := P) w t vs.toArray cells' (by simpa using hb)
    exact Did.val (u := .agg cells') hh (by simp [hrun]) (by
      have := VR.agg (w := w) (σ := σ) (ι := ι) (X := X) out cells'.toList h2.1 h2.2
      simpa using this)
  · exact True.intro

end ops
end Go.Mach

/- Slice literals, stores, make, append. -/
namespace Go.Mach
open Go
set_option linter.unusedVariables false
set_option linter.unusedSimpArgs false

section ops
variable {P : Program} {X : Nat → Prop} {w : World} {ι : Place} {σ : Heap}

theorem set_whole {sz : Nat} {es : List (List PV)} {i : Nat} {cs : List PV} (hz : ∀ e, e ∈ es → e.length = sz) (hi : i < es.length) (hc : cs.length = sz) :
    (es.set i cs).flatten = es.flatten.take (i * sz) ++ cs ++ es.flatten.drop (i * sz + cs.length) := by
  have he : es[i]? = some es[i] := List.getElem?_eq_getElem hi
  have hel : es[i].length = sz := hz _ (by simp)
  have h := flat_set (off := 0) (cs := cs) hz he (by omega)
  simp only [List.take_zero, List.nil_append, Nat.zero_add, Nat.add_zero] at h
  rw [List.drop_of_length_le (by omega), List.append_nil] at h
  exact h

/-- What is not in the middle is as it was. -/
theorem splice_keep {L cs : List PV} {cur us : List Value} {k j : Nat} {x : PV} (hl : cs.length = us.length) (hk : k + cs.length ≤ L.length) (hk' : k + us.length ≤ cur.length) (h : (L.take k ++ cs ++ L.drop (k + cs.length))[j]? = some x) :
    x ∈ cs ∨ (L[j]? = some x ∧ (cur.take k ++ us ++ cur.drop (k + us.length))[j]? = cur[j]?) := by
  have e1 : (L.take k).length = k := by simp; omega
  have e2 : (cur.take k).length = k := by simp; omega
  by_cases hj : j < k
  · rw [List.append_assoc, List.getElem?_append_left (by omega), List.getElem?_take, if_pos hj] at h
    exact .inr ⟨h, by rw [List.append_assoc, List.getElem?_append_left (by omega), List.getElem?_take, if_pos hj]⟩
  · by_cases hj2 : j < k + cs.length
    · rw [List.append_assoc, List.getElem?_append_right (by omega), List.getElem?_append_left (by omega)] at h
      exact .inl (List.mem_of_getElem? h)
    · rw [List.append_assoc, List.getElem?_append_right (by omega), List.getElem?_append_right (by omega), e1, List.getElem?_drop] at h
      refine .inr ⟨by rw [← h]; congr 1; omega, ?_⟩
      rw [List.append_assoc, List.getElem?_append_right (by omega), List.getElem?_append_right (by omega), e2, List.getElem?_drop]
      congr 1; omega
theorem const_noOwn {zv : Value} {v : PV} (h : constV zv = some v) : ∀ x, x ∈ cellsOf v → isOwn x = false := by
  have hS : ∀ {a : Value} {x : PV}, constS a = some x → isOwn x = false ∧ cellsOf x = [x] := by
    intro a x h
    unfold constS at h
    split at h <;> first | (cases h; done) | (cases h; exact ⟨rfl, rfl⟩) | (split at h <;> first | (cases h; exact ⟨rfl, rfl⟩) | cases h)
  unfold constV at h
  split at h
  · rename_i cs
    simp only [Option.map_eq_some_iff] at h
    obtain ⟨ys, hys, rfl⟩ := h
    intro x hx
    simp only [cellsOf] at hx
    have : ∀ (l : List Value) (ys : List PV), l.mapM constS = some ys → ∀ x, x ∈ ys → isOwn x = false := by
      intro l
      induction l with
      | nil => intro ys h x hx; simp at h; subst h; cases hx
      | cons a l ih =>
        intro ys h x hx
        simp only [List.mapM_cons, Option.bind_eq_bind, Option.pure_def, Option.bind_eq_some_iff, Option.some.injEq] at h
        obtain ⟨y, hy, ys', hys', rfl⟩ := h
        rcases List.mem_cons.1 hx with rfl | hx
        · exact (hS hy).1
        · exact ih ys' hys' x hx
    exact this _ _ hys x hx
  · intro x hx
    obtain ⟨h1, h2⟩ := hS h
    rw [h2] at hx
    simp at hx; subst hx; exact h1
theorem zero_noOwn {t : TypeId} {z : List PV} {P : Program} (h : zeroT P t = some z) : ∀ x, x ∈ z → isOwn x = false := by
  unfold zeroT at h
  simp only [Option.bind_eq_bind, Option.bind_eq_some_iff, Option.pure_def, Option.some.injEq] at h
  obtain ⟨i, hi, zv, hz, v, hv, rfl⟩ := h
  exact const_noOwn hv
theorem rep_noOwn {z : List PV} {n : Nat} (h : ∀ x, x ∈ z → isOwn x = false) : ∀ x, x ∈ (List.replicate n z).flatten → isOwn x = false := by
  intro x hx
  obtain ⟨e, he, hxe⟩ := List.mem_flatten.1 hx
  rw [(List.mem_replicate.1 he).2] at hxe
  exact h x hxe

/-- A store into an object. -/
theorem write_ok (hh : HR w σ ι X) {o i off : Nat} {ob : AObj} (ho : σ[o]? = some (some ob)) (hf : ob.frz = false) {e cs : List PV} {us : List Value} (he : ob.es[i]? = some e) (hv : VRs w σ ι X cs us) (h1 : ∀ u, u ∈ us → u.oneCell' = true)
    (hno : ∀ x, x ∈ cs → isOwn x = false) (hle : off + cs.length ≤ ob.sz) : ∃ w', (storeCells ⟨(ι o).1, i * ob.sz + off, none⟩ us).run P w = .ok () w' ∧
      HR w' (σ.set o (some { ob with es := ob.es.set i (e.take off ++ cs ++ e.drop (off + cs.length)) })) ι X ∧ Kept (Own σ ι) w w' ∧
      Evo w σ ι (σ.set o (some { ob with es := ob.es.set i (e.take off ++ cs ++ e.drop (off + cs.length)) })) ι := by
  obtain ⟨cur, c1, c2, c3, c4, c5, c6⟩ := hh.obj o ob ho
  have hi : i < ob.es.length := (List.getElem?_eq_some_iff.1 he).1
  have hel : e.length = ob.sz := c5 e (List.mem_of_getElem? he)
  have hfl : ob.es.flatten.length = ob.es.length * ob.sz := flat_len c5
  have hmul : (i + 1) * ob.sz ≤ ob.es.length * ob.sz := Nat.mul_le_mul_right _ (by omega)
  have hmul2 : ob.es.length * ob.sz ≤ (ι o).2 * ob.sz := Nat.mul_le_mul_right _ c3
  rw [Nat.add_mul] at hmul
  have hfit : i * ob.sz + off + 0 + us.length ≤ cur.size := by rw [← hv.1, c2]; omega
  have hst := run_storeCells_at P (ι o).1 (i * ob.sz + off) ob.ty us 0 cur w c1 hfit h1
  simp only [Nat.add_zero] at hst
  have hlie : Lie w σ ι X ob.es.flatten cur.toList := fun j x hx => by
    obtain ⟨v, hv', hr⟩ := c6 j x hx
    exact ⟨v, by simpa using hv', hr.1⟩
  have hsp := hlie.splice hv (k := i * ob.sz + off) (by omega)
  have hflat : (ob.es.set i (e.take off ++ cs ++ e.drop (off + cs.length))).flatten = ob.es.flatten.take (i * ob.sz + off) ++ cs ++ ob.es.flatten.drop (i * ob.sz + off + cs.length) := flat_set c5 he hle
  have hsz' : ∀ e', e' ∈ ob.es.set i (e.take off ++ cs ++ e.drop (off + cs.length)) → e'.length = ob.sz := by
    intro e' he'
    rcases List.mem_or_eq_of_mem_set he' with h | h
    · exact c5 e' h
    · rw [h]; simp; omega
  have := hh.write (ob' := { ob with es := ob.es.set i (e.take off ++ cs ++ e.drop (off + cs.length)) }) (cur' := (cur.toList.take (i * ob.sz + off) ++ us ++ cur.toList.drop (i * ob.sz + off + us.length)).toArray) ho hf c1 (by simp; omega) rfl rfl rfl (by simp) (by simp; omega) hsz'
    (by
      simp only
      rw [hflat, ← hv.1]
      exact Lie.arr (by simpa using hsp))
    (by
      simp only
      rw [hflat]
      intro j x hx hox
      have := splice_keep (cur := cur.toList) (us := us) hv.1 (by omega) (by simp; omega) hx
      rcases this with h | ⟨h1, h2⟩
      · rw [hno x h] at hox; cases hox
      · exact ⟨h1, by simpa using h2⟩)
  exact ⟨_, hst, this⟩

theorem run_storeVar {t : TypeId} {sz : Nat} {u : Value} {a : Addr} {w' : World} (hsz : szT P t = some sz) (hu : u.cells.size = sz) (hst : (storeCells a u.cells.toList).run P w = .ok () w') :
    (Instr.storeAt t (.pointer (some a)) u).run P w = .ok () w' := by
  simp only [szT, Option.map_eq_some_iff] at hsz
  obtain ⟨i, hi, rfl⟩ := hsz
  simp [Instr.storeAt, Instr.sureAddr, storeVar, sizeOf, typeInfo, hi, hu, hst]

theorem op_store {u1 u2 : Value} {x v : PV} {sz : Nat} {s : Sem Next} (t : TypeId) (hsz : szT P t = some sz) (hh : HR w σ ι X) (hx : VR w σ ι X x u1) (hv : VR w σ ι X v u2)
    (hs : s = (do Instr.storeAt t u1 u2; pure .skip)) : EvOk P X s w σ ι (storeV σ sz x v) := by
  subst hs
  cases x with
  | ptr o ep i off =>
    simp only [storeV]
    split
    · rename_i ob hob
      split
      · rename_i hc
        obtain ⟨k1, k2, k3, k4, hall⟩ := hc
        split
        · rename_i e he
          obtain ⟨_, _, h2⟩ := hx.of_ptr
          obtain ⟨_, h4⟩ := h2 ob hob
          obtain ⟨_, rfl⟩ := h4 k1
          intro _
          obtain ⟨d1, d2⟩ := cells_of hv hall
          have hsz2 : u2.cells.size = sz := by have := d1.1; simp at this; omega
          obtain ⟨w', r1, r2, r3, r4⟩ := write_ok (P := P) hh hob k2 he d1 d2 (cell_noOwn fun x hx => List.all_eq_true.1 hall x hx) (off := off) (by omega)
          rw [k3] at r2 r4
          have hr := run_storeVar (P := P) (t := t) hsz hsz2 r1
          exact ⟨.skip, w', ι, undef, by simp [hr], .inr ⟨rfl, rfl⟩, r2, .im _ _ (.tup [] [] rfl (by simp)), r3, r4⟩
        · exact True.intro
      · exact True.intro
    · exact True.intro
  | _ => exact True.intro

/-! #### make -/
theorem madeCells_get {z : Array Value} {n j : Nat} (hj : j < n) : (madeCells z n)[j]? = some (z[j % z.size]!) := by
  simp [madeCells, hj]
theorem flat_rep {sz : Nat} {z : List PV} (hz : z.length = sz) (hp : 0 < sz) : ∀ {c j : Nat} {x : PV}, (List.replicate c z).flatten[j]? = some x → z[j % sz]? = some x ∧ j < c * sz
  | 0, j, x, h => by simp at h
  | c + 1, j, x, h => by
    rw [List.replicate_succ, List.flatten_cons] at h
    by_cases hj : j < z.length
    · rw [List.getElem?_append_left hj] at h
      rw [Nat.mod_eq_of_lt (by omega)]
      exact ⟨h, by rw [Nat.add_mul]; omega⟩
    · rw [List.getElem?_append_right (by omega)] at h
      obtain ⟨h1, h2⟩ := flat_rep hz hp h
      rw [hz] at h1 h2
      refine ⟨?_, by rw [Nat.add_mul]; omega⟩
      rw [Nat.mod_eq_sub_mod (show sz ≤ j by omega)]
      exact h1
theorem made_lie {z : List PV} {zs : Array Value} {c sz : Nat} (hv : VRs w σ ι X z zs.toList) (hz : z.length = sz) (hp : 0 < sz) : Lie w σ ι X (List.replicate c z).flatten (madeCells zs (c * sz)).toList := by
  intro j x hx
  obtain ⟨h1, h2⟩ := flat_rep hz hp hx
  obtain ⟨v, hv', hr⟩ := hv.get h1
  have hs : zs.size = sz := by have := hv.1; simp at this; omega
  refine ⟨v, ?_, hr⟩
  rw [Array.getElem?_toList, madeCells_get h2, hs]
  simp at hv'
  simp [getElem!_def, hv']

theorem op_mks {u1 u2 : Value} {len cap : PV} {ty : Nat} {z : List PV} {i : TypeInfo} {s : Sem Next} (t : TypeId) (ht : P.underlying t = some (.slice ty)) (hz : zeroT P ty = some z) (hi : P.info? ty = some i) (hzl : z.length = i.size)
    (hsp : 0 < i.size) (hby : 0 < i.bytes) (hh : HR w σ ι X) (hX : ∀ b, X b → b < w.heap.size) (hl : VR w σ ι X len u1) (hc : VR w σ ι X cap u2)
    (hs : s = (do pure (.value (← Instr.makeSlice t u1 u2)))) : EvOk P X s w σ ι (mksV σ ty i.size i.bytes z len cap) := by
  subst hs
  cases len with
  | int k l => cases cap with
    | int k' c =>
      rw [hl.of_int, hc.of_int]
      rintro ⟨h0, h1, h2, h3⟩
      obtain ⟨i', zv, hi', hzv, hr, _⟩ := zeroT_ok (w := w) (σ := σ) (ι := ι) (X := X) hz
      rw [hi] at hi'; cases hi'
      have hrun := run_make (P := P) w t ty i zv ht hi hzv k k' l c h0 h1 (by have : c * (i.bytes : Int) = (i.bytes : Int) * c := Int.mul_comm _ _; omega) h3
      obtain ⟨g1, g2, g3⟩ := hh.push (w' := w.alloc (.cells (madeCells zv.cells (c.toNat * i.size)) ty)) hX (madeCells zv.cells (c.toNat * i.size)) ⟨List.replicate c.toNat z, i.size, ty, true, false⟩ c.toNat (size_madeCells _ _)
        (by simp) (by simp only [maxLen]; omega) (fun e he => by rw [(List.mem_replicate.1 he).2]; exact hzl) (made_lie hr hzl hsp).arr (rep_noOwn (zero_noOwn hz)) rfl rfl rfl rfl
      refine ⟨.value (.slice (some ⟨w.heap.size, 0, none⟩) l.toNat c.toNat), _, _, _, by simp [hrun], .inl rfl, g1, ?_, g2, g3⟩
      refine .ref _ _ _ _ _ _ (by simp) ⟨_, _, rfl⟩ fun ob hob => ?_
      rw [List.getElem?_append_right (Nat.le_refl _), Nat.sub_self] at hob
      simp at hob
      subst hob
      refine ⟨by simp, fun _ => ⟨by omega, _, _, rfl, fun _ => by simp [putP], by omega, by simp [putP], fun h => by simp at h, fun k hk => ?_⟩⟩
      cases hk
      exact ⟨rfl, by omega, by omega⟩
    | _ => exact True.intro
  | _ => exact True.intro

/-! #### Slice literals -/
theorem bslGo_ok {sz : Nat} : ∀ (ps : List (Nat × PV)) (vs : List (Nat × Value)) (es : List (List PV)) (cells : Array Value) (es' : List (List PV)), ps.length = vs.length →
    (∀ (j : Nat) (p : Nat × PV) (v : Nat × Value), ps[j]? = some p → vs[j]? = some v → p.1 = v.1 ∧ VR w σ ι X p.2 v.2) → VRs w σ ι X es.flatten cells.toList → (∀ e, e ∈ es → e.length = sz) → (∀ x, x ∈ es.flatten → isOwn x = false) → bslGo sz es ps = some es' →
    ∃ cells', Instr.fill (fun i => some (i * sz, sz)) cells vs = some cells' ∧ VRs w σ ι X es'.flatten cells'.toList ∧ es'.length = es.length ∧ (∀ e, e ∈ es' → e.length = sz) ∧ ∀ x, x ∈ es'.flatten → isOwn x = false
  | [], [], es, cells, es', _, _, hv, hz, hno, h => by
    simp [bslGo] at h; subst h
    exact ⟨cells, rfl, hv, rfl, hz, hno⟩
  | [], v :: vs, es, cells, es', hl, _, _, _, _, _ => by simp at hl
  | p :: ps, [], es, cells, es', hl, _, _, _, _, _ => by simp at hl
  | (i, x) :: ps, (i', v) :: vs, es, cells, es', hl, hp, hv, hz, hno, h => by
    obtain ⟨h1, h2⟩ := hp 0 _ _ rfl rfl
    simp only at h1 h2
    subst h1
    simp only [bslGo] at h
    split at h
    · rename_i hc
      obtain ⟨k1, k2, hall⟩ := hc
      obtain ⟨d1, d2⟩ := cells_of h2 hall
      have hvs : v.cells.size = sz := by have := d1.1; simp at this; omega
      have hfl : es.flatten.length = es.length * sz := flat_len hz
      have hmul : (i + 1) * sz ≤ es.length * sz := Nat.mul_le_mul_right _ (by omega)
      rw [Nat.add_mul] at hmul
      have hcs : cells.size = es.flatten.length := by have := hv.1; simpa using this.symm
      have hset := set_whole (cs := cellsOf x) hz k2 k1
      rw [fill_step (v := v) rfl hvs (by omega)]
      obtain ⟨cells', r1, r4, r5, r6, r7⟩ := bslGo_ok ps vs (es.set i (cellsOf x)) (cells.toList.take (i * sz) ++ v.cells.toList ++ cells.toList.drop (i * sz + sz)).toArray es' (by simpa using hl) (fun j p v hj hj' => hp (j + 1) p v (by simpa using hj) (by simpa using hj')) (by
          rw [hset, k1]
          simpa using ((hv.take (i * sz)).append d1).append (hv.drop (i * sz + sz))) (fun e he => by
          rcases List.mem_or_eq_of_mem_set he with h | h
          · exact hz e h
          · rw [h]; exact k1) (fun y hy => by
          rw [hset] at hy
          simp only [List.mem_append] at hy
          rcases hy with (hy | hy) | hy
          · exact hno y (List.mem_of_mem_take hy)
          · exact cell_noOwn (fun x hx => List.all_eq_true.1 hall x hx) y hy
          · exact hno y (List.mem_of_mem_drop hy)) h
      exact ⟨cells', r1, r4, by rw [r5]; simp, r6, r7⟩
    · cases h

theorem op_bsl {ty sz n : Nat} {z : List PV} {ps : List (Nat × PV)} {vs : List (Nat × Value)} {s : Sem Next} (t : TypeId) (ht : P.underlying t = some (.slice ty)) (hz : zeroT P ty = some z) (hsz : szT P ty = some sz) (hn : n * sz ≤ 16777216)
    (hsp : 0 < sz) (hzl : z.length = sz) (hl : ps.length = vs.length) (hp : ∀ (j : Nat) (p : Nat × PV) (v : Nat × Value), ps[j]? = some p → vs[j]? = some v → p.1 = v.1 ∧ VR w σ ι X p.2 v.2)
    (hh : HR w σ ι X) (hX : ∀ b, X b → b < w.heap.size) (hs : s = (do pure (.value (← Instr.buildSlice t n vs.toArray)))) : EvOk P X s w σ ι (bslV σ ty sz n z ps) := by
  subst hs
  unfold bslV
  split
  · rename_i es hgo
    intro _
    obtain ⟨i, zv, hi, hzv, hr, _⟩ := zeroT_ok (w := w) (σ := σ) (ι := ι) (X := X) hz
    have his : i.size = sz := by simp only [szT, hi, Option.map_some, Option.some.injEq] at hsz; exact hsz
    have hzs : zv.cells.size = sz := by have := hr.1; simp at this; omega
    have hlie := made_lie (c := n) hr hzl hsp
    have hfl : (List.replicate n z).flatten.length = n * sz := by rw [flat_len (sz := sz) (fun e he => by rw [(List.mem_replicate.1 he).2]; exact hzl)]; simp
    have hvz : VRs w σ ι X (List.replicate n z).flatten (madeCells zv.cells (n * sz)).toList := ⟨by rw [hfl]; simp [size_madeCells], fun j x v hx hv => by
      obtain ⟨v', hv', hr'⟩ := hlie j x hx
      rw [hv] at hv'; cases hv'; exact hr'⟩
    obtain ⟨cells', r1, r4, r5, r6, r7⟩ := bslGo_ok ps vs _ _ es hl hp hvz (fun e he => by rw [(List.mem_replicate.1 he).2]; exact hzl) (rep_noOwn (zero_noOwn hz)) hgo
    have hen : es.length = n := by rw [r5]; simp
    have hcs : cells'.size = n * sz := by have := r4.1; rw [flat_len r6, hen] at this; simpa using this.symm
    have hrun : (Instr.buildSlice t n vs.toArray).run P w = .ok (.slice (some ⟨w.heap.size, 0, none⟩) n n) (w.alloc (.cells cells' ty)) := by
      by_cases h0 : n * sz = 0
      · have hn0 : n = 0 := by rcases Nat.mul_eq_zero.1 h0 with h | h; exact h; omega
        subst hn0
        have hm : madeCells zv.cells (0 * sz) = #[] := by simp [madeCells]
        rw [hm] at r1
        have hr0 : ∀ (f : Nat → Value), Array.map f (Array.range 0) = #[] := fun f => by simp [Array.range_zero']
        simp [Instr.buildSlice, run_underlying ht, sizeOf, typeInfo, hi, his, hr0, r1, newRow]
      · exact run_buildSlice (P := P) w t ty n vs.toArray cells' i zv ht hi hzv (by rw [his]; omega) (by rw [his]; exact h0) (by rw [his]; exact r1)
    obtain ⟨g1, g2, g3⟩ := hh.push (w' := w.alloc (.cells cells' ty)) hX cells' ⟨es, sz, ty, true, false⟩ n hcs (by simp [hen]) (by
      simp only [maxLen]
      have : n * 1 ≤ n * sz := Nat.mul_le_mul_left _ hsp
      omega) r6 (Lie.of_vrs r4).arr r7 rfl rfl rfl rfl
    refine ⟨.value (.slice (some ⟨w.heap.size, 0, none⟩) n n), _, _, _, by simp [hrun], .inl rfl, g1, ?_, g2, g3⟩
    refine .ref _ _ _ _ _ _ (by simp) ⟨_, _, rfl⟩ fun ob hob => ?_
    rw [List.getElem?_append_right (Nat.le_refl _), Nat.sub_self] at hob
    simp at hob
    subst hob
    refine ⟨by simp [hen], fun _ => ⟨by omega, _, _, rfl, fun _ => by simp [putP], Nat.le_refl _, by simp [putP], fun _ => by simp [putP], fun k hk => by cases hk⟩⟩
  · exact True.intro
end ops
end Go.Mach

/- append; equality of structs. -/
namespace Go.Mach
open Go
set_option linter.unusedVariables false
set_option linter.unusedSimpArgs false

section ops
variable {P : Program} {X : Nat → Prop} {w : World} {ι : Place} {σ : Heap}

/-- The cells that a slice shows, where it shows some. -/
theorem elems_ok {y : PV} {u : Value} {ys : List (List PV)} (hh : HR w σ ι X) (hy : VR w σ ι X y u) (he : elems σ y = some ys) {sz : Nat} (hz : ∀ e, e ∈ ys → okE sz e = true) :
    ∃ A c, u = .slice A ys.length c ∧ (0 < ys.length → ∃ (a : Addr) (news : List Value), A = some a ∧ (∀ (j : Nat) (v : Value), news[j]? = some v → w.cell? (a.add j) = some v) ∧ VRs w σ ι X ys.flatten news ∧ ∀ v, v ∈ news → v.oneCell' = true) := by
  have hone : ∀ {news : List Value}, VRs w σ ι X ys.flatten news → ∀ v, v ∈ news → v.oneCell' = true := by
    intro news hv v hm
    obtain ⟨j, hj⟩ := List.getElem?_of_mem hm
    have hlt : j < ys.flatten.length := by rw [hv.1]; exact (List.getElem?_eq_some_iff.1 hj).1
    have hx := List.getElem?_eq_getElem hlt
    refine (cell_one (hv.2 j _ v hx hj) ?_).2
    obtain ⟨e, he, hxe⟩ := List.mem_flatten.1 (List.mem_of_getElem? hx)
    have := hz e he
    simp only [okE, Bool.and_eq_true] at this
    exact List.all_eq_true.1 this.2 _ hxe
  cases y with
  | imm es sp lim =>
    simp [elems] at he
    subst he
    have hm := hy.of_imm
    cases hm with
    | imm _ _ _ A a c sz' vs hc1 hc2 hl hA ho hz' hc hr =>
      refine ⟨A, c, rfl, fun hp => ?_⟩
      have hfl : ∀ (j : Nat) (x : PV), es.flatten[j]? = some x → (es ++ sp).flatten[j]? = some x := by
        intro j x hj
        rw [List.flatten_append, List.getElem?_append_left (List.getElem?_eq_some_iff.1 hj).1]; exact hj
      have hv : VRs w σ ι X es.flatten ((List.range es.flatten.length).map vs) := ⟨by simp, fun j x v hx hv => by
        have hj := (List.getElem?_eq_some_iff.1 hx).1
        rw [List.getElem?_map, List.getElem?_range hj] at hv
        simp at hv
        subst hv
        exact .im _ _ (hr j x (hfl j x hx))⟩
      refine ⟨a, _, hA (by simp; omega), fun j v hv => ?_, hv, hone hv⟩
      simp only [List.getElem?_map, Option.map_eq_some_iff] at hv
      obtain ⟨j', hj', rfl⟩ := hv
      have hlt : j < es.flatten.length := by
        rcases Nat.lt_or_ge j es.flatten.length with h | h
        · exact h
        · rw [List.getElem?_eq_none (by simpa using h)] at hj'; cases hj'
      have : j' = j := by rw [List.getElem?_range hlt] at hj'; cases hj'; rfl
      subst this
      exact hc j' _ (hfl j' _ (List.getElem?_eq_getElem hlt))
  | ref o ep lo len cap =>
    obtain ⟨h1, ⟨A0, c0, hu⟩, h2⟩ := hy.of_ref
    simp only [elems] at he
    split at he
    · rename_i ob hob
      split at he
      · rename_i hep
        cases he
        obtain ⟨_, h3⟩ := h2 ob hob
        obtain ⟨h4, A, c, rfl, h5, h6, h7, _⟩ := h3 hep
        have hlen : ((ob.es.take (lo + len)).drop lo).length = len := by simp; omega
        obtain ⟨cur, c1, c2, c3, c4, c5, c6⟩ := hh.obj o ob hob
        refine ⟨A, c, by rw [hlen], fun hp => ?_⟩
        rw [hlen] at hp
        have hflat : ((ob.es.take (lo + len)).drop lo).flatten = (ob.es.flatten.take ((lo + len) * ob.sz)).drop (lo * ob.sz) := by
          rw [flat_drop lo (fun e he => c5 e (List.mem_of_mem_take he)), flat_take (lo + len) c5]
        have hcell : ∀ (j : Nat) (x : PV), ((ob.es.take (lo + len)).drop lo).flatten[j]? = some x → ∃ v : Value, cur[lo * ob.sz + j]? = some v ∧ VR w σ ι X x v := by
          intro j x hj
          rw [hflat, List.getElem?_drop, List.getElem?_take] at hj
          split at hj
          · obtain ⟨v, hv, hr⟩ := c6 _ x hj
            exact ⟨v, hv, hr.1⟩
          · cases hj
        have hv : VRs w σ ι X ((ob.es.take (lo + len)).drop lo).flatten ((List.range ((ob.es.take (lo + len)).drop lo).flatten.length).map fun j => cur.getD (lo * ob.sz + j) undef) := ⟨by simp, fun j x v hx hv => by
          have hj := (List.getElem?_eq_some_iff.1 hx).1
          obtain ⟨u, hu', hr⟩ := hcell j x hx
          rw [List.getElem?_map, List.getElem?_range hj] at hv
          simp [Array.getD_eq_getD_getElem?, hu'] at hv
          subst hv
          exact hr⟩
        refine ⟨_, _, h5 (by omega), fun j v hv' => ?_, hv, hone hv⟩
        simp only [List.getElem?_map, Option.map_eq_some_iff] at hv'
        obtain ⟨j', hj', rfl⟩ := hv'
        have hlt : j < ((ob.es.take (lo + len)).drop lo).flatten.length := by
          rcases Nat.lt_or_ge j ((ob.es.take (lo + len)).drop lo).flatten.length with h | h
          · exact h
          · rw [List.getElem?_eq_none (by simpa using h)] at hj'; cases hj'
        have : j' = j := by rw [List.getElem?_range hlt] at hj'; cases hj'; rfl
        subst this
        obtain ⟨u, hu', _⟩ := hcell j' _ (List.getElem?_eq_getElem hlt)
        rw [Addr.add_mid, cell_of_row w _ _ cur ob.ty (0, 0) c1, hu']
        simp [Array.getD_eq_getD_getElem?, hu']
      · cases he
    · cases he
  | _ => simp [elems] at he

/-- append where there is no room: a new block. -/
theorem run_grow {t ty e : TypeId} {i : TypeInfo} {z : Value} (ht : P.underlying t = some (.slice e)) (hi : P.info? e = some i) (hz : i.zero = some z) (hzs : z.cells.size = i.size)
    {A : Option Addr} {n c m c' : Nat} {a : Addr} {olds news : List Value} (hlo : olds.length = n * i.size) (holds : 0 < n → ∃ b, A = some b ∧ ∀ (j : Nat) (v : Value), olds[j]? = some v → w.cell? (b.add j) = some v)
    (hl : news.length = m * i.size) (hnews : ∀ (j : Nat) (v : Value), news[j]? = some v → w.cell? (a.add j) = some v) (hnc : n ≤ c) (hg : c < n + m) (hb : (n + m) * i.bytes ≤ 140737488355328) (hby : 0 < i.bytes) :
    ∃ k, (Builtin.append_ #[t, t] ty #[.slice A n c, .slice (some a) m c']).run P w = .ok (.slice (some ⟨w.heap.size, 0, none⟩) (n + m) k)
        (w.drew.alloc (.cells (olds.toArray ++ news.toArray ++ Builtin.zeroCells z.cells (k - (n + m))) e)) ∧ n + m ≤ k ∧ k ≤ maxLen := by
  have hnm : n + m ≤ 140737488355328 := by
    have : (n + m) * 1 ≤ (n + m) * i.bytes := Nat.mul_le_mul_left _ hby
    omega
  refine ⟨grownCap w (n + m) c e, ?_, grownCap_ge w (n + m) c e, grownCap_le_maxLen w (n + m) c e (by simp only [maxLen]; omega)⟩
  have h1 : ¬ (n + m ≤ c) := by omega
  have h63' : ¬ (9223372036854775807 < ((n : Int) + (m : Int))) := by omega
  have h48' : ¬ (281474976710656 < Builtin.nextslicecap (n + m) c * i.bytes) := by have := growslice_fits (old := c) (by omega) hb; omega
  have hf := run_firstCells_some (P := P) w.drew i.size m a m c' news hl (by simpa using hnews)
  have hfo : (Builtin.firstCells i.size n (.slice A n c)).run P w.drew = .ok olds.toArray w.drew := by
    cases A with
    | none =>
      have hn0 : n = 0 := by
        rcases Nat.eq_zero_or_pos n with h | h
        · exact h
        · obtain ⟨b, hb, _⟩ := holds h; cases hb
      subst hn0
      have : olds = [] := List.eq_nil_of_length_eq_zero (by simpa using hlo)
      subst this
      exact run_firstCells_none (P := P) w.drew i.size 0 0 c
    | some b =>
      refine run_firstCells_some (P := P) w.drew i.size n b n c olds hlo fun j v hv => ?_
      have hp : 0 < n := by
        rcases Nat.eq_zero_or_pos n with h | h
        · subst h
          have : olds = [] := List.eq_nil_of_length_eq_zero (by simpa using hlo)
          subst this; simp at hv
        · exact h
      obtain ⟨b', hb', hc⟩ := holds hp
      cases hb'
      simpa using hc j v hv
  simp [Builtin.append_, run_underlying ht, sizeOf, typeInfo, zeroValue, hi, hz, Builtin.lenOf, h1, h63', h48', Question.forced, hf, hfo, newRow, grownCap]
  congr 2
  apply Array.ext'
  simp [List.append_assoc]

/-- append of nothing. -/
theorem run_app0 {t ty e : TypeId} {i : TypeInfo} (ht : P.underlying t = some (.slice e)) (hi : P.info? e = some i) {A A' : Option Addr} {n c c' : Nat} (hnc : n ≤ c) :
    (Builtin.append_ #[t, t] ty #[.slice A n c, .slice A' 0 c']).run P w = .ok (.slice A n c) w := by
  cases A <;> cases A' <;> simp [Builtin.append_, run_underlying ht, sizeOf, typeInfo, hi, Builtin.lenOf, Builtin.firstCells, hnc, loadCells, loadCellsFrom, storeCells]

theorem zeros_size (z : Array Value) (n : Nat) : (Builtin.zeroCells z n).size = n * z.size := by simp [Builtin.zeroCells]

theorem Lie.pre {L : List PV} {cur rest : List Value} (h : VRs w σ ι X L cur) : Lie w σ ι X L (cur ++ rest) := fun j x hx => by
  obtain ⟨v, hv, hr⟩ := h.get hx
  exact ⟨v, by rw [List.getElem?_append_left (List.getElem?_eq_some_iff.1 hv).1]; exact hv, hr⟩

theorem okE_len {sz : Nat} {e : List PV} (h : okE sz e = true) : e.length = sz := by simp only [okE, Bool.and_eq_true, beq_iff_eq] at h; exact h.1

theorem okE_noOwn {sz : Nat} {es : List (List PV)} (h : ∀ e, e ∈ es → okE sz e = true) : ∀ x, x ∈ es.flatten → isOwn x = false := by
  intro x hx
  obtain ⟨e, he, hxe⟩ := List.mem_flatten.1 hx
  have := h e he
  simp only [okE, Bool.and_eq_true] at this
  exact cell_noOwn (fun x hx => List.all_eq_true.1 this.2 x hx) x hxe
theorem appE_flat {sz : Nat} {es ys : List (List PV)} {len : Nat} (hz : ∀ e, e ∈ es → e.length = sz) (hy : ∀ e, e ∈ ys → e.length = sz) (hl : len ≤ es.length) :
    (appE es len ys).flatten = es.flatten.take (len * sz) ++ ys.flatten ++ es.flatten.drop (len * sz + ys.flatten.length) := by
  have hfl : es.flatten.length = es.length * sz := flat_len hz
  unfold appE
  split
  · rename_i h
    subst h
    rw [List.flatten_append, List.take_of_length_le (by omega), List.drop_of_length_le (by omega), List.append_nil]
  · rw [List.flatten_append, List.flatten_append, flat_take len hz, flat_drop (len + ys.length) hz, flat_len hy, Nat.add_mul]
theorem appE_len {es ys : List (List PV)} {len : Nat} (hl : len ≤ es.length) : (appE es len ys).length = if len = es.length then es.length + ys.length else max es.length (len + ys.length) := by
  unfold appE
  split
  · simp
  · simp; omega
theorem appE_nil {es : List (List PV)} {len : Nat} : appE es len [] = es := by
  unfold appE
  split <;> simp
theorem appE_mem {es ys : List (List PV)} {len : Nat} {e : List PV} (h : e ∈ appE es len ys) : e ∈ es ∨ e ∈ ys := by
  unfold appE at h
  split at h
  · exact List.mem_append.1 h
  · simp only [List.mem_append] at h
    rcases h with (h | h) | h
    · exact .inl (List.mem_of_mem_take h)
    · exact .inr h
    · exact .inl (List.mem_of_mem_drop h)
/-- The cells behind an append. -/
theorem app_lie {L ysf : List PV} {cur news rest : List Value} {k : Nat} (h : Lie w σ ι X L cur) (hv : VRs w σ ι X ysf news) (hk : k ≤ L.length) (hr : ∀ j, k + ysf.length + j < L.length → rest[j]? = cur[k + ysf.length + j]?) :
    Lie w σ ι X (L.take k ++ ysf ++ L.drop (k + ysf.length)) (cur.take k ++ news ++ rest) ∧
    ((∀ x, x ∈ ysf → isOwn x = false) → ∀ (j : Nat) (x : PV), (L.take k ++ ysf ++ L.drop (k + ysf.length))[j]? = some x → isOwn x = true → L[j]? = some x ∧ (cur.take k ++ news ++ rest)[j]? = cur[j]?) := by
  have hcur : L.length ≤ cur.length := by
    rcases Nat.eq_zero_or_pos L.length with h0 | h0
    · omega
    · obtain ⟨v, hv', _⟩ := h (L.length - 1) _ (List.getElem?_eq_getElem (show L.length - 1 < L.length by omega))
      have := (List.getElem?_eq_some_iff.1 hv').1; omega
  have e1 : (L.take k).length = k := by simp; omega
  have e2 : (cur.take k).length = k := by simp; omega
  have key : ∀ (j : Nat) (x : PV), (L.take k ++ ysf ++ L.drop (k + ysf.length))[j]? = some x → (∃ v, news[j - k]? = some v ∧ (cur.take k ++ news ++ rest)[j]? = some v ∧ x ∈ ysf ∧ VR w σ ι X x v) ∨ (L[j]? = some x ∧ (cur.take k ++ news ++ rest)[j]? = cur[j]?) := by
    intro j x hx
    by_cases hj : j < k
    · rw [List.append_assoc, List.getElem?_append_left (by omega), List.getElem?_take, if_pos hj] at hx
      exact .inr ⟨hx, by rw [List.append_assoc, List.getElem?_append_left (by omega), List.getElem?_take, if_pos hj]⟩
    · by_cases hj2 : j < k + ysf.length
      · rw [List.append_assoc, List.getElem?_append_right (by omega), List.getElem?_append_left (by omega), e1] at hx
        obtain ⟨v, h1, h2⟩ := hv.get hx
        refine .inl ⟨v, h1, ?_, List.mem_of_getElem? hx, h2⟩
        rw [List.append_assoc, List.getElem?_append_right (by omega), List.getElem?_append_left (by rw [← hv.1]; omega), e2]
        exact h1
      · rw [List.append_assoc, List.getElem?_append_right (by omega), List.getElem?_append_right (by omega), e1, List.getElem?_drop] at hx
        have hlt := (List.getElem?_eq_some_iff.1 hx).1
        refine .inr ⟨by rw [← hx]; congr 1; omega, ?_⟩
        rw [List.append_assoc, List.getElem?_append_right (by omega), List.getElem?_append_right (by rw [← hv.1]; omega), e2, ← hv.1, hr _ (by omega)]
        congr 1; omega
  refine ⟨fun j x hx => ?_, fun hno j x hx hox => ?_⟩
  · rcases key j x hx with ⟨v, _, h2, _, h3⟩ | ⟨h1, h2⟩
    · exact ⟨v, h2, h3⟩
    · obtain ⟨v, g1, g2⟩ := h j x h1
      exact ⟨v, h2.trans g1, g2⟩
  · rcases key j x hx with ⟨v, _, h2, h4, h3⟩ | h
    · rw [hno x h4] at hox; cases hox
    · exact h

/-- append where the slice's room is known to be too small. -/
theorem app_new {t ty e : TypeId} {i : TypeInfo} {z : Value} (ht : P.underlying t = some (.slice e)) (hi : P.info? e = some i) (hz : i.zero = some z) (hzs : z.cells.size = i.size) (hsp : 0 < i.size) (hby : 0 < i.bytes)
    {A : Option Addr} {c : Nat} {old ys : List (List PV)} {y : PV} {u2 : Value} (hh : HR w σ ι X) (hX : ∀ b, X b → b < w.heap.size) (hy : VR w σ ι X y u2) (he : elems σ y = some ys) (hys : 0 < ys.length)
    (hold : ∃ olds : List Value, VRs w σ ι X old.flatten olds ∧ (0 < old.length → ∃ b, A = some b ∧ ∀ (j : Nat) (v : Value), olds[j]? = some v → w.cell? (b.add j) = some v)) (hnc : old.length ≤ c) (hg : c < old.length + ys.length) {s : Sem Next}
    (hs : s = (do pure (.value (← Builtin.append_ #[t, t] ty #[.slice A old.length c, u2])))) : EvOk P X s w σ ι (appNew σ e i.size i.bytes old ys) := by
  subst hs
  rintro ⟨hb, ho, hyz⟩
  obtain ⟨A', c', rfl, h1⟩ := elems_ok hh hy he hyz
  obtain ⟨a, news, rfl, h2, h3, h4⟩ := h1 hys
  obtain ⟨olds, o1, o2⟩ := hold
  have hoz : ∀ e, e ∈ old → e.length = i.size := fun e he => okE_len (ho e he)
  have hlo : olds.length = old.length * i.size := by rw [← o1.1]; exact flat_len hoz
  have hln : news.length = ys.length * i.size := by rw [← h3.1]; exact flat_len fun e he => okE_len (hyz e he)
  obtain ⟨k, hr, hk1, hk2⟩ := run_grow (P := P) (ty := ty) (w := w) (c' := c') ht hi hz hzs hlo o2 hln h2 hnc hg hb hby
  have hcur : (olds.toArray ++ news.toArray ++ Builtin.zeroCells z.cells (k - (old.length + ys.length))).size = k * i.size := by
    simp only [Array.size_append, List.size_toArray, zeros_size, hlo, hln, hzs, ← Nat.add_mul]
    congr 1; omega
  obtain ⟨g1, g2, g3⟩ := hh.push (w' := w.drew.alloc (.cells (olds.toArray ++ news.toArray ++ Builtin.zeroCells z.cells (k - (old.length + ys.length))) e)) hX _ ⟨old ++ ys, i.size, e, true, false⟩ k hcur (by simp; exact hk1) hk2
    (fun e he => by
      rcases List.mem_append.1 he with h | h
      · exact hoz e h
      · exact okE_len (hyz e h)) (by
      simp only [List.flatten_append]
      have := Lie.pre (rest := (Builtin.zeroCells z.cells (k - (old.length + ys.length))).toList) (o1.append h3)
      exact Lie.arr (by simpa using this)) (okE_noOwn (sz := i.size) fun e he => by
      rcases List.mem_append.1 he with h | h
      · exact ho e h
      · exact hyz e h) rfl rfl rfl rfl
  refine ⟨_, _, _, _, by simp only [Sem.run_bind, hr, Result.andThen_ok, Sem.run_pure]; rfl, .inl rfl, g1, ?_, g2, g3⟩
  have hsl : (old ++ ys).length = old.length + ys.length := by simp
  rw [hsl]
  refine .ref _ _ _ _ _ _ (by simp) ⟨_, _, rfl⟩ fun ob hob => ?_
  rw [List.getElem?_append_right (Nat.le_refl _), Nat.sub_self] at hob
  simp at hob
  subst hob
  exact ⟨by simp, fun _ => ⟨by omega, _, _, rfl, fun _ => by simp [putP], hk1, by simp [putP], fun _ => by simp [putP], fun k' h => by cases h⟩⟩

theorem op_app {u1 u2 : Value} {x y : PV} {s : Sem Next} (t ty e : TypeId) (i : TypeInfo) (z : Value) (ht : P.underlying t = some (.slice e)) (hi : P.info? e = some i) (hz : i.zero = some z) (hzs : z.cells.size = i.size) (hsp : 0 < i.size) (hby : 0 < i.bytes)
    (hh : HR w σ ι X) (hX : ∀ b, X b → b < w.heap.size) (hx : VR w σ ι X x u1) (hy : VR w σ ι X y u2) (hs : s = (do pure (.value (← Builtin.append_ #[t, t] ty #[u1, u2])))) : EvOk P X s w σ ι (appV σ e i.size i.bytes x y) := by
  subst hs
  unfold appV
  split
  · exact True.intro
  · rename_i ys he
    have h0 : ys = [] → ∃ A' c', u2 = .slice A' 0 c' := by
      rintro rfl
      obtain ⟨A, c, h, _⟩ := elems_ok (sz := 0) hh hy he (by simp)
      exact ⟨A, c, by simpa using h⟩
    cases x with
    | imm es sp lim =>
      have hm := hx.of_imm
      simp only
      split
      · obtain ⟨A', c', rfl⟩ := h0 rfl
        cases hm with
        | imm _ _ _ A a c sz vs hc1 hc2 hl hA ho hz' hc hr =>
          exact Did.val hh (by simp only [Sem.run_bind, run_app0 (P := P) (ty := ty) (w := w) ht hi (show es.length ≤ c by omega), Result.andThen_ok, Sem.run_pure]) hx
      · rename_i y0 ys0
        split
        · rename_i hc2
          obtain ⟨hlim, rfl⟩ := hc2
          cases hm with
          | imm _ _ _ A a c sz vs hc1 hc2 hl hA ho hz' hc hr =>
            have hce : c = es.length := by have := hl hlim; simpa using this
            subst hce
            refine app_new (P := P) ht hi hz hzs hsp hby hh hX hy he (by simp) ⟨(List.range es.flatten.length).map vs, ⟨by simp, fun j x v hx hv => ?_⟩, fun hp => ⟨a, hA (by simpa using hp), fun j v hv => ?_⟩⟩ (Nat.le_refl _) (by simp) rfl
            · have hj := (List.getElem?_eq_some_iff.1 hx).1
              rw [List.getElem?_map, List.getElem?_range hj] at hv
              simp at hv
              subst hv
              exact .im _ _ (hr j x (by simpa using hx))
            · simp only [List.getElem?_map, Option.map_eq_some_iff] at hv
              obtain ⟨j', hj', rfl⟩ := hv
              have hlt : j < es.flatten.length := by
                rcases Nat.lt_or_ge j es.flatten.length with h | h
                · exact h
                · rw [List.getElem?_eq_none (by simpa using h)] at hj'; cases hj'
              have : j' = j := by rw [List.getElem?_range hlt] at hj'; cases hj'; rfl
              subst this
              exact hc j' es.flatten[j'] (by simp)
        · exact True.intro
    | ref o ep lo len cap =>
      obtain ⟨g1, _, g2⟩ := hx.of_ref
      simp only
      split
      · rename_i ob hob
        split
        · rename_i hc
          obtain ⟨k1, k2, k3⟩ := hc
          obtain ⟨_, g3⟩ := g2 ob hob
          obtain ⟨g4, A, c, rfl, g5, g6, g7, g8, g9⟩ := g3 k1
          obtain ⟨cur, c1, c2, c3, c4, c5, c6⟩ := hh.obj o ob hob
          split
          · split
            · rename_i hcc
              obtain ⟨rfl, hfz, harr⟩ := hcc
              rintro ⟨hb, hyz⟩
              have hlen : len ≤ ob.es.length := by omega
              have hcap : c = (ι o).2 := by have := g8 rfl; simpa using this
              rcases Nat.eq_zero_or_pos ys.length with hy0 | hyp
              · have : ys = [] := List.eq_nil_of_length_eq_zero hy0
                subst this
                obtain ⟨A', c', rfl⟩ := h0 rfl
                have hr := run_app0 (P := P) (ty := ty) (w := w) (A := A) (A' := A') (c' := c') ht hi g6
                have hob2 : σ.set o (some { ob with es := appE ob.es len [] }) = σ := by
                  rw [appE_nil]
                  apply List.ext_getElem?
                  intro p
                  rw [set_get]
                  split
                  · rename_i e; subst e; rw [if_pos g1, hob]
                  · rfl
                rw [hob2]
                have hep : (if len = ep then ep + ([] : List (List PV)).length else max ep (len + ([] : List (List PV)).length)) = ep := by
                  simp only [List.length_nil, Nat.add_zero]; split <;> omega
                rw [hep]
                simp only [List.length_nil, Nat.add_zero]
                exact Did.val hh (by simp only [Sem.run_bind, hr, Result.andThen_ok, Sem.run_pure]) hx
              · obtain ⟨A', c', rfl, h1⟩ := elems_ok hh hy he hyz
                obtain ⟨a, news, rfl, h2, h3, h4⟩ := h1 hyp
                have hyl : ∀ e, e ∈ ys → e.length = i.size := fun e he => okE_len (hyz e he)
                have hln : news.length = ys.length * i.size := by rw [← h3.1]; exact flat_len hyl
                have hysf : ys.flatten.length = ys.length * i.size := flat_len hyl
                have hlie : Lie w σ ι X ob.es.flatten cur.toList := fun j x hx => by
                  obtain ⟨v, hv', hr⟩ := c6 j x hx
                  exact ⟨v, by simpa using hv', hr.1⟩
                have hfl : ob.es.flatten.length = ob.es.length * i.size := by rw [flat_len c5, k2]
                have hcz : cur.size = c * i.size := by rw [c2, k2, hcap]
                have hmul : len * i.size ≤ ob.es.length * i.size := Nat.mul_le_mul_right _ hlen
                have hmul1 : ob.es.length * i.size ≤ c * i.size := Nat.mul_le_mul_right _ (by omega)
                have hflat : (appE ob.es len ys).flatten = ob.es.flatten.take (len * i.size) ++ ys.flatten ++ ob.es.flatten.drop (len * i.size + ys.flatten.length) := appE_flat (fun e he => by rw [← k2]; exact c5 e he) hyl hlen
                have hal := appE_len (ys := ys) hlen
                rw [k1] at hal
                have hsz' : ∀ e, e ∈ appE ob.es len ys → e.length = ob.sz := by
                  intro e he'
                  rcases appE_mem he' with h | h
                  · exact c5 e h
                  · rw [k2]; exact hyl e h
                have hyno := okE_noOwn hyz
                have hge : ep ≤ (if len = ep then ep + ys.length else max ep (len + ys.length)) ∧ len + ys.length ≤ (if len = ep then ep + ys.length else max ep (len + ys.length)) := by split <;> omega
                by_cases hroom : len + ys.length ≤ c
                · have hA : A = some ⟨(ι o).1, 0, none⟩ := by have := g5 (by omega); simpa using this
                  subst hA
                  have hmul2 : (len + ys.length) * i.size ≤ c * i.size := Nat.mul_le_mul_right _ hroom
                  rw [Nat.add_mul] at hmul2
                  rw [k3] at c1
                  have hr := run_append_room (P := P) w t ty e i ht hi (ι o).1 len c cur c1 a ys.length c' news hln h2 h4 hroom (by omega)
                  obtain ⟨l1, l2⟩ := app_lie (k := len * i.size) (rest := cur.toList.drop (len * i.size + news.length)) hlie h3 (by omega) (fun j hj => by rw [List.getElem?_drop, hln, hysf])
                  have hwr := hh.write (ob' := { ob with es := appE ob.es len ys }) (cur' := (cur.toList.take (len * i.size) ++ news ++ cur.toList.drop (len * i.size + news.length)).toArray) hob hfz (by rw [k3]; exact c1) (by simp; omega) rfl rfl rfl
                    (by simp only [hal]; omega) (by simp only [hal]; split <;> omega) hsz' (by
                      simp only [hflat]
                      exact Lie.arr (by simpa using l1)) (by
                      simp only [hflat]
                      intro j x hx hox
                      have := l2 hyno j x hx hox
                      exact ⟨this.1, by simpa using this.2⟩)
                  obtain ⟨w1, w2, w3⟩ := hwr
                  refine ⟨_, _, ι, _, by simp only [Sem.run_bind, hr, Result.andThen_ok, Sem.run_pure]; rfl, .inl rfl, w1, ?_, w2, w3⟩
                  refine .ref _ _ _ _ _ _ (by simpa using g1) ⟨_, _, rfl⟩ fun ob' hob' => ?_
                  rw [set_get, if_pos rfl, if_pos g1] at hob'
                  cases hob'
                  exact ⟨by simp only [hal]; omega, fun _ => ⟨by omega, _, _, rfl, fun _ => by simp, hroom, by omega, fun _ => by omega, fun k' h => by cases h⟩⟩
                · have holds : 0 < len → ∃ b, A = some b ∧ ∀ (j : Nat) (v : Value), (cur.toList.take (len * i.size))[j]? = some v → w.cell? (b.add j) = some v := by
                    intro hp
                    refine ⟨⟨(ι o).1, 0, none⟩, by have := g5 (by omega); simpa using this, fun j v hv => ?_⟩
                    rw [List.getElem?_take] at hv
                    split at hv
                    · rw [Addr.add_mid, cell_of_row w _ _ cur ob.ty (0, 0) c1]; simpa using hv
                    · cases hv
                  obtain ⟨k, hr, hk1, hk2⟩ := run_grow (P := P) (ty := ty) (w := w) (c' := c') ht hi hz hzs (olds := cur.toList.take (len * i.size)) (by simp; omega) holds hln h2 g6 (by omega) hb hby
                  have hcur : ((cur.toList.take (len * i.size)).toArray ++ news.toArray ++ Builtin.zeroCells z.cells (k - (len + ys.length))).size = k * i.size := by
                    simp only [Array.size_append, List.size_toArray, zeros_size, hln, hzs, List.length_take, Array.length_toList]
                    rw [Nat.min_eq_left (by omega), ← Nat.add_mul, ← Nat.add_mul]
                    congr 1; omega
                  have hmul3 : ob.es.length * i.size ≤ (len + ys.length) * i.size := Nat.mul_le_mul_right _ (by omega)
                  rw [Nat.add_mul] at hmul3
                  obtain ⟨l1, l2⟩ := app_lie (k := len * i.size) (rest := (Builtin.zeroCells z.cells (k - (len + ys.length))).toList) hlie h3 (by omega) (fun j hj => by omega)
                  have hal2 : (appE ob.es len ys).length = len + ys.length := by rw [hal]; split <;> omega
                  obtain ⟨w1, w2, w3⟩ := hh.move (w' := w.drew.alloc (.cells ((cur.toList.take (len * i.size)).toArray ++ news.toArray ++ Builtin.zeroCells z.cells (k - (len + ys.length))) e)) hX (ob' := { ob with es := appE ob.es len ys }) hob hfz c1 _ k
                    (by simp only [k2]; exact hcur) rfl rfl rfl (by simp only [hal2]; omega) (by simp only [hal2]; exact hk1) hk2 hsz' (by
                      simp only [hflat]
                      exact Lie.arr (by simpa using l1)) (by
                      simp only [hflat]
                      intro j x hx hox
                      have := l2 hyno j x hx hox
                      exact ⟨this.1, by rw [← Array.getElem?_toList, ← Array.getElem?_toList (xs := cur)]; simp only [Array.toList_append]; exact this.2⟩) (by simp only [k3]; rfl) rfl rfl rfl
                  refine ⟨_, _, _, _, by simp only [Sem.run_bind, hr, Result.andThen_ok, Sem.run_pure]; rfl, .inl rfl, w1, ?_, w2, w3⟩
                  refine .ref _ _ _ _ _ _ (by simpa using g1) ⟨_, _, rfl⟩ fun ob' hob' => ?_
                  rw [set_get, if_pos rfl, if_pos g1] at hob'
                  cases hob'
                  exact ⟨by simp only [hal]; omega, fun _ => ⟨by omega, _, _, rfl, fun _ => by simp [putP], hk1, by simp [putP], fun _ => by simp [putP], fun k' h => by cases h⟩⟩
            · exact True.intro
          · rename_i k
            obtain ⟨q1, q2, q3⟩ := g9 k rfl
            split
            · obtain ⟨A', c', rfl⟩ := h0 rfl
              exact Did.val hh (by simp only [Sem.run_bind, run_app0 (P := P) (ty := ty) (w := w) ht hi g6, Result.andThen_ok, Sem.run_pure]) hx
            · rename_i y0 ys0
              split
              · rename_i hlt
                have hlen : ((ob.es.take (lo + len)).drop lo).length = len := by simp; omega
                have hflat : ((ob.es.take (lo + len)).drop lo).flatten = (ob.es.flatten.take ((lo + len) * ob.sz)).drop (lo * ob.sz) := by
                  rw [flat_drop lo (fun e he => c5 e (List.mem_of_mem_take he)), flat_take (lo + len) c5]
                have hcell : ∀ (j : Nat) (x : PV), ((ob.es.take (lo + len)).drop lo).flatten[j]? = some x → ∃ v : Value, cur[lo * ob.sz + j]? = some v ∧ VR w σ ι X x v := by
                  intro j x hj
                  rw [hflat, List.getElem?_drop, List.getElem?_take] at hj
                  split at hj
                  · obtain ⟨v, hv, hr⟩ := c6 _ x hj
                    exact ⟨v, hv, hr.1⟩
                  · cases hj
                have key := app_new (P := P) (ty := ty) (A := A) (c := c) (old := (ob.es.take (lo + len)).drop lo) (ys := y0 :: ys0) ht hi hz hzs hsp hby hh hX hy he (by simp)
                  ⟨(List.range ((ob.es.take (lo + len)).drop lo).flatten.length).map fun j => cur.getD (lo * ob.sz + j) undef, ⟨by simp, fun j x v hx hv => by
                    have hj := (List.getElem?_eq_some_iff.1 hx).1
                    obtain ⟨u, hu', hr⟩ := hcell j x hx
                    rw [List.getElem?_map, List.getElem?_range hj] at hv
                    simp [Array.getD_eq_getD_getElem?, hu'] at hv
                    subst hv
                    exact hr⟩, fun hp => ⟨_, g5 (by rw [hlen] at hp; omega), fun j v hv' => by
                      simp only [List.getElem?_map, Option.map_eq_some_iff] at hv'
                      obtain ⟨j', hj', rfl⟩ := hv'
                      have hlt : j < ((ob.es.take (lo + len)).drop lo).flatten.length := by
                        rcases Nat.lt_or_ge j ((ob.es.take (lo + len)).drop lo).flatten.length with h | h
                        · exact h
                        · rw [List.getElem?_eq_none (by simpa using h)] at hj'; cases hj'
                      have : j' = j := by rw [List.getElem?_range hlt] at hj'; cases hj'; rfl
                      subst this
                      obtain ⟨u, hu', _⟩ := hcell j' _ (List.getElem?_eq_getElem hlt)
                      rw [Addr.add_mid, cell_of_row w _ _ cur ob.ty (0, 0) c1, hu']
                      simp [Array.getD_eq_getD_getElem?, hu']⟩⟩ (by rw [hlen]; exact g6) (by rw [hlen]; simp at hlt ⊢; omega) rfl
                rw [hlen] at key
                exact key
              · exact True.intro
        · exact True.intro
      · exact True.intro
    | _ => exact True.intro

/-! #### Equality of structs -/
theorem eqC_ok {d : Nat} {xs ys : Array Value} : ∀ (fs : List Field) (i : Nat) (ks : List EK) (a b : List PV) (us vs : List Value) (r : Bool), eqKs P i fs = some ks → eqC ks a b = some r →
    VRs w σ ι X a us → VRs w σ ι X b vs → (∀ j, us[j]? = xs[i + j]?) → (∀ j, vs[j]? = ys[i + j]?) → (Op.eqFields (d + 1) xs ys fs).run P w = .ok r w
  | [], i, ks, a, b, us, vs, r, hk, hc, ha, hb, hu, hv => by
    simp [eqKs] at hk
    subst hk
    cases a <;> cases b <;> simp [eqC] at hc
    subst hc
    simp [Op.eqFields]
  | f :: fs, i, ks, a, b, us, vs, r, hk, hc, ha, hb, hu, hv => by
    simp only [eqKs] at hk
    split at hk
    · cases hk
    · rename_i hf
      simp only [not_or, Classical.not_not] at hf
      obtain ⟨hf1, hf2⟩ := hf
      have hagg : ∀ {dsc : TypeDesc}, P.underlying f.type = some dsc → (match dsc with | .string | .int _ | .bool => True | _ => False) → ∀ (zs : Array Value) (v : Value), zs[i]? = some v → (part f.type zs f.offset).run P w = .ok v w := by
        intro dsc hd hcase zs v hz
        have hz' : i < zs.size := (Array.getElem?_eq_some_iff.1 hz).1
        have hz2 : zs[i] = v := (Array.getElem?_eq_some_iff.1 hz).2
        have hia : (isAgg f.type).run P w = .ok false w := by
          unfold isAgg
          rw [Sem.run_bind, run_underlying hd w]
          cases dsc <;> simp_all
        simp [part, hia, hf2, hz', hz2]
      have step : ∀ {x y : PV} {a' b' : List PV} {ks' : List EK} {q : Bool}, a = x :: a' → b = y :: b' → eqKs P (i + 1) fs = some ks' → (∀ r', eqC ks' a' b' = some r' → r = (q && r')) → (∃ r', eqC ks' a' b' = some r') →
          (∃ dsc, P.underlying f.type = some dsc ∧ (match dsc with | .string | .int _ | .bool => True | _ => False)) →
          (∀ u v, VR w σ ι X x u → VR w σ ι X y v → (Op.equalIn (d + 1) f.type u v).run P w = .ok q w) → (Op.eqFields (d + 1) xs ys (f :: fs)).run P w = .ok r w := by
        rintro x y a' b' ks' q rfl rfl hks hq ⟨r', hr'⟩ ⟨dsc, hd, hcase⟩ heq
        obtain ⟨u, us', rfl⟩ : ∃ u us', us = u :: us' := by
          cases us with
          | nil => have := ha.1; simp at this
          | cons u us' => exact ⟨u, us', rfl⟩
        obtain ⟨v, vs', rfl⟩ : ∃ v vs', vs = v :: vs' := by
          cases vs with
          | nil => have := hb.1; simp at this
          | cons v vs' => exact ⟨v, vs', rfl⟩
        obtain ⟨ha1, ha2⟩ := ha.of_cons
        obtain ⟨hb1, hb2⟩ := hb.of_cons
        have p1 := hagg hd hcase xs u (by have := hu 0; simpa using this.symm)
        have p2 := hagg hd hcase ys v (by have := hv 0; simpa using this.symm)
        have ih := eqC_ok (d := d) fs (i + 1) ks' a' b' us' vs' r' hks hr' ha2 hb2 (fun j => by have := hu (j + 1); simp at this; rw [this]; congr 1; omega) (fun j => by have := hv (j + 1); simp at this; rw [this]; congr 1; omega)
        rw [hq r' hr']
        simp only [Op.eqFields, ne_eq, hf1, not_false_eq_true, if_true, Sem.run_bind, p1, p2, Result.andThen_ok, heq u v ha1 hb1]
        cases q with
        | true => simpa using ih
        | false => simp
      split at hk
      · rename_i ks' hd hks
        cases hk
        match a, b, hc with
        | .str s1 :: a', .str s2 :: b', hc =>
          simp only [eqC, Option.map_eq_some_iff] at hc
          obtain ⟨r', hr', rfl⟩ := hc
          refine step (q := s1 == s2) rfl rfl hks (fun r2 h2 => by rw [hr'] at h2; cases h2; rfl) ⟨r', hr'⟩ ⟨_, hd, trivial⟩ fun u v hu hv => ?_
          rw [hu.of_str.1, hv.of_str.1, run_equalIn_string w d f.type _ _ hd]
          simp
      · rename_i k0 ks' hd hks
        cases hk
        match a, b, hc with
        | .int k1 n1 :: a', .int k2 n2 :: b', hc =>
          simp only [eqC] at hc
          split at hc
          · rename_i hkk
            subst hkk
            simp only [Option.map_eq_some_iff] at hc
            obtain ⟨r', hr', rfl⟩ := hc
            refine step (q := n1 == n2) rfl rfl hks (fun r2 h2 => by rw [hr'] at h2; cases h2; rfl) ⟨r', hr'⟩ ⟨_, hd, trivial⟩ fun u v hu hv => ?_
            rw [hu.of_int, hv.of_int, run_equalIn_int w d f.type _ _ _ _ hd]
          · cases hc
      · rename_i ks' hd hks
        cases hk
        match a, b, hc with
        | .bool b1 :: a', .bool b2 :: b', hc =>
          simp only [eqC, Option.map_eq_some_iff] at hc
          obtain ⟨r', hr', rfl⟩ := hc
          refine step (q := b1 == b2) rfl rfl hks (fun r2 h2 => by rw [hr'] at h2; cases h2; rfl) ⟨r', hr'⟩ ⟨_, hd, trivial⟩ fun u v hu hv => ?_
          rw [hu.of_bool, hv.of_bool, run_equalIn_bool w d f.type _ _ hd]
      · cases hk

theorem op_eqa {u1 u2 : Value} {x y : PV} {ne : Bool} {s : Sem Next} (t : TypeId) (fs : Array Field) (ks : List EK) (ht : P.underlying t = some (.struct fs)) (hf : eqKs P 0 fs.toList = some ks) (h1 : P.stoodInHeld t = false) (h2 : P.eqGuardType P.depth t = false)
    (ox oy : Operand) (hh : HR w σ ι X) (hx : VR w σ ι X x u1) (hy : VR w σ ι X y u2)
    (hs : s = (do pure (.value (← (do eqGuard (if ne then .neq else .eql) t ox oy u1 u2; binOp (if ne then .neq else .eql) t u1 u2))))) : EvOk P X s w σ ι (eqaV ne ks x y) := by
  subst hs
  cases x with
  | agg a => cases y with
    | agg b =>
      simp only [eqaV]
      cases hr : eqC ks a b with
      | none => exact True.intro
      | some r =>
        obtain ⟨us, rfl, ha⟩ := hx.of_agg
        obtain ⟨vs, rfl, hb⟩ := hy.of_agg
        have hfo : P.fieldsOf t = fs := by simp [Program.fieldsOf, ht]
        have hrun : (Op.equalIn 10000 t (.agg us.toArray) (.agg vs.toArray)).run P w = .ok r w := by
          rw [run_equalIn_agg w 9999 t _ _ (by rw [hfo]; exact ht) h1, hfo]
          exact eqC_ok (d := 9998) fs.toList 0 ks a b us vs r hf hr ha hb (by simp) (by simp)
        cases ne with
        | false => exact Did.val (u := .bool r) hh (by simp [run_eqGuard_agg w _ t ox oy _ _ h2, run_eql_struct, hrun]) (.im _ _ (.bool r))
        | true => exact Did.val (u := .bool (!r)) hh (by simp [run_eqGuard_agg w _ t ox oy _ _ h2, run_neq_struct, hrun]) (.im _ _ (.bool (!r)))
    | _ => exact True.intro
  | _ => exact True.intro
end ops
end Go.Mach
