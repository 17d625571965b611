import Derived.Test.YtnkakbpefcoanaaGreatMb
/- Trees: an object becomes a tree, a tree becomes an object. -/
namespace Go.Mach
open Go
set_option linter.unusedVariables false
set_option linter.unusedSimpArgs false

section
variable {X X' : Nat → Prop} {w : World} {ι ι' : Place} {σ σ' : Heap}

/-- The same memory, seen through other objects. -/
structure Sub (w : World) (σ : Heap) (ι : Place) (X : Nat → Prop) (σ' : Heap) (ι' : Place) (X' : Nat → Prop) : Prop where
  len : σ.length ≤ σ'.length
  obj : ∀ o, o < σ.length → ∀ (ob' : AObj), σ'[o]? = some (some ob') → ∃ ob : AObj, σ[o]? = some (some ob) ∧ ob'.sz = ob.sz ∧ ob'.ty = ob.ty ∧ ob'.es.length = ob.es.length ∧ ι' o = ι o ∧ (ob'.frz = false → ob.frz = false)
  blk : ∀ b, b < w.heap.size → ¬ Own σ ι b ∧ ¬ X b → ¬ Own σ' ι' b ∧ ¬ X' b
theorem VR.sub {x : PV} {v : Value} (h : VR w σ ι X x v) (hs : Sub w σ ι X σ' ι' X') : VR w σ' ι' X' x v := by
  induction h with
  | im x v h => exact .im x v (h.mono fun b hb hn => ⟨hs.blk b hb hn, rfl⟩)
  | ptr o ep i off v ho hsh h =>
    refine .ptr o ep i off v (Nat.lt_of_lt_of_le ho hs.len) hsh (fun ob' hob' => ?_)
    obtain ⟨ob, h1, h2, _, h4, h5, _⟩ := hs.obj o ho ob' hob'
    obtain ⟨g1, g2⟩ := h ob h1
    refine ⟨by omega, fun hep => ?_⟩
    obtain ⟨g3, g4⟩ := g2 (by omega)
    exact ⟨g3, by rw [h5, h2]; exact g4⟩
  | ref o ep lo len cap v ho hsh h =>
    refine .ref o ep lo len cap v (Nat.lt_of_lt_of_le ho hs.len) hsh (fun ob' hob' => ?_)
    obtain ⟨ob, h1, h2, _, h4, h5, _⟩ := hs.obj o ho ob' hob'
    obtain ⟨g1, g2⟩ := h ob h1
    refine ⟨by omega, fun hep => ?_⟩
    obtain ⟨g3, A, c, g4, g5, g6, g7, g8, g9⟩ := g2 (by omega)
    exact ⟨g3, A, c, g4, by rw [h5, h2]; exact g5, g6, by rw [h5]; exact g7, by rw [h5]; exact g8, g9⟩
  | fn f cs vs hl hr ih => exact .fn f cs vs hl ih
  | agg cs vs hl hr ih => exact .agg cs vs hl ih
  | tup cs vs hl hr ih => exact .tup cs vs hl ih
  | undef v => exact .undef v
  | own es n sz ty lim v => exact .own es n sz ty lim v
theorem VRs.sub {xs : List PV} {vs : List Value} (h : VRs w σ ι X xs vs) (hs : Sub w σ ι X σ' ι' X') : VRs w σ' ι' X' xs vs := ⟨h.1, fun j x v hx hv => (h.2 j x v hx hv).sub hs⟩
theorem TR.sub {x : PV} {v : Value} {S : Nat → Prop} (h : TR w (fun b => ¬ Own σ ι b ∧ ¬ X b) x v S) (hs : Sub w σ ι X σ' ι' X') : TR w (fun b => ¬ Own σ' ι' b ∧ ¬ X' b) x v S :=
  h.mono (fun b hb hn => ⟨hs.blk b hb hn, rfl⟩) fun _ _ => rfl
theorem CR.sub {o j : Nat} {x : PV} {v : Value} (h : CR w σ ι X o j x v) (hs : Sub w σ ι X σ' ι' X') (hf : isOwn x = true → ι'.ft o j = ι.ft o j) : CR w σ' ι' X' o j x v :=
  ⟨h.1.sub hs, fun hx => by rw [hf hx]; exact (h.2 hx).sub hs⟩
/-- Where no object is lost to its owner. -/
theorem Sub.evo (hs : Sub w σ ι X σ' ι' X') (ho : ∀ b, Own σ' ι' b → Own σ ι b ∨ w.heap.size ≤ b) : Evo w σ ι σ' ι' :=
  ⟨hs.len, fun o h ob' h' => by
    obtain ⟨ob, h1, h2, h3, h4, h5, h6⟩ := hs.obj o h ob' h'
    exact ⟨ob, h1, h2, h3, by omega, fun _ => h5, h6⟩, ho⟩

theorem set_cell {e : List PV} {off : Nat} (h : off < e.length) (x : PV) : e.take off ++ [x] ++ e.drop (off + 1) = e.set off x := by
  rw [List.set_eq_take_append_cons_drop, if_pos h]; simp
theorem flat_set {sz : Nat} : ∀ {es : List (List PV)} {i : Nat} {e cs : List PV} {off : Nat}, (∀ e, e ∈ es → e.length = sz) → es[i]? = some e → off + cs.length ≤ sz →
    (es.set i (e.take off ++ cs ++ e.drop (off + cs.length))).flatten = es.flatten.take (i * sz + off) ++ cs ++ es.flatten.drop (i * sz + off + cs.length)
  | [], i, e, cs, off, _, h, _ => by simp at h
  | f :: es, 0, e, cs, off, hz, h, hle => by
    simp at h; subst h
    have h1 := hz f (by simp)
    simp only [List.set_cons_zero, List.flatten_cons, Nat.zero_mul, Nat.zero_add, List.append_assoc]
    rw [List.take_append_of_le_length (by omega), List.drop_append_of_le_length (by omega)]
  | f :: es, i + 1, e, cs, off, hz, h, hle => by
    have h1 := hz f (by simp)
    have ih := flat_set (es := es) (i := i) (e := e) (cs := cs) (off := off) (fun e' he => hz e' (by simp [he])) (by simpa using h) hle
    simp only [List.set_cons_succ, List.flatten_cons, ih]
    have e1 : (i + 1) * sz + off = f.length + (i * sz + off) := by rw [Nat.add_mul, h1]; omega
    rw [e1, List.take_length_add_append, show f.length + (i * sz + off) + cs.length = f.length + (i * sz + off + cs.length) from by omega, List.drop_length_add_append]
    simp
/-- One cell is another. -/
theorem flat_cell {sz : Nat} {es : List (List PV)} {i off : Nat} {e : List PV} (hz : ∀ e, e ∈ es → e.length = sz) (he : es[i]? = some e) (ho : off < e.length) (x : PV) :
    (es.set i (e.set off x)).flatten = es.flatten.set (i * sz + off) x ∧ i * sz + off < es.flatten.length ∧ es.flatten[i * sz + off]? = some e[off] := by
  have hel : e.length = sz := hz e (List.mem_of_getElem? he)
  have h := flat_set (off := off) (cs := [x]) hz he (by simp; omega)
  simp only [List.length_singleton] at h
  rw [set_cell ho] at h
  have hg := flat_get hz he (List.getElem?_eq_getElem ho)
  have hlt := (List.getElem?_eq_some_iff.1 hg).1
  exact ⟨by rw [h, set_cell hlt], hlt, hg⟩
theorem cell_len {sz : Nat} {es : List (List PV)} {i off : Nat} {e : List PV} (hz : ∀ e, e ∈ es → e.length = sz) (he : es[i]? = some e) (x : PV) : ∀ e', e' ∈ es.set i (e.set off x) → e'.length = sz := by
  intro e' h
  rcases List.mem_or_eq_of_mem_set h with h | h
  · exact hz e' h
  · rw [h]; simpa using hz e (List.mem_of_getElem? he)

/-- A whole object, as a tree. -/
theorem HR.tree (hh : HR w σ ι X) {o ep lo len : Nat} {cap : Option Nat} {v : Value} {ob : AObj} (hx : VR w σ ι X (.ref o ep lo len cap) v) (ho : σ[o]? = some (some ob)) (hw : wholeB ob ep lo len cap = true) {B : Nat → Prop} (hB : ∀ b, ¬ Own σ ι b ∧ ¬ X b → B b) :
    TR w B (.own ob.es len ob.sz ob.ty cap.isSome) v (fun b => (ι o).1 = b ∨ ∃ j, Tb σ ι o j b) := by
  obtain ⟨_, _, h1⟩ := hx.of_ref
  obtain ⟨_, h2⟩ := h1 ob ho
  simp only [wholeB, Bool.and_eq_true, beq_iff_eq, Bool.not_eq_true'] at hw
  obtain ⟨⟨⟨⟨⟨w1, w2⟩, w3⟩, w4⟩, w5⟩, w6⟩ := hw
  obtain ⟨h3, A, c, rfl, h4, h5, h6, h7, h8⟩ := h2 w1
  subst w2
  obtain ⟨cur, c1, c2, c3, c4, c5, c6⟩ := hh.obj o ob ho
  have htree : ∀ (j : Nat) (x : PV), ob.es.flatten[j]? = some x → treeV x = true := by
    intro j x hj
    obtain ⟨e, he, hxe⟩ := List.mem_flatten.1 (List.mem_of_getElem? hj)
    exact List.all_eq_true.1 (List.all_eq_true.1 w5 e he) x hxe
  have hcap : ob.es.length ≤ c ∧ (cap.isSome = true → c = ob.es.length) ∧ (cap.isSome = false → c = (ι o).2) := by
    cases cap with
    | none => have := h7 rfl; simp only [Nat.sub_zero] at this; exact ⟨by omega, by simp, fun _ => this⟩
    | some k => simp only [beq_iff_eq] at w6; have := h8 k rfl; exact ⟨by omega, fun _ => by omega, by simp⟩
  refine .own ob.es len ob.sz ob.ty cap.isSome A (ι o).1 c (ι o).2 cur _ (fun j b => ∃ x, ob.es.flatten[j]? = some x ∧ isOwn x = true ∧ ι.ft o j b) (fun j => cur.getD j undef) c1 c2 (by omega) c4 (by omega) hcap.1 hcap.2.1 hcap.2.2
    (fun hp => by have := h4 hp; simpa using this) c5 (fun j x hx => ?_) (fun j x hx => ?_) (fun b' => ?_) (fun j x hx => ?_) (fun j j' x x' b' hx hx' h h' => ?_)
  · obtain ⟨u, hu, _⟩ := c6 j x hx
    simp [Array.getD_eq_getD_getElem?, hu]
  · obtain ⟨u, hu, hr⟩ := c6 j x hx
    simp only [Array.getD_eq_getD_getElem?, hu, Option.getD_some]
    cases hox : isOwn x with
    | true =>
      have h := hr.2 hox
      have hS : (fun b => ∃ x, ob.es.flatten[j]? = some x ∧ isOwn x = true ∧ ι.ft o j b) = ι.ft o j := by
        funext b
        exact propext ⟨fun ⟨_, _, _, h⟩ => h, fun h => ⟨x, hx, hox, h⟩⟩
      rw [hS]
      exact h.mono (fun b hb hn => ⟨hB b hn, rfl⟩) fun _ _ => rfl
    | false =>
      have := htree j x hx
      simp only [treeV, hox, Bool.false_or] at this
      exact .im x u _ hox ((pure_ir x u this hr.1).mono fun b hb hn => ⟨hB b hn, rfl⟩) fun b => by
        rintro ⟨y, hy, hoy, _⟩
        rw [hx] at hy; cases hy; rw [hox] at hoy; cases hoy
  · constructor
    · rintro (h | ⟨j, ob', x, g1, g2, g3, g4⟩)
      · exact .inl h.symm
      · rw [ho] at g1; cases g1
        exact .inr ⟨j, x, g2, x, g2, g3, g4⟩
    · rintro (h | ⟨j, x, hx, y, hy, hoy, hft⟩)
      · exact .inl h.symm
      · exact .inr ⟨j, ob, y, ho, hy, hoy, hft⟩
  · rintro ⟨y, hy, hoy, hft⟩
    exact hh.tob o j _ ⟨ob, y, ho, hy, hoy, hft⟩ o ob ho rfl
  · obtain ⟨y, hy, hoy, hft⟩ := h
    obtain ⟨y', hy', hoy', hft'⟩ := h'
    exact (hh.tin o o j j' b' ⟨ob, y, ho, hy, hoy, hft⟩ ⟨ob, y', ho, hy', hoy', hft'⟩).2

theorem none_get {o p : Nat} {q : AObj} (h : (σ.set o none)[p]? = some (some q)) : p ≠ o ∧ σ[p]? = some (some q) := by
  rw [set_get] at h
  split at h
  · split at h <;> cases h
  · rename_i e; exact ⟨fun e' => e e'.symm, h⟩

/-- An object is taken out of the heap: its blocks are foreign from now on. -/
theorem HR.take (hh : HR w σ ι X) {o : Nat} {ob : AObj} (ho : σ[o]? = some (some ob)) (hf : ob.frz = false) :
    HR w (σ.set o none) ι (fun b => X b ∨ ((ι o).1 = b ∨ ∃ j, Tb σ ι o j b)) ∧ Sub w σ ι X (σ.set o none) ι (fun b => X b ∨ ((ι o).1 = b ∨ ∃ j, Tb σ ι o j b)) ∧ ∀ b, Own (σ.set o none) ι b → Own σ ι b := by
  have htb : ∀ p j b, Tb (σ.set o none) ι p j b → p ≠ o ∧ Tb σ ι p j b := by
    rintro p j b ⟨q, x, h, hx⟩
    obtain ⟨h1, h2⟩ := none_get h
    exact ⟨h1, q, x, h2, hx⟩
  have hown : ∀ b, Own (σ.set o none) ι b → Own σ ι b := by
    rintro b (⟨p, q, h, hq⟩ | ⟨p, j, h⟩)
    · exact .inl ⟨p, q, (none_get h).2, hq⟩
    · exact .inr ⟨p, j, (htb _ _ _ h).2⟩
  have hsub : Sub w σ ι X (σ.set o none) ι (fun b => X b ∨ ((ι o).1 = b ∨ ∃ j, Tb σ ι o j b)) := by
    refine ⟨by simp, fun p hp q h => ⟨q, (none_get h).2, rfl, rfl, rfl, rfl, fun h => h⟩, fun b hb hn => ⟨fun h => hn.1 (hown b h), ?_⟩⟩
    rintro (h | h | ⟨j, h⟩)
    · exact hn.2 h
    · exact hn.1 (.inl ⟨o, ob, ho, hf, h⟩)
    · exact hn.1 (.inr ⟨o, j, h⟩)
  refine ⟨⟨fun p q h => ?_, fun p p' q q' h h' => hh.inj p p' q q' (none_get h).2 (none_get h').2, fun p q h => ?_, fun p q h => hh.fro p q (none_get h).2,
    fun p p' j j' b h h' => hh.tin p p' j j' b (htb _ _ _ h).2 (htb _ _ _ h').2, fun p j b h p' q h' => hh.tob p j b (htb _ _ _ h).2 p' q (none_get h').2, fun p j b h => ?_⟩, hsub, hown⟩
  · obtain ⟨cur, c1, c2, c3, c4, c5, c6⟩ := hh.obj p q (none_get h).2
    exact ⟨cur, c1, c2, c3, c4, c5, fun j x hx => by
      obtain ⟨v, hv, hr⟩ := c6 j x hx
      exact ⟨v, hv, hr.sub hsub fun _ => rfl⟩⟩
  · obtain ⟨h1, h2⟩ := none_get h
    rintro (h' | h' | ⟨j, h'⟩)
    · exact hh.out p q h2 h'
    · exact h1 (hh.inj o p ob q ho h2 hf h').symm
    · exact hh.tob o j _ h' p q h2 rfl
  · obtain ⟨h1, h2⟩ := htb _ _ _ h
    rintro (h' | h' | ⟨j', h'⟩)
    · exact hh.tx p j b h2 h'
    · exact hh.tob p j b h2 o ob ho h'
    · exact h1 (hh.tin p o j j' b h2 h').1
end
end Go.Mach

/- Trees: giving, unfolding, absorbing, freezing. -/
namespace Go.Mach
open Go
set_option linter.unusedVariables false
set_option linter.unusedSimpArgs false

section
variable {X X' : Nat → Prop} {w : World} {ι ι' : Place} {σ σ' : Heap}

theorem TR.ir {B : Nat → Prop} {x : PV} {v : Value} {S : Nat → Prop} (h : TR w B x v S) (hx : isOwn x = false) : IR w B x v := by
  cases h with
  | im _ _ _ _ h _ => exact h
  | own => simp [isOwn] at hx
theorem own_pv {x : PV} (h : isOwn x = true) : ∃ es n sz ty lim, x = .own es n sz ty lim := by
  cases x <;> simp [isOwn] at h
  exact ⟨_, _, _, _, _, rfl⟩

/-- Place of a new object whose blocks are known. -/
def giveP (ι : Place) (n : Nat) (p : Nat × Nat) (T : Nat → Nat → Prop) : Place := ⟨fun o => if o = n then p else ι o, fun o => if o = n then T else ι.ft o⟩

/-- A tree becomes an object. -/
theorem HR.give (hh : HR w σ ι X') {es : List (List PV)} {n sz ty : Nat} {lim : Bool} {v : Value} {S : Nat → Prop} (ht : TR w (fun b => ¬ Own σ ι b ∧ ¬ X' b) (.own es n sz ty lim) v S)
    (h1 : ∀ b, X' b → X b ∨ S b) (h2 : ∀ b, S b → X' b) (h3 : ∀ b, X b → X' b) (h4 : ∀ b, S b → ¬ X b) :
    ∃ ι', HR w (σ ++ [some ⟨es, sz, ty, true, false⟩]) ι' X ∧ VR w (σ ++ [some ⟨es, sz, ty, true, false⟩]) ι' X (.ref σ.length es.length 0 n (if lim then some es.length else none)) v ∧
      Sub w σ ι X' (σ ++ [some ⟨es, sz, ty, true, false⟩]) ι' X ∧ ∀ b, Own (σ ++ [some ⟨es, sz, ty, true, false⟩]) ι' b → Own σ ι b ∨ S b := by
  cases ht with
  | im _ _ _ hx h hS => simp [isOwn] at hx
  | own _ _ _ _ _ A b c m cur _ T vs hb hcs hcm hm hn hc hl hl' hA hz hv hr hS hT hd =>
    have hSb : S b := (hS b).2 (.inl rfl)
    have hget : ∀ (o : Nat) (ob' : AObj), (σ ++ [some ⟨es, sz, ty, true, false⟩])[o]? = some (some ob') → (o < σ.length ∧ σ[o]? = some (some ob')) ∨ (o = σ.length ∧ ob' = ⟨es, sz, ty, true, false⟩) := by
      intro o ob' h
      rw [List.getElem?_append] at h
      split at h
      · rename_i hlt; exact .inl ⟨hlt, h⟩
      · rename_i hge
        have : o - σ.length = 0 := by
          rcases Nat.eq_zero_or_pos (o - σ.length) with h0 | h0
          · exact h0
          · rw [List.getElem?_eq_none (by simp; omega)] at h; cases h
        rw [this] at h
        simp at h
        exact .inr ⟨by omega, h.symm⟩
    have pn : giveP ι σ.length (b, m) T σ.length = (b, m) := by simp [giveP]
    have po : ∀ o, o < σ.length → giveP ι σ.length (b, m) T o = ι o := fun o ho => by simp [giveP]; omega
    have fn : (giveP ι σ.length (b, m) T).ft σ.length = T := by simp [giveP]
    have fo : ∀ o, o < σ.length → (giveP ι σ.length (b, m) T).ft o = ι.ft o := fun o ho => by simp [giveP]; omega
    have htb : ∀ o j b', Tb (σ ++ [some ⟨es, sz, ty, true, false⟩]) (giveP ι σ.length (b, m) T) o j b' → (o < σ.length ∧ Tb σ ι o j b') ∨ (o = σ.length ∧ ∃ x, es.flatten[j]? = some x ∧ T j b') := by
      rintro o j b' ⟨q, x, h, hx, hox, hft⟩
      rcases hget o q h with ⟨h1', h'⟩ | ⟨rfl, rfl⟩
      · rw [fo o h1'] at hft; exact .inl ⟨h1', q, x, h', hx, hox, hft⟩
      · rw [fn] at hft; exact .inr ⟨rfl, x, hx, hft⟩
    have hTS : ∀ j x b', es.flatten[j]? = some x → T j b' → S b' := fun j x b' hx ht => (hS b').2 (.inr ⟨j, x, hx, ht⟩)
    have hown : ∀ b', Own (σ ++ [some ⟨es, sz, ty, true, false⟩]) (giveP ι σ.length (b, m) T) b' → Own σ ι b' ∨ S b' := by
      rintro b' (⟨o, q, h, hq, rfl⟩ | ⟨o, j, h⟩)
      · rcases hget o q h with ⟨h1', h'⟩ | ⟨rfl, rfl⟩
        · exact .inl (.inl ⟨o, q, h', hq, by rw [po o h1']⟩)
        · rw [pn]; exact .inr hSb
      · rcases htb o j b' h with ⟨_, h'⟩ | ⟨_, x, hx, h'⟩
        · exact .inl (.inr ⟨o, j, h'⟩)
        · exact .inr (hTS j x b' hx h')
    have hsub : Sub w σ ι X' (σ ++ [some ⟨es, sz, ty, true, false⟩]) (giveP ι σ.length (b, m) T) X := by
      refine ⟨by simp, fun o ho q h => ?_, fun b' hb' hn => ⟨fun ho => ?_, fun hx => hn.2 (h3 b' hx)⟩⟩
      · rcases hget o q h with ⟨h1', h'⟩ | ⟨rfl, rfl⟩
        · exact ⟨q, h', rfl, rfl, rfl, po o h1', fun h => h⟩
        · omega
      · rcases hown b' ho with h | h
        · exact hn.1 h
        · exact hn.2 (h2 b' h)
    refine ⟨giveP ι σ.length (b, m) T, ⟨fun o q h => ?_, fun o o' q q' h h' hqf heq => ?_, fun o q h => ?_, fun o q h hqf => ?_, fun o o' j j' b' h h' => ?_, fun o j b' h o' q h' => ?_, fun o j b' h => ?_⟩, ?_, hsub, hown⟩
    · rcases hget o q h with ⟨h1', h'⟩ | ⟨rfl, rfl⟩
      · obtain ⟨cu, c1, c2, c3, c4, c5, c6⟩ := hh.obj o q h'
        rw [po o h1']
        exact ⟨cu, c1, c2, c3, c4, c5, fun j x hx => by
          obtain ⟨u, hu, hr'⟩ := c6 j x hx
          exact ⟨u, hu, hr'.sub hsub fun _ => by rw [fo o h1']⟩⟩
      · rw [pn]
        refine ⟨cur, hb, hcs, by simp only; omega, hm, hz, fun j x hx => ⟨vs j, hv j x hx, ?_⟩⟩
        have h := hr j x hx
        cases hox : isOwn x with
        | true =>
          refine ⟨by cases x <;> simp [isOwn] at hox; exact .own _ _ _ _ _ _, fun _ => ?_⟩
          rw [fn]
          exact h.sub hsub
        | false =>
          exact ⟨(VR.im _ _ (h.ir hox)).sub hsub, fun h => by rw [hox] at h; cases h⟩
    · rcases hget o q h with ⟨g1, g2⟩ | ⟨rfl, rfl⟩ <;> rcases hget o' q' h' with ⟨g3, g4⟩ | ⟨rfl, rfl⟩
      · rw [po o g1, po o' g3] at heq; exact hh.inj o o' q q' g2 g4 hqf heq
      · rw [po o g1, pn] at heq; simp only at heq; exact absurd (h2 b hSb) (by rw [← heq]; exact hh.out o q g2)
      · rw [po o' g3, pn] at heq; simp only at heq; exact absurd (h2 b hSb) (by rw [heq]; exact hh.out o' q' g4)
      · rfl
    · rcases hget o q h with ⟨g1, g2⟩ | ⟨rfl, rfl⟩
      · rw [po o g1]; exact fun hx => hh.out o q g2 (h3 _ hx)
      · rw [pn]; exact h4 b hSb
    · rcases hget o q h with ⟨g1, g2⟩ | ⟨rfl, rfl⟩
      · exact hh.fro o q g2 hqf
      · cases hqf
    · rcases htb o j b' h with ⟨g1, g2⟩ | ⟨rfl, x, hx, g2⟩ <;> rcases htb o' j' b' h' with ⟨g3, g4⟩ | ⟨rfl, x', hx', g4⟩
      · exact hh.tin o o' j j' b' g2 g4
      · exact absurd (h2 b' (hTS j' x' b' hx' g4)) (hh.tx o j b' g2)
      · exact absurd (h2 b' (hTS j x b' hx g2)) (hh.tx o' j' b' g4)
      · exact ⟨rfl, hd j j' x x' b' hx hx' g2 g4⟩
    · rcases htb o j b' h with ⟨g1, g2⟩ | ⟨rfl, x, hx, g2⟩ <;> rcases hget o' q h' with ⟨g3, g4⟩ | ⟨rfl, rfl⟩
      · rw [po o' g3]; exact hh.tob o j b' g2 o' q g4
      · rw [pn]; intro e; simp only at e; exact hh.tx o j b' g2 (h2 _ (e ▸ hSb))
      · rw [po o' g3]; intro e; exact hh.out o' q g4 (by rw [e]; exact h2 b' (hTS j x b' hx g2))
      · rw [pn]; intro e; simp only at e; exact hT j x hx (by rw [e]; exact g2)
    · rcases htb o j b' h with ⟨g1, g2⟩ | ⟨rfl, x, hx, g2⟩
      · exact fun hx => hh.tx o j b' g2 (h3 _ hx)
      · exact h4 b' (hTS j x b' hx g2)
    · refine .ref _ _ _ _ _ _ (by simp) ⟨A, c, rfl⟩ fun ob hob => ?_
      rw [List.getElem?_append_right (Nat.le_refl _), Nat.sub_self] at hob
      simp at hob
      subst hob
      refine ⟨Nat.le_refl _, fun _ => ⟨by omega, A, c, rfl, fun hp => ?_, by omega, ?_, fun hn' => ?_, fun k hk => ?_⟩⟩
      · rw [pn, hA hp]; simp
      · rw [pn]; simp only; omega
      · rw [pn]
        cases lim with
        | true => simp at hn'
        | false => have := hl' rfl; simp only; omega
      · cases lim with
        | true => simp at hk; have := hl rfl; omega
        | false => simp at hk

/-- A cell's tree becomes an object that the cell refers to. -/
theorem HR.unf (hh : HR w σ ι X) {o i off : Nat} {ob : AObj} {e : List PV} {es : List (List PV)} {n sz ty : Nat} {lim : Bool} (ho : σ[o]? = some (some ob)) (he : ob.es[i]? = some e) (hx : e[off]? = some (.own es n sz ty lim)) :
    ∃ ι', HR w (σ.set o (some { ob with es := ob.es.set i (e.set off (.ref σ.length es.length 0 n (if lim then some es.length else none))) }) ++ [some ⟨es, sz, ty, true, false⟩]) ι' X ∧
      Sub w σ ι X (σ.set o (some { ob with es := ob.es.set i (e.set off (.ref σ.length es.length 0 n (if lim then some es.length else none))) }) ++ [some ⟨es, sz, ty, true, false⟩]) ι' X ∧
      ∀ b, Own (σ.set o (some { ob with es := ob.es.set i (e.set off (.ref σ.length es.length 0 n (if lim then some es.length else none))) }) ++ [some ⟨es, sz, ty, true, false⟩]) ι' b → Own σ ι b := by
  obtain ⟨cu, c1, c2, c3, c4, c5, c6⟩ := hh.obj o ob ho
  have hoff : off < e.length := (List.getElem?_eq_some_iff.1 hx).1
  have hfl := fun x => flat_cell c5 he hoff x
  have hj0 : ob.es.flatten[i * ob.sz + off]? = some (.own es n sz ty lim) := by rw [(hfl .undef).2.2]; rw [List.getElem?_eq_getElem hoff] at hx; exact hx
  obtain ⟨v, hv0, hcr⟩ := c6 _ _ hj0
  have ht := hcr.2 rfl
  have holt := obj_lt ho
  have hfz : ob.frz = false := by
    cases hf : ob.frz with
    | false => rfl
    | true => have := hh.fro o ob ho hf _ (List.mem_of_getElem? hj0); simp [isOwn] at this
  cases ht with
  | im _ _ _ hx h hS => simp [isOwn] at hx
  | own _ _ _ _ _ A b c m cur _ T vs hb hcs hcm hm hn hc hl hl' hA hz hv hr hS hT hd =>
    generalize hob1 : ({ ob with es := ob.es.set i (e.set off (.ref σ.length es.length 0 n (if lim then some es.length else none))) } : AObj) = ob1
    have h1es : ob1.es.flatten = ob.es.flatten.set (i * ob.sz + off) (.ref σ.length es.length 0 n (if lim then some es.length else none)) := by rw [← hob1]; exact (hfl _).1
    have hSb : Tb σ ι o (i * ob.sz + off) b := ⟨ob, _, ho, hj0, rfl, (hS b).2 (.inl rfl)⟩
    have hTS : ∀ j x b', es.flatten[j]? = some x → T j b' → Tb σ ι o (i * ob.sz + off) b' := fun j x b' hx ht => ⟨ob, _, ho, hj0, rfl, (hS b').2 (.inr ⟨j, x, hx, ht⟩)⟩
    have hget : ∀ (p : Nat) (q : AObj), (σ.set o (some ob1) ++ [some ⟨es, sz, ty, true, false⟩])[p]? = some (some q) → (p = o ∧ q = ob1) ∨ (p ≠ o ∧ p < σ.length ∧ σ[p]? = some (some q)) ∨ (p = σ.length ∧ q = ⟨es, sz, ty, true, false⟩) := by
      intro p q h
      rw [List.getElem?_append] at h
      split at h
      · rename_i hlt
        rw [set_get] at h
        split at h
        · rename_i e; subst e; rw [if_pos holt] at h; cases h; exact .inl ⟨rfl, rfl⟩
        · rename_i e; exact .inr (.inl ⟨fun e' => e e'.symm, by simpa using hlt, h⟩)
      · rename_i hge
        simp only [List.length_set] at hge h
        have : p - σ.length = 0 := by
          rcases Nat.eq_zero_or_pos (p - σ.length) with h0 | h0
          · exact h0
          · rw [List.getElem?_eq_none (by simp; omega)] at h; cases h
        rw [this] at h
        simp at h
        exact .inr (.inr ⟨by omega, h.symm⟩)
    have pn : giveP ι σ.length (b, m) T σ.length = (b, m) := by simp [giveP]
    have po : ∀ o, o < σ.length → giveP ι σ.length (b, m) T o = ι o := fun o ho => by simp [giveP]; omega
    have fn : (giveP ι σ.length (b, m) T).ft σ.length = T := by simp [giveP]
    have fo : ∀ o, o < σ.length → (giveP ι σ.length (b, m) T).ft o = ι.ft o := fun o ho => by simp [giveP]; omega
    have hcell : ∀ j x, ob1.es.flatten[j]? = some x → (j = i * ob.sz + off ∧ x = .ref σ.length es.length 0 n (if lim then some es.length else none)) ∨ (j ≠ i * ob.sz + off ∧ ob.es.flatten[j]? = some x) := by
      intro j x h
      rw [h1es, List.getElem?_set] at h
      split at h
      · rename_i e; subst e; rw [if_pos (hfl .undef).2.1] at h; cases h; exact .inl ⟨rfl, rfl⟩
      · rename_i e; exact .inr ⟨fun e' => e e'.symm, h⟩
    have htb : ∀ p j b', Tb (σ.set o (some ob1) ++ [some ⟨es, sz, ty, true, false⟩]) (giveP ι σ.length (b, m) T) p j b' →
        (p < σ.length ∧ ¬ (p = o ∧ j = i * ob.sz + off) ∧ Tb σ ι p j b') ∨ (p = σ.length ∧ ∃ x, es.flatten[j]? = some x ∧ T j b') := by
      rintro p j b' ⟨q, x, h, hx, hox, hft⟩
      rcases hget p q h with ⟨rfl, rfl⟩ | ⟨g1, g2, g3⟩ | ⟨rfl, rfl⟩
      · rw [fo p holt] at hft
        rcases hcell j x hx with ⟨_, rfl⟩ | ⟨hj, hx'⟩
        · simp [isOwn] at hox
        · exact .inl ⟨holt, fun h => hj h.2, ob, x, ho, hx', hox, hft⟩
      · rw [fo p g2] at hft; exact .inl ⟨g2, fun h => g1 h.1, q, x, g3, hx, hox, hft⟩
      · rw [fn] at hft; exact .inr ⟨rfl, x, hx, hft⟩
    have h1f : ob1.frz = false := by rw [← hob1]; exact hfz
    have h1s : ob1.sz = ob.sz ∧ ob1.ty = ob.ty ∧ ob1.es.length = ob.es.length := by rw [← hob1]; simp
    have hown : ∀ b', Own (σ.set o (some ob1) ++ [some ⟨es, sz, ty, true, false⟩]) (giveP ι σ.length (b, m) T) b' → Own σ ι b' := by
      rintro b' (⟨p, q, h, hq, rfl⟩ | ⟨p, j, h⟩)
      · rcases hget p q h with ⟨rfl, rfl⟩ | ⟨g1, g2, g3⟩ | ⟨rfl, rfl⟩
        · exact .inl ⟨p, ob, ho, hfz, by rw [po p holt]⟩
        · exact .inl ⟨p, q, g3, hq, by rw [po p g2]⟩
        · rw [pn]; exact .inr ⟨o, _, hSb⟩
      · rcases htb p j b' h with ⟨_, _, h'⟩ | ⟨_, x, hx, h'⟩
        · exact .inr ⟨p, j, h'⟩
        · exact .inr ⟨o, _, hTS j x b' hx h'⟩
    have hsub : Sub w σ ι X (σ.set o (some ob1) ++ [some ⟨es, sz, ty, true, false⟩]) (giveP ι σ.length (b, m) T) X := by
      refine ⟨by simp, fun p hp q h => ?_, fun b' hb' hn => ⟨fun ho => hn.1 (hown b' ho), hn.2⟩⟩
      rcases hget p q h with ⟨rfl, rfl⟩ | ⟨g1, g2, g3⟩ | ⟨rfl, rfl⟩
      · exact ⟨ob, ho, h1s.1, h1s.2.1, h1s.2.2, po p holt, fun _ => hfz⟩
      · exact ⟨q, g3, rfl, rfl, rfl, po p g2, fun h => h⟩
      · omega
    have hvr : VR w (σ.set o (some ob1) ++ [some ⟨es, sz, ty, true, false⟩]) (giveP ι σ.length (b, m) T) X (.ref σ.length es.length 0 n (if lim then some es.length else none)) (.slice A n c) := by
      refine .ref _ _ _ _ _ _ (by simp) ⟨A, c, rfl⟩ fun q hq => ?_
      rcases hget _ q hq with ⟨h, _⟩ | ⟨_, h, _⟩ | ⟨_, rfl⟩
      · omega
      · omega
      · refine ⟨Nat.le_refl _, fun _ => ⟨by omega, A, c, rfl, fun hp => ?_, by omega, ?_, fun hn' => ?_, fun k hk => ?_⟩⟩
        · rw [pn, hA hp]; simp
        · rw [pn]; simp only; omega
        · rw [pn]
          cases lim with
          | true => simp at hn'
          | false => have := hl' rfl; simp only; omega
        · cases lim with
          | true => simp at hk; have := hl rfl; omega
          | false => simp at hk
    refine ⟨giveP ι σ.length (b, m) T, ⟨fun p q h => ?_, fun p p' q q' h h' hqf heq => ?_, fun p q h => ?_, fun p q h hqf => ?_, fun p p' j j' b' h h' => ?_, fun p j b' h p' q h' => ?_, fun p j b' h => ?_⟩, hsub, hown⟩
    · rcases hget p q h with ⟨rfl, rfl⟩ | ⟨g1, g2, g3⟩ | ⟨rfl, rfl⟩
      · rw [po p holt, h1s.1, h1s.2.1, h1s.2.2]
        refine ⟨cu, c1, c2, c3, c4, fun e' he' => ?_, fun j x hx => ?_⟩
        · rw [← hob1] at he'; exact cell_len c5 he _ e' he'
        · rcases hcell j x hx with ⟨rfl, rfl⟩ | ⟨hj, hx'⟩
          · exact ⟨_, hv0, hvr, fun h => by simp [isOwn] at h⟩
          · obtain ⟨u, hu, hr'⟩ := c6 j x hx'
            exact ⟨u, hu, hr'.sub hsub fun _ => by rw [fo p holt]⟩
      · obtain ⟨cu', d1, d2, d3, d4, d5, d6⟩ := hh.obj p q g3
        rw [po p g2]
        exact ⟨cu', d1, d2, d3, d4, d5, fun j x hx => by
          obtain ⟨u, hu, hr'⟩ := d6 j x hx
          exact ⟨u, hu, hr'.sub hsub fun _ => by rw [fo p g2]⟩⟩
      · rw [pn]
        refine ⟨cur, hb, hcs, by simp only; omega, hm, hz, fun j x hx => ⟨vs j, hv j x hx, ?_⟩⟩
        have h := hr j x hx
        cases hox : isOwn x with
        | true =>
          refine ⟨by cases x <;> simp [isOwn] at hox; exact .own _ _ _ _ _ _, fun _ => ?_⟩
          rw [fn]
          exact h.sub hsub
        | false =>
          exact ⟨(VR.im _ _ (h.ir hox)).sub hsub, fun h => by rw [hox] at h; cases h⟩
    · rcases hget p q h with ⟨rfl, rfl⟩ | ⟨g1, g2, g3⟩ | ⟨rfl, rfl⟩ <;> rcases hget p' q' h' with ⟨rfl, rfl⟩ | ⟨g4, g5, g6⟩ | ⟨rfl, rfl⟩
      · rfl
      · rw [po _ holt, po _ g5] at heq; exact hh.inj _ _ ob q' ho g6 hfz heq
      · rw [po _ holt, pn] at heq; exact absurd heq (hh.tob _ _ b hSb _ ob ho)
      · rw [po _ holt, po _ g2] at heq; exact hh.inj _ _ q ob g3 ho hqf heq
      · rw [po _ g2, po _ g5] at heq; exact hh.inj _ _ q q' g3 g6 hqf heq
      · rw [po _ g2, pn] at heq; exact absurd heq (hh.tob _ _ b hSb _ q g3)
      · rw [po _ holt, pn] at heq; exact absurd heq.symm (hh.tob _ _ b hSb _ ob ho)
      · rw [po _ g5, pn] at heq; exact absurd heq.symm (hh.tob _ _ b hSb _ q' g6)
      · rfl
    · rcases hget p q h with ⟨rfl, rfl⟩ | ⟨g1, g2, g3⟩ | ⟨rfl, rfl⟩
      · rw [po p holt]; exact hh.out p ob ho
      · rw [po p g2]; exact hh.out p q g3
      · rw [pn]; exact hh.tx o _ b hSb
    · rcases hget p q h with ⟨rfl, rfl⟩ | ⟨g1, g2, g3⟩ | ⟨rfl, rfl⟩
      · rw [h1f] at hqf; cases hqf
      · exact hh.fro p q g3 hqf
      · cases hqf
    · rcases htb p j b' h with ⟨g1, g0, g2⟩ | ⟨rfl, x, hx, g2⟩ <;> rcases htb p' j' b' h' with ⟨g3, g5, g4⟩ | ⟨rfl, x', hx', g4⟩
      · exact hh.tin p p' j j' b' g2 g4
      · exact absurd (hh.tin p o j _ b' g2 (hTS j' x' b' hx' g4)) g0
      · exact absurd (hh.tin p' o j' _ b' g4 (hTS j x b' hx g2)) g5
      · exact ⟨rfl, hd j j' x x' b' hx hx' g2 g4⟩
    · rcases htb p j b' h with ⟨g1, g0, g2⟩ | ⟨rfl, x, hx, g2⟩ <;> rcases hget p' q h' with ⟨rfl, rfl⟩ | ⟨g3, g4, g5⟩ | ⟨rfl, rfl⟩
      · rw [po _ holt]; exact hh.tob p j b' g2 _ ob ho
      · rw [po p' g4]; exact hh.tob p j b' g2 p' q g5
      · rw [pn]; intro e; simp only at e; subst e; exact g0 (hh.tin p o j _ b g2 hSb)
      · rw [po _ holt]; exact hh.tob _ _ b' (hTS j x b' hx g2) _ ob ho
      · rw [po p' g4]; exact hh.tob _ _ b' (hTS j x b' hx g2) p' q g5
      · rw [pn]; intro e; simp only at e; exact hT j x hx (by rw [e]; exact g2)
    · rcases htb p j b' h with ⟨g1, g0, g2⟩ | ⟨rfl, x, hx, g2⟩
      · exact hh.tx p j b' g2
      · exact hh.tx o _ b' (hTS j x b' hx g2)
end
end Go.Mach

/- Steps of the proof alone: absorbing, freezing; loads that unfold. -/
namespace Go.Mach
open Go
set_option linter.unusedVariables false
set_option linter.unusedSimpArgs false

section
variable {X X' : Nat → Prop} {w : World} {ι ι' : Place} {σ σ' : Heap}

theorem HR.abs (hh : HR w σ ι X) {o i off : Nat} (h : absG σ o i off = some σ') : ∃ ι', HR w σ' ι' X ∧ Sub w σ ι X σ' ι' X ∧ ∀ b, Own σ' ι' b → Own σ ι b := by
  unfold absG at h
  split at h
  · rename_i ob ho
    split at h
    · cases h
    · rename_i hfz
      split at h
      · rename_i e he
        split at h
        · rename_i o' ep lo len cap hx
          split at h
          · rename_i ob' ho'
            split at h
            · rename_i hc
              obtain ⟨hne, hw⟩ := hc
              cases h
              have hfz : ob.frz = false := by simpa using hfz
              obtain ⟨cu, c1, c2, c3, c4, c5, c6⟩ := hh.obj o ob ho
              have hoff : off < e.length := (List.getElem?_eq_some_iff.1 hx).1
              have hfl := fun x => flat_cell c5 he hoff x
              have hj0 : ob.es.flatten[i * ob.sz + off]? = some (.ref o' ep lo len cap) := by rw [(hfl .undef).2.2]; rw [List.getElem?_eq_getElem hoff] at hx; exact hx
              obtain ⟨v, hv0, hcr⟩ := c6 _ _ hj0
              have holt := obj_lt ho
              have ht := hh.tree hcr.1 ho' hw (B := fun b => ¬ Own σ ι b ∧ ¬ X b) fun b h => h
              have hf' : ob'.frz = false := by
                simp only [wholeB, Bool.and_eq_true, Bool.not_eq_true'] at hw
                exact hw.1.1.1.2
              generalize hob1 : ({ ob with es := ob.es.set i (e.set off (.own ob'.es len ob'.sz ob'.ty cap.isSome)) } : AObj) = ob1
              have h1es : ob1.es.flatten = ob.es.flatten.set (i * ob.sz + off) (.own ob'.es len ob'.sz ob'.ty cap.isSome) := by rw [← hob1]; exact (hfl _).1
              have h1f : ob1.frz = false := by rw [← hob1]; exact hfz
              have h1s : ob1.sz = ob.sz ∧ ob1.ty = ob.ty ∧ ob1.es.length = ob.es.length := by rw [← hob1]; simp
              have hget : ∀ (p : Nat) (q : AObj), ((σ.set o' none).set o (some ob1))[p]? = some (some q) → (p = o ∧ q = ob1) ∨ (p ≠ o ∧ p ≠ o' ∧ σ[p]? = some (some q)) := by
                intro p q h
                rw [set_get] at h
                split at h
                · rename_i e; subst e; rw [if_pos (by simpa using holt)] at h; cases h; exact .inl ⟨rfl, rfl⟩
                · rename_i e
                  obtain ⟨h1, h2⟩ := none_get h
                  exact .inr ⟨fun e' => e e'.symm, h1, h2⟩
              have hcell : ∀ j x, ob1.es.flatten[j]? = some x → (j = i * ob.sz + off ∧ x = .own ob'.es len ob'.sz ob'.ty cap.isSome) ∨ (j ≠ i * ob.sz + off ∧ ob.es.flatten[j]? = some x) := by
                intro j x h
                rw [h1es, List.getElem?_set] at h
                split at h
                · rename_i e; subst e; rw [if_pos (hfl .undef).2.1] at h; cases h; exact .inl ⟨rfl, rfl⟩
                · rename_i e; exact .inr ⟨fun e' => e e'.symm, h⟩
              -- the new place
              let S : Nat → Prop := fun b => (ι o').1 = b ∨ ∃ j, Tb σ ι o' j b
              let ι1 : Place := ⟨ι.pl, fun p j => if p = o ∧ j = i * ob.sz + off then S else ι.ft p j⟩
              have f0 : ι1.ft o (i * ob.sz + off) = S := by simp [ι1]
              have f1 : ∀ p j, ¬ (p = o ∧ j = i * ob.sz + off) → ι1.ft p j = ι.ft p j := fun p j h => by simp [ι1, h]
              have hSo : ∀ b, S b → Own σ ι b := by
                rintro b (h | ⟨j, h⟩)
                · exact .inl ⟨o', ob', ho', hf', h⟩
                · exact .inr ⟨o', j, h⟩
              have htb : ∀ p j b', Tb ((σ.set o' none).set o (some ob1)) ι1 p j b' → ((p = o ∧ j = i * ob.sz + off) ∧ S b') ∨ (p ≠ o' ∧ ¬ (p = o ∧ j = i * ob.sz + off) ∧ Tb σ ι p j b') := by
                rintro p j b' ⟨q, x, h, hx, hox, hft⟩
                by_cases hpj : p = o ∧ j = i * ob.sz + off
                · obtain ⟨rfl, rfl⟩ := hpj
                  rw [f0] at hft
                  exact .inl ⟨⟨rfl, rfl⟩, hft⟩
                · rw [f1 p j hpj] at hft
                  rcases hget p q h with ⟨rfl, rfl⟩ | ⟨g1, g2, g3⟩
                  · rcases hcell j x hx with ⟨hj, _⟩ | ⟨hj, hx'⟩
                    · exact absurd ⟨rfl, hj⟩ hpj
                    · exact .inr ⟨fun e => hne e.symm, hpj, ob, x, ho, hx', hox, hft⟩
                  · exact .inr ⟨g2, hpj, q, x, g3, hx, hox, hft⟩
              have hown : ∀ b', Own ((σ.set o' none).set o (some ob1)) ι1 b' → Own σ ι b' := by
                rintro b' (⟨p, q, h, hq, rfl⟩ | ⟨p, j, h⟩)
                · rcases hget p q h with ⟨rfl, rfl⟩ | ⟨g1, g2, g3⟩
                  · exact .inl ⟨p, ob, ho, hfz, rfl⟩
                  · exact .inl ⟨p, q, g3, hq, rfl⟩
                · rcases htb p j b' h with ⟨_, h'⟩ | ⟨_, _, h'⟩
                  · exact hSo b' h'
                  · exact .inr ⟨p, j, h'⟩
              have hsub : Sub w σ ι X ((σ.set o' none).set o (some ob1)) ι1 X := by
                refine ⟨by simp, fun p hp q h => ?_, fun b' hb' hn => ⟨fun ho => hn.1 (hown b' ho), hn.2⟩⟩
                rcases hget p q h with ⟨rfl, rfl⟩ | ⟨g1, g2, g3⟩
                · exact ⟨ob, ho, h1s.1, h1s.2.1, h1s.2.2, rfl, fun _ => hfz⟩
                · exact ⟨q, g3, rfl, rfl, rfl, rfl, fun h => h⟩
              -- S against the rest
              have hSt : ∀ p j b', p ≠ o' → Tb σ ι p j b' → ¬ S b' := by
                rintro p j b' hp h (h' | ⟨j', h'⟩)
                · exact hh.tob p j b' h o' ob' ho' h'
                · exact hp (hh.tin p o' j j' b' h h').1
              have hSb : ∀ p q, p ≠ o' → σ[p]? = some (some q) → ∀ b', S b' → (ι p).1 ≠ b' := by
                rintro p q hp h b' (h' | ⟨j', h'⟩) e
                · exact hp (hh.inj o' p ob' q ho' h hf' (h'.trans e.symm)).symm
                · exact hh.tob o' j' b' h' p q h e
              refine ⟨ι1, ⟨fun p q h => ?_, fun p p' q q' h h' hqf heq => ?_, fun p q h => ?_, fun p q h hqf => ?_, fun p p' j j' b' h h' => ?_, fun p j b' h p' q h' => ?_, fun p j b' h => ?_⟩, hsub, hown⟩
              · rcases hget p q h with ⟨rfl, rfl⟩ | ⟨g1, g2, g3⟩
                · show ∃ cur : Array Value, w.heap[(ι p).1]? = _ ∧ cur.size = (ι p).2 * _ ∧ _ ≤ (ι p).2 ∧ (ι p).2 ≤ maxLen ∧ _
                  rw [h1s.1, h1s.2.1, h1s.2.2]
                  refine ⟨cu, c1, c2, c3, c4, fun e' he' => ?_, fun j x hx => ?_⟩
                  · rw [← hob1] at he'; exact cell_len c5 he _ e' he'
                  · rcases hcell j x hx with ⟨rfl, rfl⟩ | ⟨hj, hx'⟩
                    · exact ⟨v, hv0, .own _ _ _ _ _ _, fun _ => by rw [f0]; exact ht.sub hsub⟩
                    · obtain ⟨u, hu, hr'⟩ := c6 j x hx'
                      exact ⟨u, hu, hr'.sub hsub fun _ => f1 p j fun h => hj h.2⟩
                · obtain ⟨cu', d1, d2, d3, d4, d5, d6⟩ := hh.obj p q g3
                  exact ⟨cu', d1, d2, d3, d4, d5, fun j x hx => by
                    obtain ⟨u, hu, hr'⟩ := d6 j x hx
                    exact ⟨u, hu, hr'.sub hsub fun _ => f1 p j fun h => g1 h.1⟩⟩
              · rcases hget p q h with ⟨rfl, rfl⟩ | ⟨g1, g2, g3⟩ <;> rcases hget p' q' h' with ⟨rfl, rfl⟩ | ⟨g4, g5, g6⟩
                · rfl
                · exact hh.inj _ _ ob q' ho g6 hfz heq
                · exact hh.inj _ _ q ob g3 ho hqf heq
                · exact hh.inj _ _ q q' g3 g6 hqf heq
              · rcases hget p q h with ⟨rfl, rfl⟩ | ⟨g1, g2, g3⟩
                · exact hh.out p ob ho
                · exact hh.out p q g3
              · rcases hget p q h with ⟨rfl, rfl⟩ | ⟨g1, g2, g3⟩
                · rw [h1f] at hqf; cases hqf
                · exact hh.fro p q g3 hqf
              · rcases htb p j b' h with ⟨⟨rfl, rfl⟩, g2⟩ | ⟨g1, g0, g2⟩ <;> rcases htb p' j' b' h' with ⟨⟨rfl, rfl⟩, g4⟩ | ⟨g3, g5, g4⟩
                · exact ⟨rfl, rfl⟩
                · exact absurd g2 (hSt p' j' b' g3 g4)
                · exact absurd g4 (hSt p j b' g1 g2)
                · exact hh.tin p p' j j' b' g2 g4
              · have hq : p' ≠ o' ∧ ∃ q', σ[p']? = some (some q') := by
                  rcases hget p' q h' with ⟨rfl, rfl⟩ | ⟨g1, g2, g3⟩
                  · exact ⟨fun e => hne e.symm, ob, ho⟩
                  · exact ⟨g2, q, g3⟩
                obtain ⟨hp', q', hq'⟩ := hq
                rcases htb p j b' h with ⟨_, g2⟩ | ⟨g1, g0, g2⟩
                · exact hSb p' q' hp' hq' b' g2
                · exact hh.tob p j b' g2 p' q' hq'
              · rcases htb p j b' h with ⟨_, g2⟩ | ⟨g1, g0, g2⟩
                · rcases g2 with h' | ⟨j', h'⟩
                  · exact fun hx => hh.out o' ob' ho' (h' ▸ hx)
                  · exact hh.tx o' j' b' h'
                · exact hh.tx p j b' g2
            · cases h
          · cases h
        · cases h
      · cases h
  · cases h

/-! #### Freezing -/
mutual
theorem unown_pure {x : PV} : pureV x = true → unown x = x := by
  intro h
  cases x with
  | agg cs => simp only [unown]; rw [unownL_pure (by simpa [pureV] using h)]
  | tup cs => simp only [unown]; rw [unownL_pure (by simpa [pureV] using h)]
  | own => simp [pureV] at h
  | _ => rfl
theorem unownL_pure {xs : List PV} : pureL xs = true → unownL xs = xs := by
  intro h
  cases xs with
  | nil => rfl
  | cons y ys => simp only [pureL, Bool.and_eq_true] at h; simp only [unownL]; rw [unown_pure h.1, unownL_pure h.2]
end
mutual
theorem ir_pure {B : Nat → Prop} : ∀ (x : PV) (v : Value), IR w B x v → pureV x = true
  | .bool b, v, h => rfl
  | .int k n, v, h => rfl
  | .str s, v, h => rfl
  | .nilp, v, h => rfl
  | .nilfn, v, h => rfl
  | .nilif, v, h => rfl
  | .someif, v, h => rfl
  | .iptr l, v, _ => rfl
  | .imm .., v, _ => rfl
  | .ptr .., v, h => by cases h
  | .ref .., v, h => by cases h
  | .own .., v, h => by cases h
  | .undef, v, h => by cases h
  | .fn f cs, v, h => by cases h with | fn _ _ vs hl hr => simp only [pureV]; exact irs_pure cs vs hl hr
  | .agg cs, v, h => by cases h with | agg _ vs hl hr => simp only [pureV]; exact irs_pure cs vs hl hr
  | .tup cs, v, h => by cases h with | tup _ vs hl hr => simp only [pureV]; exact irs_pure cs vs hl hr
theorem irs_pure {B : Nat → Prop} : ∀ (xs : List PV) (vs : List Value), xs.length = vs.length → (∀ (j : Nat) (x : PV) (v : Value), xs[j]? = some x → vs[j]? = some v → IR w B x v) → pureL xs = true
  | [], vs, _, _ => rfl
  | y :: ys, [], h, _ => by simp at h
  | y :: ys, u :: us, hl, h => by
    simp only [pureL, Bool.and_eq_true]
    exact ⟨ir_pure y u (h 0 y u rfl rfl), irs_pure ys us (by simpa using hl) fun j x v hx hv => h (j + 1) x v (by simpa using hx) (by simpa using hv)⟩
end
theorem unownLL_len (es : List (List PV)) : (unownLL es).length = es.length := by rw [unownLL_map]; simp
theorem unownL_len (es : List PV) : (unownL es).length = es.length := by rw [unownL_map]; simp
theorem unown_flat (es : List (List PV)) : (unownLL es).flatten = es.flatten.map unown := by
  rw [unownLL_map]
  induction es with
  | nil => rfl
  | cons e es ih => simp only [List.map_cons, List.flatten_cons, List.map_append, ih, unownL_map]
/-- A tree, to be read only. -/
theorem TR.unown {B B' : Nat → Prop} {x : PV} {v : Value} {S : Nat → Prop} (h : TR w B x v S) (hB : ∀ b, b < w.heap.size → B b → B' b) : (∀ b, S b → B' b) → IR w B' (Go.Mach.unown x) v := by
  induction h with
  | im x v S hx h hS => intro _; rw [unown_pure (ir_pure x v h)]; exact h.mono fun b hb hn => ⟨hB b hb hn, rfl⟩
  | own es n sz ty lim A b c m cur S T vs hb hcs hcm hm hn hc hl hl' hA hz hv hr hS hT hd ih =>
    intro hSB
    have happ : (unownLL es).take n ++ (unownLL es).drop n = unownLL es := List.take_append_drop _ _
    have hlen : ((unownLL es).take n).length = n := by simp [unownLL_len]; omega
    have hlen2 : ((unownLL es).drop n).length = es.length - n := by simp [unownLL_len]
    have hcell : ∀ (j : Nat) (x : PV), (unownLL es).flatten[j]? = some x → ∃ y, es.flatten[j]? = some y ∧ x = Go.Mach.unown y := by
      intro j x hj
      rw [unown_flat, List.getElem?_map, Option.map_eq_some_iff] at hj
      obtain ⟨y, hy, rfl⟩ := hj
      exact ⟨y, hy, rfl⟩
    have key := IR.imm (w := w) (B := B') ((unownLL es).take n) ((unownLL es).drop n) lim A ⟨b, 0, none⟩ c sz vs (by rw [hlen, hlen2]; omega) (by omega) (fun h => by rw [hlen, hlen2]; have := hl h; omega)
      (fun hp => hA (by rw [happ, unownLL_len] at hp; omega)) (fun _ => hSB b ((hS b).2 (.inl rfl))) (fun e he => by
        rw [happ, unownLL_map] at he
        obtain ⟨e0, he0, rfl⟩ := List.mem_map.1 he
        rw [unownL_len]; exact hz e0 he0)
      (fun j x hj => by
        rw [happ] at hj
        obtain ⟨y, hy, _⟩ := hcell j x hj
        rw [Addr.add_mid, cell_of_row w _ _ cur ty (0, 0) hb, Nat.zero_add, hv j y hy])
      (fun j x hj => by
        rw [happ] at hj
        obtain ⟨y, hy, rfl⟩ := hcell j x hj
        exact ih j y hy fun b' hb' => hSB b' ((hS b').2 (.inr ⟨j, y, hy, hb'⟩)))
    rw [hlen] at key
    simpa only [Go.Mach.unown] using key

theorem HR.frz (hh : HR w σ ι X) {o : Nat} (h : frzG σ o = some σ') : HR w σ' ι X ∧ Sub w σ ι X σ' ι X ∧ ∀ b, Own σ' ι b → Own σ ι b := by
  unfold frzG at h
  split at h
  · rename_i ob ho
    split at h
    · rename_i htr
      cases h
      have holt := obj_lt ho
      have htree : ∀ (j : Nat) (x : PV), ob.es.flatten[j]? = some x → treeV x = true := by
        intro j x hj
        obtain ⟨e, he, hxe⟩ := List.mem_flatten.1 (List.mem_of_getElem? hj)
        exact List.all_eq_true.1 (List.all_eq_true.1 htr e he) x hxe
      have hget : ∀ (p : Nat) (q : AObj), (σ.set o (some { ob with es := unownLL ob.es, frz := true }))[p]? = some (some q) → (p = o ∧ q = { ob with es := unownLL ob.es, frz := true }) ∨ (p ≠ o ∧ σ[p]? = some (some q)) := by
        intro p q h
        rw [set_get] at h
        split at h
        · rename_i e; subst e; rw [if_pos holt] at h; cases h; exact .inl ⟨rfl, rfl⟩
        · rename_i e; exact .inr ⟨fun e' => e e'.symm, h⟩
      have hno : ∀ x, x ∈ (unownLL ob.es).flatten → isOwn x = false := by
        intro x hx
        rw [unown_flat] at hx
        obtain ⟨y, hy, rfl⟩ := List.mem_map.1 hx
        cases y <;> simp [Go.Mach.unown, isOwn]
      have htb : ∀ p j b', Tb (σ.set o (some { ob with es := unownLL ob.es, frz := true })) ι p j b' → p ≠ o ∧ Tb σ ι p j b' := by
        rintro p j b' ⟨q, x, h, hx, hox, hft⟩
        rcases hget p q h with ⟨rfl, rfl⟩ | ⟨g1, g2⟩
        · rw [hno x (List.mem_of_getElem? hx)] at hox; cases hox
        · exact ⟨g1, q, x, g2, hx, hox, hft⟩
      have hown : ∀ b', Own (σ.set o (some { ob with es := unownLL ob.es, frz := true })) ι b' → Own σ ι b' := by
        rintro b' (⟨p, q, h, hq, rfl⟩ | ⟨p, j, h⟩)
        · rcases hget p q h with ⟨rfl, rfl⟩ | ⟨g1, g2⟩
          · cases hq
          · exact .inl ⟨p, q, g2, hq, rfl⟩
        · exact .inr ⟨p, j, (htb p j b' h).2⟩
      have hsub : Sub w σ ι X (σ.set o (some { ob with es := unownLL ob.es, frz := true })) ι X := by
        refine ⟨by simp, fun p hp q h => ?_, fun b' hb' hn => ⟨fun ho => hn.1 (hown b' ho), hn.2⟩⟩
        rcases hget p q h with ⟨rfl, rfl⟩ | ⟨g1, g2⟩
        · exact ⟨ob, ho, rfl, rfl, unownLL_len _, rfl, fun h => by cases h⟩
        · exact ⟨q, g2, rfl, rfl, rfl, rfl, fun h => h⟩
      refine ⟨⟨fun p q h => ?_, fun p p' q q' h h' hqf heq => ?_, fun p q h => ?_, fun p q h hqf => ?_, fun p p' j j' b' h h' => hh.tin p p' j j' b' (htb _ _ _ h).2 (htb _ _ _ h').2, fun p j b' h p' q h' => ?_, fun p j b' h => hh.tx p j b' (htb _ _ _ h).2⟩, hsub, hown⟩
      · rcases hget p q h with ⟨rfl, rfl⟩ | ⟨g1, g2⟩
        · obtain ⟨cu, c1, c2, c3, c4, c5, c6⟩ := hh.obj p ob ho
          refine ⟨cu, c1, c2, by simp only [unownLL_len]; exact c3, c4, fun e he => ?_, fun j x hx => ?_⟩
          · simp only [unownLL_map] at he
            obtain ⟨e0, he0, rfl⟩ := List.mem_map.1 he
            rw [unownL_len]; exact c5 e0 he0
          · simp only [unown_flat, List.getElem?_map, Option.map_eq_some_iff] at hx
            obtain ⟨y, hy, rfl⟩ := hx
            obtain ⟨u, hu, hr⟩ := c6 j y hy
            have hnox : isOwn (Go.Mach.unown y) = false := hno _ (by rw [unown_flat]; exact List.mem_map_of_mem (List.mem_of_getElem? hy))
            refine ⟨u, hu, ?_, fun h => by rw [hnox] at h; cases h⟩
            cases hoy : isOwn y with
            | true =>
              refine .im _ _ ((hr.2 hoy).unown (fun b hb hn => hsub.blk b hb hn) fun b hb => ?_)
              have hTb : Tb σ ι p j b := ⟨ob, y, ho, hy, hoy, hb⟩
              refine ⟨?_, hh.tx p j b hTb⟩
              rintro (⟨p', q, h, hq, rfl⟩ | ⟨p', j', h⟩)
              · rcases hget p' q h with ⟨rfl, rfl⟩ | ⟨g1, g2⟩
                · cases hq
                · exact hh.tob p j _ hTb p' q g2 rfl
              · obtain ⟨g1, g2⟩ := htb p' j' b h
                exact g1 (hh.tin p' p j' j b g2 hTb).1
            | false =>
              have hp := htree j y hy
              simp only [treeV, hoy, Bool.false_or] at hp
              rw [unown_pure hp]
              exact hr.1.sub hsub
        · obtain ⟨cu', d1, d2, d3, d4, d5, d6⟩ := hh.obj p q g2
          exact ⟨cu', d1, d2, d3, d4, d5, fun j x hx => by
            obtain ⟨u, hu, hr'⟩ := d6 j x hx
            exact ⟨u, hu, hr'.sub hsub fun _ => rfl⟩⟩
      · rcases hget p q h with ⟨rfl, rfl⟩ | ⟨g1, g2⟩ <;> rcases hget p' q' h' with ⟨rfl, rfl⟩ | ⟨g4, g6⟩
        · rfl
        · cases hqf
        · exact hh.inj _ _ q ob g2 ho hqf heq
        · exact hh.inj _ _ q q' g2 g6 hqf heq
      · rcases hget p q h with ⟨rfl, rfl⟩ | ⟨g1, g2⟩
        · exact hh.out p ob ho
        · exact hh.out p q g2
      · rcases hget p q h with ⟨rfl, rfl⟩ | ⟨g1, g2⟩
        · exact hno
        · exact hh.fro p q g2 hqf
      · rcases hget p' q h' with ⟨rfl, rfl⟩ | ⟨g1, g2⟩
        · exact hh.tob p j b' (htb _ _ _ h).2 _ ob ho
        · exact hh.tob p j b' (htb _ _ _ h).2 _ q g2
    · cases h
  · cases h

theorem Sub.refl (w : World) (σ : Heap) (ι : Place) (X : Nat → Prop) : Sub w σ ι X σ ι X := ⟨Nat.le_refl _, fun o _ ob h => ⟨ob, h, rfl, rfl, rfl, rfl, fun h => h⟩, fun _ _ h => h⟩
theorem Sub.trans {σ2 : Heap} {ι2 : Place} {X2 : Nat → Prop} (h : Sub w σ ι X σ' ι' X') (h' : Sub w σ' ι' X' σ2 ι2 X2) : Sub w σ ι X σ2 ι2 X2 :=
  ⟨Nat.le_trans h.len h'.len, fun o ho ob2 h2 => by
    obtain ⟨ob1, h1, a1, a2, a3, a4, a5⟩ := h'.obj o (Nat.lt_of_lt_of_le ho h.len) ob2 h2
    obtain ⟨ob, h0, b1, b2, b3, b4, b5⟩ := h.obj o ho ob1 h1
    exact ⟨ob, h0, a1.trans b1, a2.trans b2, a3.trans b3, a4.trans b4, fun hf => b5 (a5 hf)⟩, fun b hb hn => h'.blk b hb (h.blk b hb hn)⟩

/-- Steps of the proof alone. -/
theorem HR.gop (hh : HR w σ ι X) {g : GOp} (h : gop σ g = some σ') : ∃ ι', HR w σ' ι' X ∧ Sub w σ ι X σ' ι' X ∧ ∀ b, Own σ' ι' b → Own σ ι b := by
  cases g with
  | abs o i off => exact hh.abs h
  | frz o => exact ⟨ι, hh.frz h⟩
theorem HR.gops : ∀ {gs : List GOp} {σ : Heap} {ι : Place}, HR w σ ι X → gops gs σ = some σ' → ∃ ι', HR w σ' ι' X ∧ Sub w σ ι X σ' ι' X ∧ ∀ b, Own σ' ι' b → Own σ ι b
  | [], σ, ι, hh, h => by simp [Go.Mach.gops] at h; subst h; exact ⟨ι, hh, Sub.refl _ _ _ _, fun _ h => h⟩
  | g :: gs, σ, ι, hh, h => by
    simp only [Go.Mach.gops] at h
    split at h
    · rename_i σ1 h1
      obtain ⟨ι1, a1, a2, a3⟩ := hh.gop h1
      obtain ⟨ι2, b1, b2, b3⟩ := HR.gops a1 h
      exact ⟨ι2, b1, a2.trans b2, fun b hb => a3 b (b3 b hb)⟩
    · cases h

/-! #### Loads -/
theorem HR.unf1 (hh : HR w σ ι X) (o i off : Nat) : ∃ ι', HR w (unf1 σ o i off) ι' X ∧ Sub w σ ι X (unf1 σ o i off) ι' X ∧ ∀ b, Own (unf1 σ o i off) ι' b → Own σ ι b := by
  have triv : ∃ ι', HR w σ ι' X ∧ Sub w σ ι X σ ι' X ∧ ∀ b, Own σ ι' b → Own σ ι b := ⟨ι, hh, Sub.refl _ _ _ _, fun _ h => h⟩
  unfold Go.Mach.unf1
  split
  · rename_i ob ho
    split
    · rename_i e he
      split
      · rename_i es n sz ty lim hx
        exact hh.unf ho he hx
      · exact triv
    · exact triv
  · exact triv
theorem HR.unfs (o i : Nat) : ∀ (n off : Nat) {σ : Heap} {ι : Place}, HR w σ ι X → ∃ ι', HR w (unfs o i n off σ) ι' X ∧ Sub w σ ι X (unfs o i n off σ) ι' X ∧ ∀ b, Own (unfs o i n off σ) ι' b → Own σ ι b
  | 0, off, σ, ι, hh => ⟨ι, hh, Sub.refl _ _ _ _, fun _ h => h⟩
  | n + 1, off, σ, ι, hh => by
    obtain ⟨ι1, a1, a2, a3⟩ := hh.unf1 o i off
    obtain ⟨ι2, b1, b2, b3⟩ := HR.unfs o i n (off + 1) a1
    exact ⟨ι2, b1, a2.trans b2, fun b hb => a3 b (b3 b hb)⟩
end

section
variable {P : Program} {X : Nat → Prop} {w : World} {ι : Place} {σ : Heap}
theorem op_load {ag : Bool} {sz : Nat} {t : TypeId} {u : Value} {x : PV} {s : Sem Next} (hag : agT P t = some ag) (hsz : szT P t = some sz) (hh : HR w σ ι X) (hx : VR w σ ι X x u)
    (hs : s = (do pure (.value (← Instr.loadAt t u)))) : EvOk P X s w σ ι (loadV σ ag sz x) := by
  cases x with
  | iptr l => exact op_iload hag hsz hh hx hs
  | ptr o ep i off =>
    simp only [loadV]
    split
    · split
      · split
        · obtain ⟨ι1, a1, a2, a3⟩ := HR.unfs o i sz off hh
          have hok := op_plain hag hsz a1 (hx.sub a2) hs
          cases hp : plainV (unfs o i sz off σ) ag sz o ep i off with
          | ok v =>
            rw [hp] at hok
            simp only [hpOf]
            intro _
            obtain ⟨n, w', ι', u', h1, h2, h3, h4, h5, h6⟩ := hok
            have he : Evo w σ ι (unfs o i sz off σ) ι1 := a2.evo fun b hb => .inl (a3 b hb)
            refine ⟨n, w', ι', u', h1, h2, h3, h4, (Kept.refl fun b _ ho => hh.own_cells ho).trans h5 fun b hb => .inl (a3 b hb), he.trans h6 (Nat.le_refl _)⟩
          | _ => exact True.intro
        · exact op_plain hag hsz hh hx hs
      · exact True.intro
    · exact True.intro
  | _ => exact True.intro
end
end Go.Mach
