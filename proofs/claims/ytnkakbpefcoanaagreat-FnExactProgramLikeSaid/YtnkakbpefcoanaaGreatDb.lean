import Derived.Test.YtnkakbpefcoanaaGreatDa
/- The program's own ProgramOk is the reference's. -/
namespace Go.Mach
set_option linter.unusedVariables false

section
variable {α : Type}
theorem idxFrom_shift (q : α → Bool) : ∀ (l : List α) (i : Nat), idxFrom q l i = if 0 ≤ idxFrom q l 0 then idxFrom q l 0 + i else -1 := by
  intro l
  induction l with
  | nil => intro i; simp [idxFrom]
  | cons x xs ih =>
    intro i
    by_cases h : q x = true
    · have e : ∀ j, idxFrom q (x :: xs) j = j := fun j => by simp [idxFrom, h]
      rw [e, e]
      simp
    · have e : ∀ j, idxFrom q (x :: xs) j = idxFrom q xs (j + 1) := fun j => by simp [idxFrom, h]
      rw [e, e, ih (i + 1), ih (0 + 1)]
      by_cases h2 : 0 ≤ idxFrom q xs 0
      · rw [if_pos h2, if_pos h2, if_pos (by omega)]; omega
      · rw [if_neg h2, if_neg h2, if_neg (by omega)]
/-- The first of its name. -/
theorem idxFrom_first (f : α → Str) (a : α) (suf : List α) : ∀ (pre : List α), idxFrom (fun x => f x == f a) (pre ++ a :: suf) 0 = pre.length ↔ f a ∉ pre.map f
  | [] => by simp [idxFrom]
  | x :: xs => by
    have ih := idxFrom_first f a suf xs
    simp only [List.cons_append, idxFrom, List.map_cons, List.mem_cons, List.length_cons, not_or]
    by_cases h : f x = f a
    · have h1 : (f x == f a) = true := by simpa using h
      rw [if_pos h1]
      constructor
      · intro h2; exfalso; omega
      · intro h2; exact absurd h.symm h2.1
    · have h1 : ¬ (f x == f a) = true := by simpa using h
      rw [if_neg h1, idxFrom_shift]
      rw [← ih]
      constructor
      · intro h2
        refine ⟨fun e => h e.symm, ?_⟩
        split at h2 <;> omega
      · rintro ⟨_, h2⟩
        rw [h2, if_pos (by omega)]
        omega
theorem idxFrom_neg (q : α → Bool) (l : List α) : ¬ 0 ≤ idxFrom q l 0 ↔ ∀ x, x ∈ l → q x = false := by
  have h := idxFrom_nn q l 0
  constructor
  · intro h1 x hx
    rw [decide_eq_false h1] at h
    have := List.any_eq_false.1 h.symm x hx
    simpa using this
  · intro h1 h2
    rw [decide_eq_true h2] at h
    obtain ⟨x, hx, hq⟩ := List.any_eq_true.1 h.symm
    rw [h1 x hx] at hq
    cases hq
end
theorem nodup_snoc {l : List Str} {a : Str} (h : l.Nodup) (ha : a ∉ l) : (l ++ [a]).Nodup := by
  rw [List.nodup_append]
  exact ⟨h, by simp, fun x hx y hy e => by simp at hy; subst hy; subst e; exact ha hx⟩
theorem nodup_mid {l r : List Str} {a : Str} (h : (l ++ a :: r).Nodup) : a ∉ l := by
  rw [List.nodup_append] at h
  exact fun ha => h.2.2 a ha a (by simp) rfl

/-! #### The reference's -/
theorem declsOk_iff (m : Module) : ∀ (suf pre : List Decl), m.decls = pre ++ suf → (pre.map Decl.name).Nodup →
    (declsOk m suf pre.length = true ↔ (∀ d, d ∈ suf → validDecl d = true ∧ d.name ∉ m.uses.map Use.name) ∧ ((pre ++ suf).map Decl.name).Nodup)
  | [], pre, _, hn => by simp [declsOk, hn]
  | d :: r, pre, hm, hn => by
    have ih := declsOk_iff m r (pre ++ [d]) (by simp [hm])
    have h1 := idxFrom_first Decl.name d r pre
    have h2 := idxFrom_neg (fun u : Use => u.name == d.name) m.uses
    have h4 : (∀ x, x ∈ m.uses → (x.name == d.name) = false) ↔ d.name ∉ m.uses.map Use.name := by
      simp only [List.mem_map, not_exists, not_and, beq_eq_false_iff_ne, ne_eq]
    have h5 : (!decide (0 ≤ useAt m d.name)) = true ↔ d.name ∉ m.uses.map Use.name := by
      rw [Bool.not_eq_true', decide_eq_false_iff_not]; exact h2.trans h4
    have h6 : declAt m d.name = ((pre.length : Nat) : Int) ↔ d.name ∉ pre.map Decl.name := by rw [declAt, hm]; exact h1
    simp only [declsOk, Bool.and_eq_true, beq_iff_eq, h5, h6]
    simp only [List.length_append, List.length_singleton] at ih
    constructor
    · rintro ⟨a1, a2, a3, a4⟩
      have hn2 : ((pre ++ [d]).map Decl.name).Nodup := by simpa using nodup_snoc hn a2
      obtain ⟨b1, b2⟩ := (ih hn2).1 a4
      refine ⟨fun x hx => ?_, by simpa using b2⟩
      rcases List.mem_cons.1 hx with rfl | hx
      · exact ⟨a1, a3⟩
      · exact b1 x hx
    · rintro ⟨a1, a2⟩
      have a3 : d.name ∉ pre.map Decl.name := nodup_mid (r := r.map Decl.name) (by simpa using a2)
      have hn2 : ((pre ++ [d]).map Decl.name).Nodup := by simpa using nodup_snoc hn a3
      exact ⟨(a1 d (by simp)).1, a3, (a1 d (by simp)).2, (ih hn2).2 ⟨fun x hx => a1 x (by simp [hx]), by simpa using a2⟩⟩
theorem usesOk_iff (p : List Module) (m : Module) : ∀ (suf pre : List Use), m.uses = pre ++ suf → (pre.map Use.name).Nodup →
    (usesOk p m suf pre.length = true ↔ (∀ u, u ∈ suf → useOk p m u = true) ∧ ((pre ++ suf).map Use.name).Nodup)
  | [], pre, _, hn => by simp [usesOk, hn]
  | d :: r, pre, hm, hn => by
    have ih := usesOk_iff p m r (pre ++ [d]) (by simp [hm])
    have h1 := idxFrom_first Use.name d r pre
    simp only [usesOk, useAt, hm, Bool.and_eq_true, beq_iff_eq, h1]
    simp only [List.length_append, List.length_singleton] at ih
    constructor
    · rintro ⟨a1, a2, a4⟩
      have hn2 : ((pre ++ [d]).map Use.name).Nodup := by simpa using nodup_snoc hn a2
      obtain ⟨b1, b2⟩ := (ih hn2).1 a4
      refine ⟨fun x hx => ?_, by simpa using b2⟩
      rcases List.mem_cons.1 hx with rfl | hx
      · exact a1
      · exact b1 x hx
    · rintro ⟨a1, a2⟩
      have a3 : d.name ∉ pre.map Use.name := nodup_mid (r := r.map Use.name) (by simpa using a2)
      have hn2 : ((pre ++ [d]).map Use.name).Nodup := by simpa using nodup_snoc hn a3
      exact ⟨a1 d (by simp), a3, (ih hn2).2 ⟨fun x hx => a1 x (by simp [hx]), by simpa using a2⟩⟩
theorem modsOk_iff (p : List Module) : ∀ (suf pre : List Module), p = pre ++ suf → (pre.map Module.name).Nodup →
    (modsOk p suf pre.length = true ↔ (∀ m, m ∈ suf → validModule p m = true ∧ recsOk p m.decls = true) ∧ ((pre ++ suf).map Module.name).Nodup)
  | [], pre, _, hn => by simp [modsOk, hn]
  | d :: r, pre, hm, hn => by
    have ih := modsOk_iff p r (pre ++ [d]) (by simp [hm])
    have h1 := idxFrom_first Module.name d r pre
    have h0 : moduleAt p d.name = idxFrom (fun x => x.name == d.name) (pre ++ d :: r) 0 := by rw [moduleAt, hm]
    simp only [modsOk, h0, Bool.and_eq_true, beq_iff_eq, h1]
    simp only [List.length_append, List.length_singleton] at ih
    constructor
    · rintro ⟨a1, a2, a3, a4⟩
      have hn2 : ((pre ++ [d]).map Module.name).Nodup := by simpa using nodup_snoc hn a2
      obtain ⟨b1, b2⟩ := (ih hn2).1 a4
      refine ⟨fun x hx => ?_, by simpa using b2⟩
      rcases List.mem_cons.1 hx with rfl | hx
      · exact ⟨a1, a3⟩
      · exact b1 x hx
    · rintro ⟨a1, a2⟩
      have a3 : d.name ∉ pre.map Module.name := nodup_mid (r := r.map Module.name) (by simpa using a2)
      have hn2 : ((pre ++ [d]).map Module.name).Nodup := by simpa using nodup_snoc hn a3
      exact ⟨(a1 d (by simp)).1, a3, (a1 d (by simp)).2, (ih hn2).2 ⟨fun x hx => a1 x (by simp [hx]), by simpa using a2⟩⟩
/-- What is asked of a module by itself, and of the names that it uses. -/
def ModOk (p : List Module) (m : Module) : Prop := isName m.name = true ∧ m.decls.length ≤ 6 ∧ m.uses.length ≤ 4 ∧ (∀ d, d ∈ m.decls → validDecl d = true) ∧ (∀ u, u ∈ m.uses → useOk p m u = true) ∧ (m.uses.map Use.name ++ m.decls.map Decl.name).Nodup
theorem validModule_iff (p : List Module) (m : Module) : validModule p m = true ↔ ModOk p m := by
  have h1 := declsOk_iff m m.decls [] rfl (by simp)
  have h2 := usesOk_iff p m m.uses [] rfl (by simp)
  simp only [List.length_nil, List.nil_append] at h1 h2
  simp only [validModule, Bool.and_eq_true, h1, h2, decide_eq_true_eq, ModOk]
  rw [List.nodup_append]
  constructor
  · rintro ⟨⟨a1, a2⟩, ⟨b1, b2⟩, c1, c2, c3⟩
    exact ⟨c1, by omega, by omega, fun d hd => (a1 d hd).1, b1, b2, a2, fun x hx y hy e => by
      obtain ⟨d, hd, rfl⟩ := List.mem_map.1 hy
      exact (a1 d hd).2 (e ▸ hx)⟩
  · rintro ⟨c1, c2, c3, a1, b1, b2, a2, a3⟩
    exact ⟨⟨fun d hd => ⟨a1 d hd, fun h => a3 _ h _ (List.mem_map_of_mem hd) rfl⟩, a2⟩, ⟨b1, b2⟩, c1, by omega, by omega⟩

/-! #### Records -/
def recNames (l : List Decl) : List Str := (l.filter fun d => d.kind == 1).map Decl.name
def allRecs (p : List Module) : List Str := p.flatMap fun m => recNames m.decls
theorem at_idx {α : Type} (q : α → Bool) : ∀ (l : List α), at' l (idxFrom q l 0) = l.find? q
  | [] => by simp [idxFrom, at']
  | x :: xs => by
    have ih := at_idx q xs
    by_cases h : q x = true
    · have e : idxFrom q (x :: xs) 0 = 0 := by simp [idxFrom, h]
      rw [e]
      simp [at', h]
    · have e : idxFrom q (x :: xs) 0 = idxFrom q xs (0 + 1) := by simp [idxFrom, h]
      rw [e, idxFrom_shift]
      simp only [List.find?_cons, h]
      rw [← ih]
      by_cases h2 : 0 ≤ idxFrom q xs 0
      · rw [if_pos h2]
        have h3 : (idxFrom q xs 0 + ((0 + 1 : Nat) : Int)).toNat = (idxFrom q xs 0).toNat + 1 := by omega
        simp only [at', h3, List.getElem?_cons_succ]
        rw [if_neg (by omega), if_neg (by omega)]
      · rw [if_neg h2]
        simp only [at']
        rw [if_pos (by omega), if_pos (by omega)]
theorem recNames_cons (d : Decl) (r : List Decl) : recNames (d :: r) = if d.kind == 1 then d.name :: recNames r else recNames r := by
  simp only [recNames, List.filter_cons]
  split <;> simp
theorem recNames_sub {l : List Decl} {n : Str} (h : n ∈ recNames l) : n ∈ l.map Decl.name := by
  obtain ⟨d, hd, rfl⟩ := List.mem_map.1 h
  exact List.mem_map_of_mem (List.mem_filter.1 hd).1
theorem recF_count (n : Str) : ∀ (l : List Decl), (l.map Decl.name).Nodup → (match l.find? (fun d => d.name == n) with | none => 0 | some d => if d.kind == 1 then 1 else 0) = (recNames l).count n
  | [], _ => rfl
  | d :: r, h => by
    simp only [List.map_cons, List.nodup_cons] at h
    have ih := recF_count n r h.2
    rw [recNames_cons]
    by_cases hd : d.name = n
    · have hz : (recNames r).count n = 0 := by
        rw [List.count_eq_zero]
        exact fun hm => h.1 (hd ▸ recNames_sub hm)
      have h1 : (d.name == n) = true := by simpa using hd
      simp only [List.find?_cons, h1]
      cases hk : d.kind == 1
      · simp [hz]
      · simp [hd, hz]
    · have h1 : (d.name == n) = false := by simpa using hd
      simp only [List.find?_cons, h1]
      rw [ih]
      cases hk : d.kind == 1
      · simp
      · simp [List.count_cons, h1]
theorem recIn_count {m : Module} (h : (m.decls.map Decl.name).Nodup) (n : Str) : recIn m n = (recNames m.decls).count n := by
  rw [recIn, declAt, at_idx, ← recF_count n m.decls h]
  rfl
theorem records_count (n : Str) : ∀ (p : List Module), (∀ m, m ∈ p → (m.decls.map Decl.name).Nodup) → records n p = (allRecs p).count n
  | [], _ => rfl
  | m :: r, h => by
    have := records_count n r fun x hx => h x (by simp [hx])
    simp only [records, recIn_count (h m (by simp)), this, allRecs, List.flatMap_cons, List.count_append]
theorem recsOk_iff (p : List Module) : ∀ (l : List Decl), recsOk p l = true ↔ ∀ n, n ∈ recNames l → records n p ≤ 1
  | [] => by simp [recsOk, recNames]
  | d :: r => by
    have ih := recsOk_iff p r
    simp only [recsOk, Bool.and_eq_true, ih, recNames_cons, Bool.not_eq_true', Bool.and_eq_false_iff, decide_eq_false_iff_not]
    cases hk : d.kind == 1
    · simp
    · simp only [Bool.true_eq_false, false_or, if_true, List.mem_cons]
      constructor
      · rintro ⟨h1, h2⟩ n (rfl | hn)
        · omega
        · exact h2 n hn
      · intro h
        exact ⟨by have := h d.name (.inl rfl); omega, fun n hn => h n (.inr hn)⟩
theorem nodup_count : ∀ (l : List Str), l.Nodup ↔ ∀ n, n ∈ l → l.count n ≤ 1
  | [] => by simp
  | a :: r => by
    have ih := nodup_count r
    rw [List.nodup_cons, ih]
    constructor
    · rintro ⟨h1, h2⟩ n hn
      rw [List.count_cons]
      rcases List.mem_cons.1 hn with rfl | hn
      · have : r.count n = 0 := List.count_eq_zero.2 h1
        simp [this]
      · have : (a == n) = false := by simpa using fun e : a = n => h1 (e ▸ hn)
        simp [this]
        exact h2 n hn
    · intro h
      refine ⟨fun ha => ?_, fun n hn => ?_⟩
      · have h1 := h a (by simp)
        have h2 := List.count_pos_iff.2 ha
        simp at h1
        omega
      · have h1 := h n (by simp [hn])
        rw [List.count_cons] at h1
        omega
theorem allRecs_iff (p : List Module) (h : ∀ m, m ∈ p → (m.decls.map Decl.name).Nodup) : (∀ m, m ∈ p → recsOk p m.decls = true) ↔ (allRecs p).Nodup := by
  rw [nodup_count]
  simp only [recsOk_iff, allRecs, List.mem_flatMap]
  constructor
  · rintro h1 n ⟨m, hm, hn⟩
    have := h1 m hm n hn
    rw [records_count n p h] at this
    exact this
  · intro h1 m hm n hn
    rw [records_count n p h]
    exact h1 n ⟨m, hm, hn⟩
theorem programOk_iff (p : List Module) : programOk p = true ↔ (1 ≤ p.length ∧ p.length ≤ 3) ∧ (∀ m, m ∈ p → ModOk p m) ∧ (p.map Module.name).Nodup ∧ (allRecs p).Nodup := by
  have h1 := modsOk_iff p p [] rfl (by simp)
  simp only [List.length_nil, List.nil_append] at h1
  simp only [programOk, Bool.and_eq_true, h1, validModule_iff, inR, decide_eq_true_eq]
  have hd : (∀ m, m ∈ p → ModOk p m) → ∀ m, m ∈ p → (m.decls.map Decl.name).Nodup := fun h m hm => by
    have := (h m hm).2.2.2.2.2
    rw [List.nodup_append] at this
    exact this.2.1
  constructor
  · rintro ⟨⟨a1, a2⟩, a3⟩
    have a4 : ∀ m, m ∈ p → ModOk p m := fun m hm => (a1 m hm).1
    exact ⟨by omega, a4, a2, (allRecs_iff p (hd a4)).1 fun m hm => (a1 m hm).2⟩
  · rintro ⟨a1, a2, a3, a4⟩
    have a5 := (allRecs_iff p (hd a2)).2 a4
    exact ⟨⟨fun m hm => ⟨a2 m hm, a5 m hm⟩, a3⟩, by omega⟩

/-! #### The program's own -/
theorem useBad_iff {p : List Module} {i : Nat} {m : Module} (hm : p[i]? = some m) (hne : ∀ k x, k < i → p[k]? = some x → x.name ≠ m.name) (u : Use) (b : List Str) : useBadI p i u b = false ↔ useOk p m u = true ∧ u.name ∉ b := by
  unfold useBadI useOk
  rcases idxFrom_cases (fun x : Module => x.name == u.module) p 0 with ⟨h1, _⟩ | ⟨k, hk, h1, h2, h3⟩
  · have : moduleAt p u.module = -1 := h1
    simp [this, at']
  · have h4 : moduleAt p u.module = (k : Int) := by rw [moduleAt, h1]; simp
    have h5 : at' p (moduleAt p u.module) = some p[k] := by
      rw [h4]
      simp only [at', Int.toNat_natCast]
      rw [if_neg (by omega), List.getElem?_eq_getElem hk]
    rw [h5, h4]
    have h6 : p[k].name = u.module := by simpa using h2
    have h7 : ((k : Int) == (i : Int)) = (p[k].name == m.name) := by
      rw [Bool.eq_iff_iff]
      simp only [beq_iff_eq]
      constructor
      · intro e
        have : k = i := by omega
        subst this
        rw [List.getElem?_eq_getElem hk] at hm
        cases hm
        rfl
      · intro e
        rcases Nat.lt_trichotomy k i with h | h | h
        · exact absurd e (hne k _ h (List.getElem?_eq_getElem hk))
        · omega
        · exfalso
          have h8 := h3 i h
          have h9 : p[i]'(by omega) = m := by
            rw [List.getElem?_eq_getElem (by omega)] at hm
            exact Option.some.inj hm
          rw [h9, ← h6, e] at h8
          simp at h8
    simp only [h7, Bool.or_eq_false_iff, Bool.and_eq_true, bne, Bool.not_eq_true', decide_eq_false_iff_not, decide_eq_true_eq, and_assoc]
    have h8 : (b.contains u.name = false) ↔ u.name ∉ b := by simp
    rw [h8]
    constructor
    · rintro ⟨a1, a2, a3⟩; exact ⟨a1, by omega, a3⟩
    · rintro ⟨a1, a2, a3⟩; exact ⟨a1, by omega, a3⟩
theorem usesI_iff {p : List Module} {i : Nat} {m : Module} (hm : p[i]? = some m) (hne : ∀ k x, k < i → p[k]? = some x → x.name ≠ m.name) : ∀ (suf : List Use) (b b' : List Str), b.Nodup →
    (usesI p i suf b = some b' ↔ (∀ u, u ∈ suf → useOk p m u = true) ∧ (b ++ suf.map Use.name).Nodup ∧ b' = b ++ suf.map Use.name)
  | [], b, b', hb => by
    simp only [usesI, List.map_nil, List.append_nil, Option.some.injEq]
    exact ⟨fun h => ⟨fun u hu => (by cases hu), hb, h.symm⟩, fun h => h.2.2.symm⟩
  | u :: r, b, b', hb => by
    have h1 := useBad_iff hm hne u b
    simp only [usesI]
    cases h2 : useBadI p i u b
    · obtain ⟨h3, h4⟩ := h1.1 h2
      have ih := usesI_iff hm hne r (b ++ [u.name]) b' (nodup_snoc hb h4)
      simp only [Bool.false_eq_true, if_false, ih]
      constructor
      · rintro ⟨a1, a2, a3⟩
        exact ⟨fun x hx => by rcases List.mem_cons.1 hx with rfl | hx; exact h3; exact a1 x hx, by simpa using a2, by simpa using a3⟩
      · rintro ⟨a1, a2, a3⟩
        exact ⟨fun x hx => a1 x (by simp [hx]), by simpa using a2, by simpa using a3⟩
    · simp only [if_true]
      constructor
      · intro h; cases h
      · rintro ⟨a1, a2, a3⟩
        have : useBadI p i u b = false := h1.2 ⟨a1 u (by simp), nodup_mid (r := r.map Use.name) (by simpa using a2)⟩
        rw [this] at h2
        cases h2
theorem declsI_iff : ∀ (suf : List Decl) (b a a' : List Str), b.Nodup → a.Nodup →
    (declsI suf b a = some a' ↔ (∀ d, d ∈ suf → validDecl d = true) ∧ (b ++ suf.map Decl.name).Nodup ∧ (a ++ recNames suf).Nodup ∧ a' = a ++ recNames suf)
  | [], b, a, a', hb, ha => by
    simp only [declsI, List.map_nil, List.append_nil, Option.some.injEq, recNames, List.filter_nil]
    exact ⟨fun h => ⟨fun u hu => (by cases hu), hb, ha, h.symm⟩, fun h => h.2.2.2.symm⟩
  | d :: r, b, a, a', hb, ha => by
    have h1 : declBad d b a = false ↔ validDecl d = true ∧ d.name ∉ b ∧ (d.kind == 1) = false ∨ validDecl d = true ∧ d.name ∉ b ∧ (d.kind == 1) = true ∧ d.name ∉ a := by
      unfold declBad
      cases validDecl d <;> cases d.kind == 1 <;> simp
    simp only [declsI, recNames_cons]
    cases h2 : declBad d b a
    · simp only [Bool.false_eq_true, if_false]
      rcases h1.1 h2 with ⟨h3, h4, h5⟩ | ⟨h3, h4, h5, h6⟩
      · have ih := declsI_iff r (b ++ [d.name]) a a' (nodup_snoc hb h4) ha
        simp only [h5, Bool.false_eq_true, if_false, ih]
        constructor
        · rintro ⟨a1, a2, a3⟩
          exact ⟨fun x hx => by rcases List.mem_cons.1 hx with rfl | hx; exact h3; exact a1 x hx, by simpa using a2, a3⟩
        · rintro ⟨a1, a2, a3⟩
          exact ⟨fun x hx => a1 x (by simp [hx]), by simpa using a2, a3⟩
      · have ih := declsI_iff r (b ++ [d.name]) (a ++ [d.name]) a' (nodup_snoc hb h4) (nodup_snoc ha h6)
        simp only [h5, if_true, ih]
        constructor
        · rintro ⟨a1, a2, a3⟩
          exact ⟨fun x hx => by rcases List.mem_cons.1 hx with rfl | hx; exact h3; exact a1 x hx, by simpa using a2, by simpa using a3⟩
        · rintro ⟨a1, a2, a3⟩
          exact ⟨fun x hx => a1 x (by simp [hx]), by simpa using a2, by simpa using a3⟩
    · simp only [if_true]
      constructor
      · intro h; cases h
      · rintro ⟨a1, a2, a3, a4⟩
        have h3 : d.name ∉ b := nodup_mid (r := r.map Decl.name) (by simpa using a2)
        have : declBad d b a = false := by
          rw [h1]
          cases hk : d.kind == 1
          · exact .inl ⟨a1 d (by simp), h3, rfl⟩
          · rw [hk] at a3
            exact .inr ⟨a1 d (by simp), h3, rfl, nodup_mid (r := recNames r) (by simpa using a3)⟩
        rw [this] at h2
        cases h2
theorem modsI_iff (p : List Module) : ∀ (suf pre : List Module) (a : List Str), p = pre ++ suf → (pre.map Module.name).Nodup → a.Nodup →
    (modsI p suf pre.length a = true ↔ (∀ m, m ∈ suf → ModOk p m) ∧ ((pre ++ suf).map Module.name).Nodup ∧ (a ++ allRecs suf).Nodup)
  | [], pre, a, _, hn, ha => by simp [modsI, hn, ha, allRecs]
  | m :: r, pre, a, hp, hn, ha => by
    have hget : p[pre.length]? = some m := by rw [hp, List.getElem?_append_right (Nat.le_refl _)]; simp
    have h1 : modBad p pre.length m = false ↔ isName m.name = true ∧ m.decls.length ≤ 6 ∧ m.uses.length ≤ 4 ∧ m.name ∉ pre.map Module.name := by
      have h2 := idxFrom_neg (fun x : Module => x.name == m.name) pre
      have h3 : (∀ x, x ∈ pre → (x.name == m.name) = false) ↔ m.name ∉ pre.map Module.name := by
        simp only [List.mem_map, not_exists, not_and, beq_eq_false_iff_ne, ne_eq]
      have h4 : p.take pre.length = pre := by rw [hp, List.take_left]
      unfold modBad
      rw [h4]
      simp only [Bool.or_eq_false_iff, Bool.not_eq_false', decide_eq_false_iff_not]
      rw [← h3, ← h2, moduleAt]
      constructor
      · rintro ⟨a1, a2, a3, a4⟩; exact ⟨a1, by omega, by omega, a4⟩
      · rintro ⟨a1, a2, a3, a4⟩; exact ⟨a1, by omega, by omega, a4⟩
    have hrec : allRecs (m :: r) = recNames m.decls ++ allRecs r := by simp [allRecs]
    have hmid : ((pre ++ m :: r).map Module.name).Nodup → m.name ∉ pre.map Module.name := fun h => nodup_mid (r := r.map Module.name) (by simpa using h)
    simp only [modsI]
    cases h2 : modBad p pre.length m
    · obtain ⟨b1, b2, b3, b4⟩ := h1.1 h2
      have hne : ∀ k x, k < pre.length → p[k]? = some x → x.name ≠ m.name := fun k x hk hx e => by
        rw [hp, List.getElem?_append_left hk] at hx
        exact b4 (e ▸ List.mem_map_of_mem (List.mem_of_getElem? hx))
      simp only [Bool.false_eq_true, if_false]
      cases h3 : usesI p pre.length m.uses [] with
      | none =>
        simp only [Bool.false_eq_true, false_iff]
        rintro ⟨c1, c2, c3⟩
        obtain ⟨_, _, _, d1, d2, d3⟩ := c1 m (by simp)
        have := (usesI_iff hget hne m.uses [] (m.uses.map Use.name) (by simp)).2 ⟨d2, by rw [List.nodup_append] at d3; simpa using d3.1, by simp⟩
        rw [this] at h3
        cases h3
      | some b =>
        obtain ⟨e1, e2, e3⟩ := (usesI_iff hget hne m.uses [] b (by simp)).1 h3
        simp only [List.nil_append] at e2 e3
        subst e3
        simp only
        cases h4 : declsI m.decls (m.uses.map Use.name) a with
        | none =>
          simp only [Bool.false_eq_true, false_iff]
          rintro ⟨c1, c2, c3⟩
          obtain ⟨_, _, _, d1, d2, d3⟩ := c1 m (by simp)
          rw [hrec, ← List.append_assoc] at c3
          have := (declsI_iff m.decls (m.uses.map Use.name) a (a ++ recNames m.decls) e2 ha).2 ⟨d1, d3, (List.nodup_append.1 c3).1, rfl⟩
          rw [this] at h4
          cases h4
        | some a' =>
          obtain ⟨f1, f2, f3, f4⟩ := (declsI_iff m.decls (m.uses.map Use.name) a a' e2 ha).1 h4
          subst f4
          simp only
          have ih := modsI_iff p r (pre ++ [m]) (a ++ recNames m.decls) (by simp [hp]) (by simpa using nodup_snoc hn b4) f3
          simp only [List.length_append, List.length_singleton] at ih
          rw [ih, hrec]
          constructor
          · rintro ⟨c1, c2, c3⟩
            exact ⟨fun x hx => by rcases List.mem_cons.1 hx with rfl | hx; exact ⟨b1, b2, b3, f1, e1, f2⟩; exact c1 x hx, by simpa using c2, by simpa using c3⟩
          · rintro ⟨c1, c2, c3⟩
            exact ⟨fun x hx => c1 x (by simp [hx]), by simpa using c2, by simpa using c3⟩
    · simp only [if_true, Bool.false_eq_true, false_iff]
      rintro ⟨c1, c2, c3⟩
      obtain ⟨d1, d2, d3, _⟩ := c1 m (by simp)
      have : modBad p pre.length m = false := h1.2 ⟨d1, d2, d3, hmid c2⟩
      rw [this] at h2
      cases h2
theorem iprogramOk_eq (p : List Module) : iprogramOk p = programOk p := by
  rw [Bool.eq_iff_iff, programOk_iff]
  have h1 := modsI_iff p p [] [] rfl (by simp) (by simp)
  simp only [List.length_nil, List.nil_append] at h1
  unfold iprogramOk
  by_cases h : 1 ≤ p.length ∧ p.length ≤ 3
  · rw [if_neg (by simp; omega), h1]
    exact ⟨fun h2 => ⟨h, h2⟩, fun h2 => h2.2⟩
  · rw [if_pos (by simp; omega)]
    simp only [Bool.false_eq_true, false_iff]
    exact fun h2 => h h2.1
end Go.Mach

/- What the laws' helpers compute, in plain Lean: weights, and arguments laid anew with room behind them. -/
namespace Go.Mach
set_option linter.unusedVariables false

/-! #### Weights -/
def wUse (u : Use) : Nat := u.module.length + u.name.length
def wUses : List Use → Nat
  | [] => 0
  | u :: r => wUse u + wUses r
def wBind (u : Bind) : Nat := u.name.length + u.type.length
def wBinds : List Bind → Nat
  | [] => 0
  | u :: r => wBind u + wBinds r
mutual
def wExpr : Expr → Nat
  | .mk _ _ t ks => t.length + (ks.length + wExprs ks)
def wExprs : List Expr → Nat
  | [] => 0
  | x :: xs => wExpr x + wExprs xs
end
theorem wExpr_eq (e : Expr) : wExpr e = e.text.length + (e.kids.length + wExprs e.kids) := by cases e; rfl
def wDecl (d : Decl) : Nat := d.name.length + ((d.binds.length + wBinds d.binds) + (d.type.length + wExpr d.body))
def wDecls : List Decl → Nat
  | [] => 0
  | x :: xs => wDecl x + wDecls xs
def wModule (m : Module) : Nat := m.name.length + ((m.uses.length + wUses m.uses) + (m.decls.length + wDecls m.decls))
def wModules : List Module → Nat
  | [] => 0
  | x :: xs => wModule x + wModules xs
/-- What is left of `left`; -1 if there is less than `w`. -/
def szR (left w : Nat) : Int := if left < w then -1 else ((left - w : Nat) : Int)
theorem szR_neg {left w : Nat} (h : left < w) : szR left w = -1 := if_pos h
theorem szR_pos {left w : Nat} (h : ¬ left < w) : szR left w = ((left - w : Nat) : Int) := if_neg h
theorem szR_add {left w w' : Nat} (h : ¬ left < w) : szR (left - w) w' = szR left (w + w') := by
  unfold szR
  by_cases h2 : left - w < w'
  · rw [if_pos h2, if_pos (by omega)]
  · rw [if_neg h2, if_neg (by omega)]; congr 1; omega
theorem szR_add_neg {left w w' : Nat} (h : left < w) : szR left (w + w') = -1 := if_pos (by omega)
theorem wUses_mem : ∀ {l : List Use} {u : Use}, u ∈ l → wUse u ≤ wUses l
  | x :: xs, u, h => by
    rcases List.mem_cons.1 h with rfl | h
    · simp only [wUses]; omega
    · have := wUses_mem h; simp only [wUses]; omega
theorem wBinds_mem : ∀ {l : List Bind} {u : Bind}, u ∈ l → wBind u ≤ wBinds l
  | x :: xs, u, h => by
    rcases List.mem_cons.1 h with rfl | h
    · simp only [wBinds]; omega
    · have := wBinds_mem h; simp only [wBinds]; omega
theorem wDecls_mem : ∀ {l : List Decl} {u : Decl}, u ∈ l → wDecl u ≤ wDecls l
  | x :: xs, u, h => by
    rcases List.mem_cons.1 h with rfl | h
    · simp only [wDecls]; omega
    · have := wDecls_mem h; simp only [wDecls]; omega
theorem wModules_mem : ∀ {l : List Module} {u : Module}, u ∈ l → wModule u ≤ wModules l
  | x :: xs, u, h => by
    rcases List.mem_cons.1 h with rfl | h
    · simp only [wModules]; omega
    · have := wModules_mem h; simp only [wModules]; omega
mutual
theorem Sm_of_w : ∀ (e : Expr), wExpr e ≤ 1000000 → e.Sm
  | .mk k n t ks, h => by
    simp only [wExpr] at h
    exact ⟨by omega, by omega, Sms_of_w ks (by omega)⟩
theorem Sms_of_w : ∀ (l : List Expr), wExprs l ≤ 1000000 → Expr.Sms l
  | [], _ => trivial
  | x :: xs, h => by
    simp only [wExprs] at h
    exact ⟨Sm_of_w x (by omega), Sms_of_w xs (by omega)⟩
end
theorem SmD_of_w (d : Decl) (h : wDecl d ≤ 1000000) : d.Sm := by
  simp only [wDecl] at h
  exact ⟨⟨by omega, by omega⟩, by omega, fun b hb => by have := wBinds_mem hb; simp only [wBind] at this; omega, Sm_of_w _ (by omega)⟩
theorem SmM_of_w (m : Module) (h : wModule m ≤ 1000000) : m.Sm := by
  simp only [wModule] at h
  exact ⟨by omega, by omega, fun u hu => by have := wUses_mem hu; simp only [wUse] at this; omega, by omega, fun d hd => SmD_of_w d (by have := wDecls_mem hd; omega)⟩
theorem SmP_of_w (p : List Module) (h : p.length + wModules p ≤ 1000000) : SmP p := ⟨by omega, fun m hm => SmM_of_w m (by have := wModules_mem hm; omega)⟩

/-! #### Room behind -/
def room (n : Nat) : Nat := if n % 6 = 5 then 0 else if n % 3 = 0 then 1 else n
theorem room_le (n : Nat) : room n ≤ n + 1 := by unfold room; split; omega; split <;> omega
def spareS : Str := [126, 115, 112, 97, 114, 101, 126]
def fillUse : Use := ⟨spareS, spareS⟩
def fillBind : Bind := ⟨spareS, spareS⟩
def fillExpr : LExpr := .mk (-7000000000000000101) (-7000000000000000101) spareS [] [] false
def fillDecl : LDecl := ⟨-7000000000000000101, spareS, ⟨[fillBind], [], false⟩, spareS, fillExpr⟩
def fillModule : LModule := ⟨spareS, ⟨[fillUse], [], false⟩, ⟨[fillDecl], [], false⟩⟩
/-- A list laid anew. -/
def toS {α : Type} (f : α → List PV) (fill : α) (bare : Bool) (es : List α) : Sl α := if bare && es.length == 0 then ⟨[], [], true⟩ else ⟨es, (List.replicate (room es.length) fill).map f, true⟩
theorem toS_es {α : Type} (f : α → List PV) (fill : α) (bare : Bool) (es : List α) : (toS f fill bare es).es = es := by
  unfold toS
  split
  · rename_i h
    simp at h
    rw [h.2]
  · rfl
mutual
def toE (bare : Bool) : LExpr → LExpr
  | .mk k n t ks _ _ => .mk k n t (toEs bare ks) (toS LExpr.C fillExpr bare (toEs bare ks)).sp (toS LExpr.C fillExpr bare (toEs bare ks)).lim
def toEs (bare : Bool) : List LExpr → List LExpr
  | [] => []
  | x :: xs => toE bare x :: toEs bare xs
end
theorem toEs_map (bare : Bool) (l : List LExpr) : toEs bare l = l.map (toE bare) := by induction l <;> simp_all [toEs]
def toD (bare : Bool) (d : LDecl) : LDecl := ⟨d.kind, d.name, toS Bind.C fillBind bare d.binds.es, d.type, toE bare d.body⟩
def toM (bare : Bool) (m : LModule) : LModule := ⟨m.name, toS Use.C fillUse bare m.uses.es, toS LDecl.C fillDecl bare (m.decls.es.map (toD bare))⟩
def toP (bare : Bool) (p : List LModule) : Sl LModule := toS LModule.C fillModule bare (p.map (toM bare))
mutual
theorem toE_core (bare : Bool) : ∀ (e : LExpr), (toE bare e).core = e.core
  | .mk k n t ks sp lim => by
    have := toEs_core bare ks
    simp only [toE, LExpr.core, this]
theorem toEs_core (bare : Bool) : ∀ (l : List LExpr), LExpr.cores (toEs bare l) = LExpr.cores l
  | [] => rfl
  | x :: xs => by simp only [toEs, LExpr.cores, toE_core bare x, toEs_core bare xs]
end
theorem toD_core (bare : Bool) (d : LDecl) : (toD bare d).core = d.core := by simp [toD, LDecl.core, toS_es, toE_core]
theorem toM_core (bare : Bool) (m : LModule) : (toM bare m).core = m.core := by
  simp [toM, LModule.core, toS_es, toD_core]
theorem toP_core (bare : Bool) (p : List LModule) : (toP bare p).es.map LModule.core = p.map LModule.core := by
  simp [toP, toS_es, toM_core]
/-- Equal to itself. -/
theorem all2_refl {α : Type} {f : α → α → Bool} (h : ∀ a, f a a = true) : ∀ (l : List α), all2 f l l = true
  | [] => rfl
  | x :: xs => by simp [all2, h x, all2_refl h xs]
mutual
theorem same_refl : ∀ (e : Expr), Expr.same e e = true
  | .mk k n t ks => by simp [Expr.same, Expr.kind, Expr.num, Expr.text, Expr.kids, sames_refl ks]
theorem sames_refl : ∀ (l : List Expr), Expr.sames l l = true
  | [] => rfl
  | x :: xs => by simp [Expr.sames, same_refl x, sames_refl xs]
end
theorem sameDecl_refl (d : Decl) : sameDecl d d = true := by simp [sameDecl, same_refl, all2_refl]
theorem sameModule_refl (m : Module) : sameModule m m = true := by simp [sameModule, sameDecl_refl, all2_refl]
end Go.Mach

/- What the program's functions compute, in plain Lean: programs that are alike but for the names that bodies bind. -/
namespace Go.Mach
set_option linter.unusedVariables false

def strIs (l : List Str) (j : Nat) (s : Str) : Bool := match l[j]? with
  | some b => b == s
  | none => false
def lastTo (s : Str) (l : List Str) : Nat → Int
  | 0 => -1
  | j + 1 => if strIs l j s then j else lastTo s l j
def lastOf (l : List Str) (s : Str) : Int := lastTo s l l.length
def lastDTo (s : Str) (l : List Str) : Nat → Int
  | 0 => -1
  | j + 1 => if strIs l j s then (l.length : Int) - 1 - j else lastDTo s l j
def lastD (l : List Str) (s : Str) : Int := lastDTo s l l.length
theorem lastDTo_eq (s : Str) (l : List Str) : ∀ j, j ≤ l.length → (lastTo s l j = -1 ∧ lastDTo s l j = -1) ∨ (0 ≤ lastTo s l j ∧ lastTo s l j < l.length ∧ lastDTo s l j = (l.length : Int) - 1 - lastTo s l j)
  | 0, _ => .inl ⟨rfl, rfl⟩
  | j + 1, h => by
    simp only [lastTo, lastDTo]
    cases strIs l j s with
    | true => exact .inr ⟨by simp, by simp; omega, by simp⟩
    | false => simpa using lastDTo_eq s l j (by omega)
theorem lastD_same {as bs : List Str} (h : as.length = bs.length) (s t : Str) : (lastD as s == lastD bs t) = (lastOf as s == lastOf bs t) ∧ decide (0 ≤ lastD as s) = decide (0 ≤ lastOf as s) := by
  unfold lastD lastOf
  rcases lastDTo_eq s as as.length (Nat.le_refl _) with ⟨a1, a2⟩ | ⟨a1, a2, a3⟩ <;> rcases lastDTo_eq t bs bs.length (Nat.le_refl _) with ⟨b1, b2⟩ | ⟨b1, b2, b3⟩
  · rw [a1, a2, b1, b2]; exact ⟨rfl, rfl⟩
  · rw [a1, a2, b3]
    refine ⟨?_, rfl⟩
    have e1 : ((-1 : Int) == (bs.length : Int) - 1 - lastTo t bs bs.length) = false := by simp; omega
    have e2 : ((-1 : Int) == lastTo t bs bs.length) = false := by simp; omega
    rw [e1, e2]
  · rw [b1, b2, a3]
    have e1 : ((as.length : Int) - 1 - lastTo s as as.length == -1) = false := by simp; omega
    have e2 : (lastTo s as as.length == -1) = false := by simp; omega
    rw [e1, e2]
    exact ⟨rfl, by congr 1; simp; omega⟩
  · rw [a3, b3]
    refine ⟨?_, by congr 1; simp; omega⟩
    rw [Bool.eq_iff_iff]
    simp
    omega
mutual
def likeE : Expr → Expr → List Str → List Str → Bool
  | .mk k n t ks, b, as, bs => k == b.kind && (n == b.num && (ks.length == b.kids.length && (if k == 3 then lastOf as t == lastOf bs b.text && (decide (0 ≤ lastOf as t) || t == b.text) else
    (k == 11 || k == 12 || t == b.text) && likeEs (k == 11 || k == 12) t b.text ks b.kids 0 as bs)))
def likeEs : Bool → Str → Str → List Expr → List Expr → Nat → List Str → List Str → Bool
  | bd, t, u, x :: xs, y :: ys, i, as, bs => likeE x y (if bd && i == 1 then as ++ [t] else as) (if bd && i == 1 then bs ++ [u] else bs) && likeEs bd t u xs ys (i + 1) as bs
  | _, _, _, _, _, _, _, _ => true
end
theorem likeE_eq (a b : Expr) (as bs : List Str) : likeE a b as bs = (a.kind == b.kind && (a.num == b.num && (a.kids.length == b.kids.length && (if a.kind == 3 then lastOf as a.text == lastOf bs b.text && (decide (0 ≤ lastOf as a.text) || a.text == b.text) else
    (a.kind == 11 || a.kind == 12 || a.text == b.text) && likeEs (a.kind == 11 || a.kind == 12) a.text b.text a.kids b.kids 0 as bs)))) := by cases a; rfl
theorem likeEs_cons (bd : Bool) (t u : Str) (x : Expr) (xs : List Expr) (y : Expr) (ys : List Expr) (i : Nat) (as bs : List Str) :
    likeEs bd t u (x :: xs) (y :: ys) i as bs = (likeE x y (if bd && i == 1 then as ++ [t] else as) (if bd && i == 1 then bs ++ [u] else bs) && likeEs bd t u xs ys (i + 1) as bs) := rfl
theorem likeEs_nil (bd : Bool) (t u : Str) (ys : List Expr) (i : Nat) (as bs : List Str) : likeEs bd t u [] ys i as bs = true := by cases ys <;> rfl
mutual
/-- A binder has two kids; and how deep it goes. -/
def Expr.Ar : Expr → Nat → Prop
  | .mk k _ _ ks, d => d ≠ 0 ∧ ((k = 11 ∨ k = 12) → ks.length = 2) ∧ Expr.Ars ks (d - 1)
def Expr.Ars : List Expr → Nat → Prop
  | [], _ => True
  | x :: xs, d => Expr.Ar x d ∧ Expr.Ars xs d
end
theorem Expr.Ar_eq (e : Expr) (d : Nat) : e.Ar d = (d ≠ 0 ∧ ((e.kind = 11 ∨ e.kind = 12) → e.kids.length = 2) ∧ Expr.Ars e.kids (d - 1)) := by cases e; rfl
theorem Expr.Ars_mem {d : Nat} : ∀ {l : List Expr}, Expr.Ars l d → ∀ x, x ∈ l → x.Ar d
  | [], _, x, hx => by cases hx
  | y :: ys, h, x, hx => by
    rcases List.mem_cons.1 hx with rfl | hx
    · exact h.1
    · exact Expr.Ars_mem h.2 x hx
mutual
theorem Ar_of_valid : ∀ (e : Expr) (d : Nat), validShape e d = true → e.Ar d
  | .mk k n t ks, d, h => by
    simp only [validShape, Bool.and_eq_true] at h
    obtain ⟨h0, _, _, _, h1, h2⟩ := h
    refine ⟨by simpa using h0, fun hk => ?_, Ars_of_valid ks (d - 1) h2⟩
    have : kidsOf k = (2, 2) := by rcases hk with rfl | rfl <;> rfl
    rw [this] at h1
    simp only [inR, Bool.and_eq_true, decide_eq_true_eq] at h1
    omega
theorem Ars_of_valid : ∀ (l : List Expr) (d : Nat), validShapes l d = true → Expr.Ars l d
  | [], _, _ => trivial
  | x :: xs, d, h => by
    simp only [validShapes, Bool.and_eq_true] at h
    exact ⟨Ar_of_valid x d h.1, Ars_of_valid xs d h.2⟩
end
def usesLike (a b : List Use) : Bool := a.length == b.length && a.all fun u => b.any fun x => x == u
def declLike (a b : Decl) : Bool := a.kind == b.kind && (a.name == b.name && (a.type == b.type && (all2 (· == ·) a.binds b.binds && likeE a.body b.body [] [])))
def declIn (b : Module) (d : Decl) : Bool := match at' b.decls (declAt b d.name) with
  | none => false
  | some o => declLike d o
def moduleLike (a b : Module) : Bool := a.name == b.name && (usesLike a.uses b.uses && (a.decls.length == b.decls.length && a.decls.all (declIn b)))
def programLike (a b : List Module) : Bool := programOk a && (programOk b && all2 moduleLike a b)
theorem likeE_zero (as bs : List Str) : likeE zeroE zeroE as bs = true := rfl
theorem zero_of_same {e : Expr} (h : Expr.same e zeroE = true) : e = zeroE := by
  cases e with
  | mk k n t ks =>
    simp only [Expr.same, zeroE, Expr.kind, Expr.num, Expr.text, Expr.kids, Bool.and_eq_true, beq_iff_eq] at h
    obtain ⟨rfl, rfl, rfl, h⟩ := h
    cases ks with
    | nil => rfl
    | cons x xs => simp [Expr.sames] at h
/-- What is asked of the bodies. -/
def Decl.Ar (d : Decl) : Prop := d.body.Ar 9 ∧ (d.kind = 1 → d.body = zeroE)
def ArP (p : List Module) : Prop := ∀ m, m ∈ p → ∀ d, d ∈ m.decls → d.Ar
theorem Ar_of_declsOk (m : Module) : ∀ (l : List Decl) (i : Nat), declsOk m l i = true → ∀ d, d ∈ l → d.Ar
  | [], _, _, d, hd => by cases hd
  | x :: xs, i, h, d, hd => by
    simp only [declsOk, Bool.and_eq_true] at h
    obtain ⟨h1, _, _, h2⟩ := h
    rcases List.mem_cons.1 hd with rfl | hd
    · simp only [validDecl, Bool.and_eq_true] at h1
      obtain ⟨_, _, h1⟩ := h1
      by_cases hk : d.kind = 0
      · rw [if_pos (by simpa using hk)] at h1
        simp only [exprOk, Bool.and_eq_true] at h1
        exact ⟨Ar_of_valid _ _ h1.2.1, fun e => by omega⟩
      · rw [if_neg (by simpa using hk)] at h1
        simp only [Bool.and_eq_true] at h1
        have hz := zero_of_same h1.2.2.2.2
        exact ⟨by rw [hz]; exact ⟨by decide, fun hk => (by rcases hk with hk | hk <;> exact absurd hk (by decide)), trivial⟩, fun _ => hz⟩
    · exact Ar_of_declsOk m xs (i + 1) h2 d hd
theorem Ar_of_modsOk (p : List Module) : ∀ (l : List Module) (i : Nat), modsOk p l i = true → ArP l
  | [], _, _, m, hm => by cases hm
  | x :: xs, i, h, m, hm => by
    simp only [modsOk, Bool.and_eq_true] at h
    obtain ⟨h1, _, _, h2⟩ := h
    rcases List.mem_cons.1 hm with rfl | hm
    · simp only [validModule, Bool.and_eq_true] at h1
      exact Ar_of_declsOk m _ _ h1.1
    · exact Ar_of_modsOk p xs (i + 1) h2 m hm
theorem Ar_of_programOk {p : List Module} (h : programOk p = true) : ArP p := by
  simp only [programOk, Bool.and_eq_true] at h
  exact Ar_of_modsOk p p 0 h.1
end Go.Mach
