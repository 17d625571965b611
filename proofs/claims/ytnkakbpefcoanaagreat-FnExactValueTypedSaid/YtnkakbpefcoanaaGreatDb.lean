import Derived.Test.YtnkakbpefcoanaaGreatDa
/- The program's own ProgramOk is the reference's. -/
namespace Go.Mach
set_option linter.unusedVariables false

section
variable {α : Type}
theorem idxFrom_shift (q : α → Bool) : ∀ (l : List α) (i : Nat), idxFrom q l i = if 0 ≤ idxFrom q l 0 then idxFrom q l 0 + i else -1 := by
  intro l
  induction l with
  | nil => intro i; simp [idxFrom]
  | cons x xs ih =>
    intro i
    by_cases h : q x = true
    · have e : ∀ j, idxFrom q (x :: xs) j = j := fun j => by simp [idxFrom, h]
      rw [e, e]
      simp
    · have e : ∀ j, idxFrom q (x :: xs) j = idxFrom q xs (j + 1) := fun j => by simp [idxFrom, h]
      rw [e, e, ih (i + 1), ih (0 + 1)]
      by_cases h2 : 0 ≤ idxFrom q xs 0
      · rw [if_pos h2, if_pos h2, if_pos (by omega)]; omega
      · rw [if_neg h2, if_neg h2, if_neg (by omega)]
/-- The first of its name. -/
theorem idxFrom_first (f : α → Str) (a : α) (suf : List α) : ∀ (pre : List α), idxFrom (fun x => f x == f a) (pre ++ a :: suf) 0 = pre.length ↔ f a ∉ pre.map f
  | [] => by simp [idxFrom]
  | x :: xs => by
    have ih := idxFrom_first f a suf xs
    simp only [List.cons_append, idxFrom, List.map_cons, List.mem_cons, List.length_cons, not_or]
    by_cases h : f x = f a
    · have h1 : (f x == f a) = true := by simpa using h
      rw [if_pos h1]
      constructor
      · intro h2; exfalso; omega
      · intro h2; exact absurd h.symm h2.1
    · have h1 : ¬ (f x == f a) = true := by simpa using h
      rw [if_neg h1, idxFrom_shift]
      rw [← ih]
      constructor
      · intro h2
        refine ⟨fun e => h e.symm, ?_⟩
        split at h2 <;> omega
      · rintro ⟨_, h2⟩
        rw [h2, if_pos (by omega)]
        omega
theorem idxFrom_neg (q : α → Bool) (l : List α) : ¬ 0 ≤ idxFrom q l 0 ↔ ∀ x, x ∈ l → q x = false := by
  have h := idxFrom_nn q l 0
  constructor
  · intro h1 x hx
    rw [decide_eq_false h1] at h
    have := List.any_eq_false.1 h.symm x hx
    simpa using this
  · intro h1 h2
    rw [decide_eq_true h2] at h
    obtain ⟨x, hx, hq⟩ := List.any_eq_true.1 h.symm
    rw [h1 x hx] at hq
    cases hq
end
theorem nodup_snoc {l : List Str} {a : Str} (h : l.Nodup) (ha : a ∉ l) : (l ++ [a]).Nodup := by
  rw [List.nodup_append]
  exact ⟨h, by simp, fun x hx y hy e => by simp at hy; subst hy; subst e; exact ha hx⟩
theorem nodup_mid {l r : List Str} {a : Str} (h : (l ++ a :: r).Nodup) : a ∉ l := by
  rw [List.nodup_append] at h
  exact fun ha => h.2.2 a ha a (by simp) rfl

/-! #### The reference's -/
theorem declsOk_iff (m : Module) : ∀ (suf pre : List Decl), m.decls = pre ++ suf → (pre.map Decl.name).Nodup →
    (declsOk m suf pre.length = true ↔ (∀ d, d ∈ suf → validDecl d = true ∧ d.name ∉ m.uses.map Use.name) ∧ ((pre ++ suf).map Decl.name).Nodup)
  | [], pre, _, hn => by simp [declsOk, hn]
  | d :: r, pre, hm, hn => by
    have ih := declsOk_iff m r (pre ++ [d]) (by simp [hm])
    have h1 := idxFrom_first Decl.name d r pre
    have h2 := idxFrom_neg (fun u : Use => u.name == d.name) m.uses
    have h4 : (∀ x, x ∈ m.uses → (x.name == d.name) = false) ↔ d.name ∉ m.uses.map Use.name := by
      simp only [List.mem_map, not_exists, not_and, beq_eq_false_iff_ne, ne_eq]
    have h5 : (!decide (0 ≤ useAt m d.name)) = true ↔ d.name ∉ m.uses.map Use.name := by
      rw [Bool.not_eq_true', decide_eq_false_iff_not]; exact h2.trans h4
    have h6 : declAt m d.name = ((pre.length : Nat) : Int) ↔ d.name ∉ pre.map Decl.name := by rw [declAt, hm]; exact h1
    simp only [declsOk, Bool.and_eq_true, beq_iff_eq, h5, h6]
    simp only [List.length_append, List.length_singleton] at ih
    constructor
    · rintro ⟨a1, a2, a3, a4⟩
      have hn2 : ((pre ++ [d]).map Decl.name).Nodup := by simpa using nodup_snoc hn a2
      obtain ⟨b1, b2⟩ := (ih hn2).1 a4
      refine ⟨fun x hx => ?_, by simpa using b2⟩
      rcases List.mem_cons.1 hx with rfl | hx
      · exact ⟨a1, a3⟩
      · exact b1 x hx
    · rintro ⟨a1, a2⟩
      have a3 : d.name ∉ pre.map Decl.name := nodup_mid (r := r.map Decl.name) (by simpa using a2)
      have hn2 : ((pre ++ [d]).map Decl.name).Nodup := by simpa using nodup_snoc hn a3
      exact ⟨(a1 d (by simp)).1, a3, (a1 d (by simp)).2, (ih hn2).2 ⟨fun x hx => a1 x (by simp [hx]), by simpa using a2⟩⟩
theorem usesOk_iff (p : List Module) (m : Module) : ∀ (suf pre : List Use), m.uses = pre ++ suf → (pre.map Use.name).Nodup →
    (usesOk p m suf pre.length = true ↔ (∀ u, u ∈ suf → useOk p m u = true) ∧ ((pre ++ suf).map Use.name).Nodup)
  | [], pre, _, hn => by simp [usesOk, hn]
  | d :: r, pre, hm, hn => by
    have ih := usesOk_iff p m r (pre ++ [d]) (by simp [hm])
    have h1 := idxFrom_first Use.name d r pre
    simp only [usesOk, useAt, hm, Bool.and_eq_true, beq_iff_eq, h1]
    simp only [List.length_append, List.length_singleton] at ih
    constructor
    · rintro ⟨a1, a2, a4⟩
      have hn2 : ((pre ++ [d]).map Use.name).Nodup := by simpa using nodup_snoc hn a2
      obtain ⟨b1, b2⟩ := (ih hn2).1 a4
      refine ⟨fun x hx => ?_, by simpa using b2⟩
      rcases List.mem_cons.1 hx with rfl | hx
      · exact a1
      · exact b1 x hx
    · rintro ⟨a1, a2⟩
      have a3 : d.name ∉ pre.map Use.name := nodup_mid (r := r.map Use.name) (by simpa using a2)
      have hn2 : ((pre ++ [d]).map Use.name).Nodup := by simpa using nodup_snoc hn a3
      exact ⟨a1 d (by simp), a3, (ih hn2).2 ⟨fun x hx => a1 x (by simp [hx]), by simpa using a2⟩⟩
theorem modsOk_iff (p : List Module) : ∀ (suf pre : List Module), p = pre ++ suf → (pre.map Module.name).Nodup →
    (modsOk p suf pre.length = true ↔ (∀ m, m ∈ suf → validModule p m = true ∧ recsOk p m.decls = true) ∧ ((pre ++ suf).map Module.name).Nodup)
  | [], pre, _, hn => by simp [modsOk, hn]
  | d :: r, pre, hm, hn => by
    have ih := modsOk_iff p r (pre ++ [d]) (by simp [hm])
    have h1 := idxFrom_first Module.name d r pre
    have h0 : moduleAt p d.name = idxFrom (fun x => x.name == d.name) (pre ++ d :: r) 0 := by rw [moduleAt, hm]
    simp only [modsOk, h0, Bool.and_eq_true, beq_iff_eq, h1]
    simp only [List.length_append, List.length_singleton] at ih
    constructor
    · rintro ⟨a1, a2, a3, a4⟩
      have hn2 : ((pre ++ [d]).map Module.name).Nodup := by simpa using nodup_snoc hn a2
      obtain ⟨b1, b2⟩ := (ih hn2).1 a4
      refine ⟨fun x hx => ?_, by simpa using b2⟩
      rcases List.mem_cons.1 hx with rfl | hx
      · exact ⟨a1, a3⟩
      · exact b1 x hx
    · rintro ⟨a1, a2⟩
      have a3 : d.name ∉ pre.map Module.name := nodup_mid (r := r.map Module.name) (by simpa using a2)
      have hn2 : ((pre ++ [d]).map Module.name).Nodup := by simpa using nodup_snoc hn a3
      exact ⟨(a1 d (by simp)).1, a3, (a1 d (by simp)).2, (ih hn2).2 ⟨fun x hx => a1 x (by simp [hx]), by simpa using a2⟩⟩
/-- What is asked of a module by itself, and of the names that it uses. -/
def ModOk (p : List Module) (m : Module) : Prop := isName m.name = true ∧ m.decls.length ≤ 6 ∧ m.uses.length ≤ 4 ∧ (∀ d, d ∈ m.decls → validDecl d = true) ∧ (∀ u, u ∈ m.uses → useOk p m u = true) ∧ (m.uses.map Use.name ++ m.decls.map Decl.name).Nodup
theorem validModule_iff (p : List Module) (m : Module) : validModule p m = true ↔ ModOk p m := by
  have h1 := declsOk_iff m m.decls [] rfl (by simp)
  have h2 := usesOk_iff p m m.uses [] rfl (by simp)
  simp only [List.length_nil, List.nil_append] at h1 h2
  simp only [validModule, Bool.and_eq_true, h1, h2, decide_eq_true_eq, ModOk]
  rw [List.nodup_append]
  constructor
  · rintro ⟨⟨a1, a2⟩, ⟨b1, b2⟩, c1, c2, c3⟩
    exact ⟨c1, by omega, by omega, fun d hd => (a1 d hd).1, b1, b2, a2, fun x hx y hy e => by
      obtain ⟨d, hd, rfl⟩ := List.mem_map.1 hy
      exact (a1 d hd).2 (e ▸ hx)⟩
  · rintro ⟨c1, c2, c3, a1, b1, b2, a2, a3⟩
    exact ⟨⟨fun d hd => ⟨a1 d hd, fun h => a3 _ h _ (List.mem_map_of_mem hd) rfl⟩, a2⟩, ⟨b1, b2⟩, c1, by omega, by omega⟩

/-! #### Records -/
def recNames (l : List Decl) : List Str := (l.filter fun d => d.kind == 1).map Decl.name
def allRecs (p : List Module) : List Str := p.flatMap fun m => recNames m.decls
theorem at_idx {α : Type} (q : α → Bool) : ∀ (l : List α), at' l (idxFrom q l 0) = l.find? q
  | [] => by simp [idxFrom, at']
  | x :: xs => by
    have ih := at_idx q xs
    by_cases h : q x = true
    · have e : idxFrom q (x :: xs) 0 = 0 := by simp [idxFrom, h]
      rw [e]
      simp [at', h]
    · have e : idxFrom q (x :: xs) 0 = idxFrom q xs (0 + 1) := by simp [idxFrom, h]
      rw [e, idxFrom_shift]
      simp only [List.find?_cons, h]
      rw [← ih]
      by_cases h2 : 0 ≤ idxFrom q xs 0
      · rw [if_pos h2]
        have h3 : (idxFrom q xs 0 + ((0 + 1 : Nat) : Int)).toNat = (idxFrom q xs 0).toNat + 1 := by omega
        simp only [at', h3, List.getElem?_cons_succ]
        rw [if_neg (by omega), if_neg (by omega)]
      · rw [if_neg h2]
        simp only [at']
        rw [if_pos (by omega), if_pos (by omega)]
theorem recNames_cons (d : Decl) (r : List Decl) : recNames (d :: r) = if d.kind == 1 then d.name :: recNames r else recNames r := by
  simp only [recNames, List.filter_cons]
  split <;> simp
theorem recNames_sub {l : List Decl} {n : Str} (h : n ∈ recNames l) : n ∈ l.map Decl.name := by
  obtain ⟨d, hd, rfl⟩ := List.mem_map.1 h
  exact List.mem_map_of_mem (List.mem_filter.1 hd).1
theorem recF_count (n : Str) : ∀ (l : List Decl), (l.map Decl.name).Nodup → (match l.find? (fun d => d.name == n) with | none => 0 | some d => if d.kind == 1 then 1 else 0) = (recNames l).count n
  | [], _ => rfl
  | d :: r, h => by
    simp only [List.map_cons, List.nodup_cons] at h
    have ih := recF_count n r h.2
    rw [recNames_cons]
    by_cases hd : d.name = n
    · have hz : (recNames r).count n = 0 := by
        rw [List.count_eq_zero]
        exact fun hm => h.1 (hd ▸ recNames_sub hm)
      have h1 : (d.name == n) = true := by simpa using hd
      simp only [List.find?_cons, h1]
      cases hk : d.kind == 1
      · simp [hz]
      · simp [hd, hz]
    · have h1 : (d.name == n) = false := by simpa using hd
      simp only [List.find?_cons, h1]
      rw [ih]
      cases hk : d.kind == 1
      · simp
      · simp [List.count_cons, h1]
theorem recIn_count {m : Module} (h : (m.decls.map Decl.name).Nodup) (n : Str) : recIn m n = (recNames m.decls).count n := by
  rw [recIn, declAt, at_idx, ← recF_count n m.decls h]
  rfl
theorem records_count (n : Str) : ∀ (p : List Module), (∀ m, m ∈ p → (m.decls.map Decl.name).Nodup) → records n p = (allRecs p).count n
  | [], _ => rfl
  | m :: r, h => by
    have := records_count n r fun x hx => h x (by simp [hx])
    simp only [records, recIn_count (h m (by simp)), this, allRecs, List.flatMap_cons, List.count_append]
theorem recsOk_iff (p : List Module) : ∀ (l : List Decl), recsOk p l = true ↔ ∀ n, n ∈ recNames l → records n p ≤ 1
  | [] => by simp [recsOk, recNames]
  | d :: r => by
    have ih := recsOk_iff p r
    simp only [recsOk, Bool.and_eq_true, ih, recNames_cons, Bool.not_eq_true', Bool.and_eq_false_iff, decide_eq_false_iff_not]
    cases hk : d.kind == 1
    · simp
    · simp only [Bool.true_eq_false, false_or, if_true, List.mem_cons]
      constructor
      · rintro ⟨h1, h2⟩ n (rfl | hn)
        · omega
        · exact h2 n hn
      · intro h
        exact ⟨by have := h d.name (.inl rfl); omega, fun n hn => h n (.inr hn)⟩
theorem nodup_count : ∀ (l : List Str), l.Nodup ↔ ∀ n, n ∈ l → l.count n ≤ 1
  | [] => by simp
  | a :: r => by
    have ih := nodup_count r
    rw [List.nodup_cons, ih]
    constructor
    · rintro ⟨h1, h2⟩ n hn
      rw [List.count_cons]
      rcases List.mem_cons.1 hn with rfl | hn
      · have : r.count n = 0 := List.count_eq_zero.2 h1
        simp [this]
      · have : (a == n) = false := by simpa using fun e : a = n => h1 (e ▸ hn)
        simp [this]
        exact h2 n hn
    · intro h
      refine ⟨fun ha => ?_, fun n hn => ?_⟩
      · have h1 := h a (by simp)
        have h2 := List.count_pos_iff.2 ha
        simp at h1
        omega
      · have h1 := h n (by simp [hn])
        rw [List.count_cons] at h1
        omega
theorem allRecs_iff (p : List Module) (h : ∀ m, m ∈ p → (m.decls.map Decl.name).Nodup) : (∀ m, m ∈ p → recsOk p m.decls = true) ↔ (allRecs p).Nodup := by
  rw [nodup_count]
  simp only [recsOk_iff, allRecs, List.mem_flatMap]
  constructor
  · rintro h1 n ⟨m, hm, hn⟩
    have := h1 m hm n hn
    rw [records_count n p h] at this
    exact this
  · intro h1 m hm n hn
    rw [records_count n p h]
    exact h1 n ⟨m, hm, hn⟩
theorem programOk_iff (p : List Module) : programOk p = true ↔ (1 ≤ p.length ∧ p.length ≤ 3) ∧ (∀ m, m ∈ p → ModOk p m) ∧ (p.map Module.name).Nodup ∧ (allRecs p).Nodup := by
  have h1 := modsOk_iff p p [] rfl (by simp)
  simp only [List.length_nil, List.nil_append] at h1
  simp only [programOk, Bool.and_eq_true, h1, validModule_iff, inR, decide_eq_true_eq]
  have hd : (∀ m, m ∈ p → ModOk p m) → ∀ m, m ∈ p → (m.decls.map Decl.name).Nodup := fun h m hm => by
    have := (h m hm).2.2.2.2.2
    rw [List.nodup_append] at this
    exact this.2.1
  constructor
  · rintro ⟨⟨a1, a2⟩, a3⟩
    have a4 : ∀ m, m ∈ p → ModOk p m := fun m hm => (a1 m hm).1
    exact ⟨by omega, a4, a2, (allRecs_iff p (hd a4)).1 fun m hm => (a1 m hm).2⟩
  · rintro ⟨a1, a2, a3, a4⟩
    have a5 := (allRecs_iff p (hd a2)).2 a4
    exact ⟨⟨fun m hm => ⟨a2 m hm, a5 m hm⟩, a3⟩, by omega⟩

/-! #### The program's own -/
theorem useBad_iff {p : List Module} {i : Nat} {m : Module} (hm : p[i]? = some m) (hne : ∀ k x, k < i → p[k]? = some x → x.name ≠ m.name) (u : Use) (b : List Str) : useBadI p i u b = false ↔ useOk p m u = true ∧ u.name ∉ b := by
  unfold useBadI useOk
  rcases idxFrom_cases (fun x : Module => x.name == u.module) p 0 with ⟨h1, _⟩ | ⟨k, hk, h1, h2, h3⟩
  · have : moduleAt p u.module = -1 := h1
    simp [this, at']
  · have h4 : moduleAt p u.module = (k : Int) := by rw [moduleAt, h1]; simp
    have h5 : at' p (moduleAt p u.module) = some p[k] := by
      rw [h4]
      simp only [at', Int.toNat_natCast]
      rw [if_neg (by omega), List.getElem?_eq_getElem hk]
    rw [h5, h4]
    have h6 : p[k].name = u.module := by simpa using h2
    have h7 : ((k : Int) == (i : Int)) = (p[k].name == m.name) := by
      rw [Bool.eq_iff_iff]
      simp only [beq_iff_eq]
      constructor
      · intro e
        have : k = i := by omega
        subst this
        rw [List.getElem?_eq_getElem hk] at hm
        cases hm
        rfl
      · intro e
        rcases Nat.lt_trichotomy k i with h | h | h
        · exact absurd e (hne k _ h (List.getElem?_eq_getElem hk))
        · omega
        · exfalso
          have h8 := h3 i h
          have h9 : p[i]'(by omega) = m := by
            rw [List.getElem?_eq_getElem (by omega)] at hm
            exact Option.some.inj hm
          rw [h9, ← h6, e] at h8
          simp at h8
    simp only [h7, Bool.or_eq_false_iff, Bool.and_eq_true, bne, Bool.not_eq_true', decide_eq_false_iff_not, decide_eq_true_eq, and_assoc]
    have h8 : (b.contains u.name = false) ↔ u.name ∉ b := by simp
    rw [h8]
    constructor
    · rintro ⟨a1, a2, a3⟩; exact ⟨a1, by omega, a3⟩
    · rintro ⟨a1, a2, a3⟩; exact ⟨a1, by omega, a3⟩
theorem usesI_iff {p : List Module} {i : Nat} {m : Module} (hm : p[i]? = some m) (hne : ∀ k x, k < i → p[k]? = some x → x.name ≠ m.name) : ∀ (suf : List Use) (b b' : List Str), b.Nodup →
    (usesI p i suf b = some b' ↔ (∀ u, u ∈ suf → useOk p m u = true) ∧ (b ++ suf.map Use.name).Nodup ∧ b' = b ++ suf.map Use.name)
  | [], b, b', hb => by
    simp only [usesI, List.map_nil, List.append_nil, Option.some.injEq]
    exact ⟨fun h => ⟨fun u hu => (by cases hu), hb, h.symm⟩, fun h => h.2.2.symm⟩
  | u :: r, b, b', hb => by
    have h1 := useBad_iff hm hne u b
    simp only [usesI]
    cases h2 : useBadI p i u b
    · obtain ⟨h3, h4⟩ := h1.1 h2
      have ih := usesI_iff hm hne r (b ++ [u.name]) b' (nodup_snoc hb h4)
      simp only [Bool.false_eq_true, if_false, ih]
      constructor
      · rintro ⟨a1, a2, a3⟩
        exact ⟨fun x hx => by rcases List.mem_cons.1 hx with rfl | hx; exact h3; exact a1 x hx, by simpa using a2, by simpa using a3⟩
      · rintro ⟨a1, a2, a3⟩
        exact ⟨fun x hx => a1 x (by simp [hx]), by simpa using a2, by simpa using a3⟩
    · simp only [if_true]
      constructor
      · intro h; cases h
      · rintro ⟨a1, a2, a3⟩
        have : useBadI p i u b = false := h1.2 ⟨a1 u (by simp), nodup_mid (r := r.map Use.name) (by simpa using a2)⟩
        rw [this] at h2
        cases h2
theorem declsI_iff : ∀ (suf : List Decl) (b a a' : List Str), b.Nodup → a.Nodup →
    (declsI suf b a = some a' ↔ (∀ d, d ∈ suf → validDecl d = true) ∧ (b ++ suf.map Decl.name).Nodup ∧ (a ++ recNames suf).Nodup ∧ a' = a ++ recNames suf)
  | [], b, a, a', hb, ha => by
    simp only [declsI, List.map_nil, List.append_nil, Option.some.injEq, recNames, List.filter_nil]
    exact ⟨fun h => ⟨fun u hu => (by cases hu), hb, ha, h.symm⟩, fun h => h.2.2.2.symm⟩
  | d :: r, b, a, a', hb, ha => by
    have h1 : declBad d b a = false ↔ validDecl d = true ∧ d.name ∉ b ∧ (d.kind == 1) = false ∨ validDecl d = true ∧ d.name ∉ b ∧ (d.kind == 1) = true ∧ d.name ∉ a := by
      unfold declBad
      cases validDecl d <;> cases d.kind == 1 <;> simp
    simp only [declsI, recNames_cons]
    cases h2 : declBad d b a
    · simp only [Bool.false_eq_true, if_false]
      rcases h1.1 h2 with ⟨h3, h4, h5⟩ | ⟨h3, h4, h5, h6⟩
      · have ih := declsI_iff r (b ++ [d.name]) a a' (nodup_snoc hb h4) ha
        simp only [h5, Bool.false_eq_true, if_false, ih]
        constructor
        · rintro ⟨a1, a2, a3⟩
          exact ⟨fun x hx => by rcases List.mem_cons.1 hx with rfl | hx; exact h3; exact a1 x hx, by simpa using a2, a3⟩
        · rintro ⟨a1, a2, a3⟩
          exact ⟨fun x hx => a1 x (by simp [hx]), by simpa using a2, a3⟩
      · have ih := declsI_iff r (b ++ [d.name]) (a ++ [d.name]) a' (nodup_snoc hb h4) (nodup_snoc ha h6)
        simp only [h5, if_true, ih]
        constructor
        · rintro ⟨a1, a2, a3⟩
          exact ⟨fun x hx => by rcases List.mem_cons.1 hx with rfl | hx; exact h3; exact a1 x hx, by simpa using a2, by simpa using a3⟩
        · rintro ⟨a1, a2, a3⟩
          exact ⟨fun x hx => a1 x (by simp [hx]), by simpa using a2, by simpa using a3⟩
    · simp only [if_true]
      constructor
      · intro h; cases h
      · rintro ⟨a1, a2, a3, a4⟩
        have h3 : d.name ∉ b := nodup_mid (r := r.map Decl.name) (by simpa using a2)
        have : declBad d b a = false := by
          rw [h1]
          cases hk : d.kind == 1
          · exact .inl ⟨a1 d (by simp), h3, rfl⟩
          · rw [hk] at a3
            exact .inr ⟨a1 d (by simp), h3, rfl, nodup_mid (r := recNames r) (by simpa using a3)⟩
        rw [this] at h2
        cases h2
theorem modsI_iff (p : List Module) : ∀ (suf pre : List Module) (a : List Str), p = pre ++ suf → (pre.map Module.name).Nodup → a.Nodup →
    (modsI p suf pre.length a = true ↔ (∀ m, m ∈ suf → ModOk p m) ∧ ((pre ++ suf).map Module.name).Nodup ∧ (a ++ allRecs suf).Nodup)
  | [], pre, a, _, hn, ha => by simp [modsI, hn, ha, allRecs]
  | m :: r, pre, a, hp, hn, ha => by
    have hget : p[pre.length]? = some m := by rw [hp, List.getElem?_append_right (Nat.le_refl _)]; simp
    have h1 : modBad p pre.length m = false ↔ isName m.name = true ∧ m.decls.length ≤ 6 ∧ m.uses.length ≤ 4 ∧ m.name ∉ pre.map Module.name := by
      have h2 := idxFrom_neg (fun x : Module => x.name == m.name) pre
      have h3 : (∀ x, x ∈ pre → (x.name == m.name) = false) ↔ m.name ∉ pre.map Module.name := by
        simp only [List.mem_map, not_exists, not_and, beq_eq_false_iff_ne, ne_eq]
      have h4 : p.take pre.length = pre := by rw [hp, List.take_left]
      unfold modBad
      rw [h4]
      simp only [Bool.or_eq_false_iff, Bool.not_eq_false', decide_eq_false_iff_not]
      rw [← h3, ← h2, moduleAt]
      constructor
      · rintro ⟨a1, a2, a3, a4⟩; exact ⟨a1, by omega, by omega, a4⟩
      · rintro ⟨a1, a2, a3, a4⟩; exact ⟨a1, by omega, by omega, a4⟩
    have hrec : allRecs (m :: r) = recNames m.decls ++ allRecs r := by simp [allRecs]
    have hmid : ((pre ++ m :: r).map Module.name).Nodup → m.name ∉ pre.map Module.name := fun h => nodup_mid (r := r.map Module.name) (by simpa using h)
    simp only [modsI]
    cases h2 : modBad p pre.length m
    · obtain ⟨b1, b2, b3, b4⟩ := h1.1 h2
      have hne : ∀ k x, k < pre.length → p[k]? = some x → x.name ≠ m.name := fun k x hk hx e => by
        rw [hp, List.getElem?_append_left hk] at hx
        exact b4 (e ▸ List.mem_map_of_mem (List.mem_of_getElem? hx))
      simp only [Bool.false_eq_true, if_false]
      cases h3 : usesI p pre.length m.uses [] with
      | none =>
        simp only [Bool.false_eq_true, false_iff]
        rintro ⟨c1, c2, c3⟩
        obtain ⟨_, _, _, d1, d2, d3⟩ := c1 m (by simp)
        have := (usesI_iff hget hne m.uses [] (m.uses.map Use.name) (by simp)).2 ⟨d2, by rw [List.nodup_append] at d3; simpa using d3.1, by simp⟩
        rw [this] at h3
        cases h3
      | some b =>
        obtain ⟨e1, e2, e3⟩ := (usesI_iff hget hne m.uses [] b (by simp)).1 h3
        simp only [List.nil_append] at e2 e3
        subst e3
        simp only
        cases h4 : declsI m.decls (m.uses.map Use.name) a with
        | none =>
          simp only [Bool.false_eq_true, false_iff]
          rintro ⟨c1, c2, c3⟩
          obtain ⟨_, _, _, d1, d2, d3⟩ := c1 m (by simp)
          rw [hrec, ← List.append_assoc] at c3
          have := (declsI_iff m.decls (m.uses.map Use.name) a (a ++ recNames m.decls) e2 ha).2 ⟨d1, d3, (List.nodup_append.1 c3).1, rfl⟩
          rw [this] at h4
          cases h4
        | some a' =>
          obtain ⟨f1, f2, f3, f4⟩ := (declsI_iff m.decls (m.uses.map Use.name) a a' e2 ha).1 h4
          subst f4
          simp only
          have ih := modsI_iff p r (pre ++ [m]) (a ++ recNames m.decls) (by simp [hp]) (by simpa using nodup_snoc hn b4) f3
          simp only [List.length_append, List.length_singleton] at ih
          rw [ih, hrec]
          constructor
          · rintro ⟨c1, c2, c3⟩
            exact ⟨fun x hx => by rcases List.mem_cons.1 hx with rfl | hx; exact ⟨b1, b2, b3, f1, e1, f2⟩; exact c1 x hx, by simpa using c2, by simpa using c3⟩
          · rintro ⟨c1, c2, c3⟩
            exact ⟨fun x hx => c1 x (by simp [hx]), by simpa using c2, by simpa using c3⟩
    · simp only [if_true, Bool.false_eq_true, false_iff]
      rintro ⟨c1, c2, c3⟩
      obtain ⟨d1, d2, d3, _⟩ := c1 m (by simp)
      have : modBad p pre.length m = false := h1.2 ⟨d1, d2, d3, hmid c2⟩
      rw [this] at h2
      cases h2
theorem iprogramOk_eq (p : List Module) : iprogramOk p = programOk p := by
  rw [Bool.eq_iff_iff, programOk_iff]
  have h1 := modsI_iff p p [] [] rfl (by simp) (by simp)
  simp only [List.length_nil, List.nil_append] at h1
  unfold iprogramOk
  by_cases h : 1 ≤ p.length ∧ p.length ≤ 3
  · rw [if_neg (by simp; omega), h1]
    exact ⟨fun h2 => ⟨h, h2⟩, fun h2 => h2.2⟩
  · rw [if_pos (by simp; omega)]
    simp only [Bool.false_eq_true, false_iff]
    exact fun h2 => h h2.1
end Go.Mach

/- What the laws' helpers compute, in plain Lean: weights, and arguments laid anew with room behind them. -/
namespace Go.Mach
set_option linter.unusedVariables false

/-! #### Weights -/
def wUse (u : Use) : Nat := u.module.length + u.name.length
def wUses : List Use → Nat
  | [] => 0
  | u :: r => wUse u + wUses r
def wBind (u : Bind) : Nat := u.name.length + u.type.length
def wBinds : List Bind → Nat
  | [] => 0
  | u :: r => wBind u + wBinds r
mutual
def wExpr : Expr → Nat
  | .mk _ _ t ks => t.length + (ks.length + wExprs ks)
def wExprs : List Expr → Nat
  | [] => 0
  | x :: xs => wExpr x + wExprs xs
end
theorem wExpr_eq (e : Expr) : wExpr e = e.text.length + (e.kids.length + wExprs e.kids) := by cases e; rfl
def wDecl (d : Decl) : Nat := d.name.length + ((d.binds.length + wBinds d.binds) + (d.type.length + wExpr d.body))
def wDecls : List Decl → Nat
  | [] => 0
  | x :: xs => wDecl x + wDecls xs
def wModule (m : Module) : Nat := m.name.length + ((m.uses.length + wUses m.uses) + (m.decls.length + wDecls m.decls))
def wModules : List Module → Nat
  | [] => 0
  | x :: xs => wModule x + wModules xs
/-- What is left of `left`; -1 if there is less than `w`. -/
def szR (left w : Nat) : Int := if left < w then -1 else ((left - w : Nat) : Int)
theorem szR_neg {left w : Nat} (h : left < w) : szR left w = -1 := if_pos h
theorem szR_pos {left w : Nat} (h : ¬ left < w) : szR left w = ((left - w : Nat) : Int) := if_neg h
theorem szR_add {left w w' : Nat} (h : ¬ left < w) : szR (left - w) w' = szR left (w + w') := by
  unfold szR
  by_cases h2 : left - w < w'
  · rw [if_pos h2, if_pos (by omega)]
  · rw [if_neg h2, if_neg (by omega)]; congr 1; omega
theorem szR_add_neg {left w w' : Nat} (h : left < w) : szR left (w + w') = -1 := if_pos (by omega)
theorem wUses_mem : ∀ {l : List Use} {u : Use}, u ∈ l → wUse u ≤ wUses l
  | x :: xs, u, h => by
    rcases List.mem_cons.1 h with rfl | h
    · simp only [wUses]; omega
    · have := wUses_mem h; simp only [wUses]; omega
theorem wBinds_mem : ∀ {l : List Bind} {u : Bind}, u ∈ l → wBind u ≤ wBinds l
  | x :: xs, u, h => by
    rcases List.mem_cons.1 h with rfl | h
    · simp only [wBinds]; omega
    · have := wBinds_mem h; simp only [wBinds]; omega
theorem wDecls_mem : ∀ {l : List Decl} {u : Decl}, u ∈ l → wDecl u ≤ wDecls l
  | x :: xs, u, h => by
    rcases List.mem_cons.1 h with rfl | h
    · simp only [wDecls]; omega
    · have := wDecls_mem h; simp only [wDecls]; omega
theorem wModules_mem : ∀ {l : List Module} {u : Module}, u ∈ l → wModule u ≤ wModules l
  | x :: xs, u, h => by
    rcases List.mem_cons.1 h with rfl | h
    · simp only [wModules]; omega
    · have := wModules_mem h; simp only [wModules]; omega
mutual
theorem Sm_of_w : ∀ (e : Expr), wExpr e ≤ 1000000 → e.Sm
  | .mk k n t ks, h => by
    simp only [wExpr] at h
    exact ⟨by omega, by omega, Sms_of_w ks (by omega)⟩
theorem Sms_of_w : ∀ (l : List Expr), wExprs l ≤ 1000000 → Expr.Sms l
  | [], _ => trivial
  | x :: xs, h => by
    simp only [wExprs] at h
    exact ⟨Sm_of_w x (by omega), Sms_of_w xs (by omega)⟩
end
theorem SmD_of_w (d : Decl) (h : wDecl d ≤ 1000000) : d.Sm := by
  simp only [wDecl] at h
  exact ⟨⟨by omega, by omega⟩, by omega, fun b hb => by have := wBinds_mem hb; simp only [wBind] at this; omega, Sm_of_w _ (by omega)⟩
theorem SmM_of_w (m : Module) (h : wModule m ≤ 1000000) : m.Sm := by
  simp only [wModule] at h
  exact ⟨by omega, by omega, fun u hu => by have := wUses_mem hu; simp only [wUse] at this; omega, by omega, fun d hd => SmD_of_w d (by have := wDecls_mem hd; omega)⟩
theorem SmP_of_w (p : List Module) (h : p.length + wModules p ≤ 1000000) : SmP p := ⟨by omega, fun m hm => SmM_of_w m (by have := wModules_mem hm; omega)⟩

/-! #### Room behind -/
def room (n : Nat) : Nat := if n % 6 = 5 then 0 else if n % 3 = 0 then 1 else n
theorem room_le (n : Nat) : room n ≤ n + 1 := by unfold room; split; omega; split <;> omega
def spareS : Str := [126, 115, 112, 97, 114, 101, 126]
def fillUse : Use := ⟨spareS, spareS⟩
def fillBind : Bind := ⟨spareS, spareS⟩
def fillExpr : LExpr := .mk (-7000000000000000101) (-7000000000000000101) spareS [] [] false
def fillDecl : LDecl := ⟨-7000000000000000101, spareS, ⟨[fillBind], [], false⟩, spareS, fillExpr⟩
def fillModule : LModule := ⟨spareS, ⟨[fillUse], [], false⟩, ⟨[fillDecl], [], false⟩⟩
/-- A list laid anew. -/
def toS {α : Type} (f : α → List PV) (fill : α) (bare : Bool) (es : List α) : Sl α := if bare && es.length == 0 then ⟨[], [], true⟩ else ⟨es, (List.replicate (room es.length) fill).map f, true⟩
theorem toS_es {α : Type} (f : α → List PV) (fill : α) (bare : Bool) (es : List α) : (toS f fill bare es).es = es := by
  unfold toS
  split
  · rename_i h
    simp at h
    rw [h.2]
  · rfl
mutual
def toE (bare : Bool) : LExpr → LExpr
  | .mk k n t ks _ _ => .mk k n t (toEs bare ks) (toS LExpr.C fillExpr bare (toEs bare ks)).sp (toS LExpr.C fillExpr bare (toEs bare ks)).lim
def toEs (bare : Bool) : List LExpr → List LExpr
  | [] => []
  | x :: xs => toE bare x :: toEs bare xs
end
theorem toEs_map (bare : Bool) (l : List LExpr) : toEs bare l = l.map (toE bare) := by induction l <;> simp_all [toEs]
def toD (bare : Bool) (d : LDecl) : LDecl := ⟨d.kind, d.name, toS Bind.C fillBind bare d.binds.es, d.type, toE bare d.body⟩
def toM (bare : Bool) (m : LModule) : LModule := ⟨m.name, toS Use.C fillUse bare m.uses.es, toS LDecl.C fillDecl bare (m.decls.es.map (toD bare))⟩
def toP (bare : Bool) (p : List LModule) : Sl LModule := toS LModule.C fillModule bare (p.map (toM bare))
mutual
theorem toE_core (bare : Bool) : ∀ (e : LExpr), (toE bare e).core = e.core
  | .mk k n t ks sp lim => by
    have := toEs_core bare ks
    simp only [toE, LExpr.core, this]
theorem toEs_core (bare : Bool) : ∀ (l : List LExpr), LExpr.cores (toEs bare l) = LExpr.cores l
  | [] => rfl
  | x :: xs => by simp only [toEs, LExpr.cores, toE_core bare x, toEs_core bare xs]
end
theorem toD_core (bare : Bool) (d : LDecl) : (toD bare d).core = d.core := by simp [toD, LDecl.core, toS_es, toE_core]
theorem toM_core (bare : Bool) (m : LModule) : (toM bare m).core = m.core := by
  simp [toM, LModule.core, toS_es, toD_core]
theorem toP_core (bare : Bool) (p : List LModule) : (toP bare p).es.map LModule.core = p.map LModule.core := by
  simp [toP, toS_es, toM_core]
/-- Equal to itself. -/
theorem all2_refl {α : Type} {f : α → α → Bool} (h : ∀ a, f a a = true) : ∀ (l : List α), all2 f l l = true
  | [] => rfl
  | x :: xs => by simp [all2, h x, all2_refl h xs]
mutual
theorem same_refl : ∀ (e : Expr), Expr.same e e = true
  | .mk k n t ks => by simp [Expr.same, Expr.kind, Expr.num, Expr.text, Expr.kids, sames_refl ks]
theorem sames_refl : ∀ (l : List Expr), Expr.sames l l = true
  | [] => rfl
  | x :: xs => by simp [Expr.sames, same_refl x, sames_refl xs]
end
theorem sameDecl_refl (d : Decl) : sameDecl d d = true := by simp [sameDecl, same_refl, all2_refl]
theorem sameModule_refl (m : Module) : sameModule m m = true := by simp [sameModule, sameDecl_refl, all2_refl]
end Go.Mach

/- Types of expressions, in plain Lean: what the reference computes, what the program computes, and that it is the same for a program that is one. -/
namespace Go.Mach
set_option linter.unusedVariables false
set_option linter.unusedSimpArgs false

/-! #### Where a name leads -/
def foundP (p : List Module) (mi : Nat) (name : Str) : Int × Int := match p[mi]? with
  | none => (-1, -1)
  | some m => if 0 ≤ declAt m name then ((mi : Int), declAt m name) else match at' m.uses (useAt m name) with
    | none => (-1, -1)
    | some u => match at' p (moduleAt p u.module) with
      | none => (-1, -1)
      | some o => (moduleAt p u.module, declAt o name)
def declP (p : List Module) (a : Int × Int) : Option Decl := match at' p a.1 with
  | none => none
  | some m => at' m.decls a.2
def resolve (p : List Module) (mi : Nat) (name : Str) : Option Decl := declP p (foundP p mi name)
theorem at_nat {α : Type} (l : List α) (k : Nat) : at' l (k : Int) = l[k]? := by
  have h : ¬ (k : Int) < 0 := by omega
  simp [at', h]
theorem found_cases {p : List Module} (hp : programOk p = true) {mi : Nat} {m : Module} (hm : p[mi]? = some m) (name : Str) :
    (foundP p mi name = (-1, -1) ∧ declAt m name = -1 ∧ useAt m name = -1) ∨
    (∃ (k : Nat) (d : Decl), foundP p mi name = ((mi : Int), (k : Int)) ∧ declAt m name = k ∧ m.decls[k]? = some d ∧ d.name = name) ∨
    ∃ (i j k : Nat) (u : Use) (o : Module) (d : Decl), foundP p mi name = ((j : Int), (k : Int)) ∧ declAt m name = -1 ∧ useAt m name = i ∧ m.uses[i]? = some u ∧ u.name = name ∧ moduleAt p u.module = j ∧ p[j]? = some o ∧ o.name = u.module ∧ declAt o name = k ∧ o.decls[k]? = some d ∧ d.name = name := by
  rw [programOk_iff] at hp
  obtain ⟨_, h2, _, _⟩ := hp
  have hmm : m ∈ p := List.mem_of_getElem? hm
  obtain ⟨_, _, _, _, hu, _⟩ := h2 m hmm
  rcases idxFrom_cases (fun d => d.name == name) m.decls 0 with ⟨h3, _⟩ | ⟨k, hk, h3, h4, _⟩
  · have h3' : declAt m name = -1 := h3
    rcases idxFrom_cases (fun d => d.name == name) m.uses 0 with ⟨h5, _⟩ | ⟨i, hi, h5, h6, _⟩
    · have h5' : useAt m name = -1 := h5
      refine .inl ⟨?_, h3', h5'⟩
      simp [foundP, hm, h3', h5', at']
    · have h5' : useAt m name = (i : Int) := by unfold useAt; rw [h5]; simp
      have h6' : m.uses[i].name = name := by simpa using h6
      have hok := hu m.uses[i] (List.getElem_mem hi)
      simp only [useOk] at hok
      have h9 := at_idx (fun x : Module => x.name == m.uses[i].module) p
      rcases idxFrom_cases (fun x : Module => x.name == m.uses[i].module) p 0 with ⟨h7, _⟩ | ⟨j, hj, h7, h8, _⟩
      · have h7' : moduleAt p m.uses[i].module = -1 := h7
        simp [h7', at'] at hok
      · have h7' : moduleAt p m.uses[i].module = (j : Int) := by unfold moduleAt; rw [h7]; simp
        rw [h7', at_nat, List.getElem?_eq_getElem hj] at hok
        simp only [Bool.and_eq_true, decide_eq_true_eq] at hok
        rcases idxFrom_cases (fun d => d.name == m.uses[i].name) p[j].decls 0 with ⟨h10, _⟩ | ⟨k, hk, h10, h11, _⟩
        · have : declAt p[j] m.uses[i].name = -1 := h10
          omega
        · have h10' : declAt p[j] name = (k : Int) := by rw [← h6']; unfold declAt; rw [h10]; simp
          refine .inr (.inr ⟨i, j, k, m.uses[i], p[j], p[j].decls[k], ?_, h3', h5', List.getElem?_eq_getElem hi, h6', h7', List.getElem?_eq_getElem hj, by simpa using h8, h10', List.getElem?_eq_getElem hk, ?_⟩)
          · simp [foundP, hm, h3', h5', at_nat, List.getElem?_eq_getElem hi, h7', List.getElem?_eq_getElem hj, h10']
          · rw [← h6']; simpa using h11
  · have h3' : declAt m name = (k : Int) := by unfold declAt; rw [h3]; simp
    refine .inr (.inl ⟨k, m.decls[k], ?_, h3', List.getElem?_eq_getElem hk, by simpa using h4⟩)
    have h0 : 0 ≤ declAt m name := by omega
    simp [foundP, hm, h0, h3']
/-- A name leads to nothing, or to a declaration of that name in some module. -/
theorem resolve_cases {p : List Module} (hp : programOk p = true) {mi : Nat} {m : Module} (hm : p[mi]? = some m) (name : Str) :
    (foundP p mi name = (-1, -1) ∧ resolve p mi name = none) ∨ ∃ (j k : Nat) (o : Module) (d : Decl), foundP p mi name = ((j : Int), (k : Int)) ∧ p[j]? = some o ∧ o.decls[k]? = some d ∧ d.name = name ∧ resolve p mi name = some d := by
  rcases found_cases hp hm name with ⟨h1, _⟩ | ⟨k, d, h1, _, h3, h4⟩ | ⟨i, j, k, u, o, d, h1, _, _, _, _, _, h7, _, _, h9, h10⟩
  · refine .inl ⟨h1, ?_⟩
    simp [resolve, declP, h1, at']
  · refine .inr ⟨mi, k, m, d, h1, hm, h3, h4, ?_⟩
    simp [resolve, declP, h1, at_nat, hm, h3]
  · refine .inr ⟨j, k, o, d, h1, h7, h9, h10, ?_⟩
    simp [resolve, declP, h1, at_nat, h7, h9]

/-! #### Records -/
def recS : List Module → Str → Option Decl
  | [], _ => none
  | m :: r, name => match at' m.decls (declAt m name) with
    | some d => if d.kind == 1 then some d else recS r name
    | none => recS r name
def recI : List Module → Str → Option Decl
  | [], _ => none
  | m :: r, name => match m.decls.find? (fun d => d.kind == 1 && d.name == name) with
    | some d => some d
    | none => recI r name
theorem find_nodup {name : Str} : ∀ (l : List Decl), (l.map Decl.name).Nodup → l.find? (fun d => d.kind == 1 && d.name == name) = match l.find? (fun d => d.name == name) with
    | some d => if d.kind == 1 then some d else none
    | none => none
  | [], _ => rfl
  | d :: r, h => by
    simp only [List.map_cons, List.nodup_cons] at h
    have ih := find_nodup (name := name) r h.2
    by_cases hn : d.name = name
    · by_cases hk : d.kind = 1
      · simp [hn, hk]
      · have : r.find? (fun d => d.kind == 1 && d.name == name) = none := by
          rw [List.find?_eq_none]
          intro x hx hc
          simp only [Bool.and_eq_true, beq_iff_eq] at hc
          exact h.1 (hn ▸ hc.2 ▸ List.mem_map_of_mem hx)
        simp [hn, hk, this]
    · simp [hn, ih]
theorem rec_eq (name : Str) : ∀ (p : List Module), (∀ m, m ∈ p → (m.decls.map Decl.name).Nodup) → recI p name = recS p name
  | [], _ => rfl
  | m :: r, h => by
    have ih := rec_eq name r fun x hx => h x (by simp [hx])
    simp only [recI, recS, declAt, at_idx, find_nodup m.decls (h m (by simp)), ih]
    cases m.decls.find? (fun d => d.name == name) with
    | none => rfl
    | some d => by_cases hk : d.kind = 1 <;> simp [hk]
theorem names_nodup {p : List Module} (hp : programOk p = true) : ∀ m, m ∈ p → (m.decls.map Decl.name).Nodup := fun m hm => by
  rw [programOk_iff] at hp
  exact (List.nodup_append.1 (hp.2.1 m hm).2.2.2.2.2).2.1
theorem recS_mem {name : Str} : ∀ {p : List Module} {d : Decl}, recS p name = some d → ∃ m, m ∈ p ∧ d ∈ m.decls ∧ d.kind = 1 ∧ d.name = name
  | m :: r, d, h => by
    simp only [recS, declAt, at_idx] at h
    cases hf : m.decls.find? (fun d => d.name == name) with
    | none =>
      rw [hf] at h
      obtain ⟨m', h1, h2⟩ := recS_mem h
      exact ⟨m', by simp [h1], h2⟩
    | some x =>
      rw [hf] at h
      by_cases hk : x.kind = 1
      · simp only [hk, beq_self_eq_true, if_true, Option.some.injEq] at h
        subst h
        exact ⟨m, by simp, List.mem_of_find?_eq_some hf, hk, by simpa using List.find?_some hf⟩
      · have hk' : (x.kind == 1) = false := by simpa using hk
        simp only [hk', Bool.false_eq_true, if_false] at h
        obtain ⟨m', h1, h2⟩ := recS_mem h
        exact ⟨m', by simp [h1], h2⟩
theorem mem_recNames {l : List Decl} {d : Decl} (h : d ∈ l) (hk : d.kind = 1) : d.name ∈ recNames l := by
  unfold recNames
  exact List.mem_map_of_mem (List.mem_filter.2 ⟨h, by simpa using hk⟩)
theorem recS_of_mem {name : Str} : ∀ {p : List Module}, (∀ m, m ∈ p → (m.decls.map Decl.name).Nodup) → (allRecs p).Nodup → ∀ {m : Module} {d : Decl}, m ∈ p → d ∈ m.decls → d.kind = 1 → d.name = name → recS p name = some d
  | m :: r, hn, hr, m', d, hm, hd, hk, hnm => by
    simp only [recS, declAt, at_idx]
    simp only [allRecs, List.flatMap_cons, List.nodup_append] at hr
    have hfind : ∀ (l : List Decl), (l.map Decl.name).Nodup → ∀ (d : Decl), d ∈ l → d.name = name → l.find? (fun d => d.name == name) = some d := by
      intro l
      induction l with
      | nil => intro _ d h; simp at h
      | cons x l ih =>
        intro h d hd hdn
        simp only [List.map_cons, List.nodup_cons] at h
        by_cases hx : x.name = name
        · rcases List.mem_cons.1 hd with rfl | hd
          · simp [hx]
          · exact absurd (hx ▸ hdn ▸ List.mem_map_of_mem hd) h.1
        · rcases List.mem_cons.1 hd with rfl | hd
          · exact absurd hdn hx
          · simp [hx, ih h.2 d hd hdn]
    rcases List.mem_cons.1 hm with rfl | hm
    · rw [hfind _ (hn _ (by simp)) d hd hnm]
      simp [hk]
    · have ih := recS_of_mem (name := name) (fun x hx => hn x (by simp [hx])) hr.2.1 hm hd hk hnm
      cases hf : m.decls.find? (fun d => d.name == name) with
      | none => exact ih
      | some x =>
        have hxk : (x.kind == 1) = false := by
          cases hc : x.kind == 1 with
          | false => rfl
          | true =>
            exfalso
            have h1 := mem_recNames (List.mem_of_find?_eq_some hf) (by simpa using hc)
            have h2 : x.name = name := by simpa using List.find?_some hf
            have h3 : d.name ∈ allRecs r := List.mem_flatMap.2 ⟨m', hm, mem_recNames hd hk⟩
            exact hr.2.2 _ h1 _ h3 (by rw [h2, hnm])
        simp only [hxk]
        exact ih

/-! #### Types that may be told -/
def kindIs (k : Int) (d : Option Decl) : Bool := match d with
  | some d => d.kind == k
  | none => false
def seenP (p : List Module) (mi : Nat) (t : Str) : Bool := isPlain (coreOf t).1 || kindIs 1 (resolve p mi (coreOf t).1)
def mayTellP (p : List Module) (mi : Nat) (t : Str) : Bool := typeOk t && (isPlain (stripN 2 t) || kindIs 1 (resolve p mi (stripN 2 t)))
theorem mayTell_eq {p : List Module} {mi : Nat} {t : Str} (h : typeOk t = true) : mayTellP p mi t = seenP p mi t := by
  have h2 : (coreOf t).2 ≤ 2 := by
    simp only [typeOk, Bool.and_eq_true, decide_eq_true_eq] at h
    exact h.1
  rw [mayTellP, seenP, stripN_core 2 t h2, h]
  rfl

/-! #### Lists of a type, and the type of a list's items -/
def headL (t : Str) : Bool := byteAt t 0 == 91
def listOk (t : Str) : Bool := typeOk t && typeOk ([91] ++ t ++ [93])
def listS (t : Str) : Str := if listOk t then [91] ++ t ++ [93] else []
def itemOk (t : Str) : Bool := typeOk t && headL t
def itemS (t : Str) : Str := if itemOk t then mid t else []
theorem typeOk_nil : typeOk [] = false := by
  rw [typeOk, coreOf_done (by decide)]
  decide
theorem ne_nil_of_ok {t : Str} (h : typeOk t = true) : t ≠ [] := by
  rintro rfl
  rw [typeOk_nil] at h
  cases h
theorem item_typeOk {t : Str} (h : itemOk t = true) : typeOk (mid t) = true := by
  simp only [itemOk, Bool.and_eq_true] at h
  obtain ⟨h1, h2⟩ := h
  cases hb : brk t with
  | true =>
    rw [typeOk, coreOf_more hb] at h1
    simp only [Bool.and_eq_true, decide_eq_true_eq] at h1
    rw [typeOk]
    simp only [Bool.and_eq_true, decide_eq_true_eq]
    exact ⟨by omega, h1.2⟩
  | false =>
    exfalso
    rw [typeOk, coreOf_done hb] at h1
    simp only [Bool.and_eq_true, decide_eq_true_eq] at h1
    cases t with
    | nil => exact absurd h1.2 (by decide)
    | cons b r =>
      have hb : b = 91 := by
        simp only [headL, byteAt, beq_iff_eq] at h2
        have : b.toNat = 91 := by have h2 : ((b.toNat : Nat) : Int) = 91 := by simpa using h2
                                  omega
        exact UInt8.toNat_inj.1 this
      subst hb
      have h3 := h1.2
      simp [isPlain, isName, nameChars, small] at h3
theorem plain_typeOk {t : Str} (h : isPlain t = true) : typeOk t = true := by
  simp only [isPlain, Bool.or_eq_true, beq_iff_eq] at h
  rcases h with rfl | rfl | rfl <;> rw [typeOk, coreOf_done (by decide)] <;> decide
theorem name_core {t : Str} (h : isName t = true) : coreOf t = (t, 0) := by
  refine coreOf_done ?_
  cases hb : brk t with
  | false => rfl
  | true => have := not_name_of_brk hb; simp [h] at this
theorem name_typeOk {t : Str} (h : isName t = true) : typeOk t = true := by
  rw [typeOk, name_core h]
  simp [h]
theorem name_not_plain {t : Str} (h : isName t = true) : isPlain t = false := by
  cases hp : isPlain t with
  | false => rfl
  | true =>
    simp only [isPlain, Bool.or_eq_true, beq_iff_eq] at hp
    rcases hp with rfl | rfl | rfl <;> exact absurd h (by decide)

/-! #### What the reference computes -/
def fitsT (k : List Str) (l : List Bind) : Bool := all2 (fun t b => t == b.type) k l
def binS (op a b : Str) : Str :=
  if a != b then [] else
  if (op == [43] && (a == [105, 110, 116] || a == [116, 101, 120, 116])) || (((op == [45] || op == [42]) && a == [105, 110, 116]) || ((op == [38] || op == [124]) && a == [98, 111, 111, 108])) then a else
  if (op == [60] && a == [105, 110, 116]) || (op == [61, 61] && isPlain a) then [98, 111, 111, 108] else []
def simpleS (kind : Int) (k : List Str) : Str :=
  if (kind == 8 && k.getD 0 [] == [98, 111, 111, 108]) || (kind == 15 && isPlain (k.getD 0 [])) then k.getD 0 [] else
  if kind == 13 && headL (k.getD 0 []) then [105, 110, 116] else
  if kind == 14 && (headL (k.getD 0 []) && k.getD 1 [] == [105, 110, 116]) then mid (k.getD 0 []) else []
def lookS (l : List Bind) (name : Str) : Str := match at' l (bindAt l name) with
  | some b => b.type
  | none => []
def callS (k : List Str) (d : Option Decl) : Str := match d with
  | some d => if d.kind == 0 && fitsT k d.binds then d.type else []
  | none => []
def makeS (text : Str) (k : List Str) (see : Bool) (d : Option Decl) : Str := match d with
  | some r => if see && fitsT k r.binds then text else []
  | none => []
def fieldS (text : Str) (d : Option Decl) : Str := match d with
  | some r => lookS r.binds text
  | none => []
def plainS (p : List Module) (mi : Nat) (kind : Int) (text : Str) (k : List Str) : Str :=
  if k.contains [] then [] else
  if kind == 4 then callS k (resolve p mi text) else
  if kind == 5 then makeS text k (seenP p mi text) (recS p text) else
  if kind == 6 then fieldS text (recS p (k.getD 0 [])) else
  if kind == 7 then (if seenP p mi text && k.all (fun s => s == text) then [91] ++ text ++ [93] else []) else
  if kind == 10 then (if k.getD 0 [] == [98, 111, 111, 108] && k.getD 1 [] == k.getD 2 [] then k.getD 1 [] else []) else
  if kind == 9 then binS text (k.getD 0 []) (k.getD 1 []) else simpleS kind k
mutual
def typedS (p : List Module) (mi : Nat) : Expr → List Bind → Str
  | .mk kind _ text kids, list =>
    if kind == 0 then [105, 110, 116] else if kind == 1 then [98, 111, 111, 108] else if kind == 2 then [116, 101, 120, 116] else
    if kind == 3 then lookS list text else
    if kind == 11 || kind == 12 then boundS p mi kind text kids list else plainS p mi kind text (typedSs p mi kids list)
def boundS (p : List Module) (mi : Nat) (kind : Int) (text : Str) : List Expr → List Bind → Str
  | [a, b], list =>
    if typedS p mi a list == [] then [] else
    if kind == 12 then (if itemOk (typedS p mi a list) then (if typedS p mi b (list ++ [⟨text, mid (typedS p mi a list)⟩]) == [] then [] else listS (typedS p mi b (list ++ [⟨text, mid (typedS p mi a list)⟩]))) else [])
    else typedS p mi b (list ++ [⟨text, typedS p mi a list⟩])
  | _, _ => []
def typedSs (p : List Module) (mi : Nat) : List Expr → List Bind → List Str
  | [], _ => []
  | x :: xs, list => typedS p mi x list :: typedSs p mi xs list
end
theorem typedS_eq (p : List Module) (mi : Nat) (e : Expr) (list : List Bind) : typedS p mi e list =
    if e.kind == 0 then [105, 110, 116] else if e.kind == 1 then [98, 111, 111, 108] else if e.kind == 2 then [116, 101, 120, 116] else
    if e.kind == 3 then lookS list e.text else
    if e.kind == 11 || e.kind == 12 then boundS p mi e.kind e.text e.kids list else plainS p mi e.kind e.text (typedSs p mi e.kids list) := by cases e; rw [typedS]; rfl
theorem typedSs_map (p : List Module) (mi : Nat) (list : List Bind) : ∀ (l : List Expr), typedSs p mi l list = l.map fun e => typedS p mi e list
  | [] => by rw [typedSs]; rfl
  | x :: xs => by rw [typedSs, typedSs_map p mi list xs]; rfl

/-! #### What the program computes -/
def binI (op a b : Str) : Str × Bool :=
  if a != b then ([], false) else
  if op == [43] then (a, a == [105, 110, 116] || a == [116, 101, 120, 116]) else
  if op == [45] || op == [42] then ([105, 110, 116], a == [105, 110, 116]) else
  if op == [38] || op == [124] then ([98, 111, 111, 108], a == [98, 111, 111, 108]) else
  if op == [60] then ([98, 111, 111, 108], a == [105, 110, 116]) else ([98, 111, 111, 108], isPlain a)
def callI (kind : Int) (ts : List Str) (d : Option Decl) : Str × Bool := match d with
  | none => ([], false)
  | some d => if (d.kind == 0) != (kind == 4) || d.binds.length != ts.length then ([], false) else
    if all2 (fun b t => b.type == t) d.binds ts then (if d.kind == 1 then (d.name, true) else (d.type, true)) else ([], false)
def fieldI (text : Str) (d : Option Decl) : Str × Bool := match d with
  | none => ([], false)
  | some d => match at' d.binds (idxFrom (fun b => b.name == text) d.binds 0) with
    | none => ([], false)
    | some b => (b.type, true)
def fitI (p : List Module) (mi : Nat) (kind : Int) (text : Str) (ts : List Str) : Str × Bool :=
  if kind == 0 then ([105, 110, 116], true) else if kind == 1 then ([98, 111, 111, 108], true) else if kind == 2 then ([116, 101, 120, 116], true) else
  if kind == 4 || kind == 5 then callI kind ts (resolve p mi text) else
  if kind == 6 then fieldI text (recI p (ts.getD 0 [])) else
  if kind == 7 then (listS text, listOk text && (mayTellP p mi text && ts.all (fun s => s == text))) else
  if kind == 8 then ([98, 111, 111, 108], ts.getD 0 [] == [98, 111, 111, 108]) else
  if kind == 9 then binI text (ts.getD 0 []) (ts.getD 1 []) else
  if kind == 10 then (ts.getD 1 [], ts.getD 0 [] == [98, 111, 111, 108] && ts.getD 1 [] == ts.getD 2 []) else
  if kind == 11 then (ts.getD 1 [], true) else
  if kind == 12 then (listS (ts.getD 1 []), listOk (ts.getD 1 [])) else
  if kind == 13 then ([105, 110, 116], itemOk (ts.getD 0 [])) else
  if kind == 14 then (itemS (ts.getD 0 []), itemOk (ts.getD 0 []) && ts.getD 1 [] == [105, 110, 116]) else
  (ts.getD 0 [], isPlain (ts.getD 0 []))
def lookI (l : List Bind) (name : Str) : Str × Bool := match at' l (bindAt l name) with
  | some b => (b.type, b.type != [])
  | none => ([], false)
/-- The names in reach in a part. -/
def innerB (kind : Int) (text : Str) (i : Nat) (list : List Bind) (acc : List Str) : Option (List Bind) :=
  if (kind == 11 || kind == 12) && i == 1 then
    (if kind == 12 then (if itemOk (acc.getD 0 []) then some (list ++ [⟨text, mid (acc.getD 0 [])⟩]) else none) else some (list ++ [⟨text, acc.getD 0 []⟩]))
  else some list
mutual
def typeI (p : List Module) (mi : Nat) : Expr → List Bind → Str × Bool
  | .mk kind _ text kids, list => if kind == 3 then lookI list text else match typesI p mi kind text kids 0 list [] with
    | none => ([], false)
    | some ts => fitI p mi kind text ts
def typesI (p : List Module) (mi : Nat) (kind : Int) (text : Str) : List Expr → Nat → List Bind → List Str → Option (List Str)
  | [], _, _, acc => some acc
  | x :: xs, i, list, acc => match innerB kind text i list acc with
    | none => none
    | some l2 => if (typeI p mi x l2).2 then typesI p mi kind text xs (i + 1) list (acc ++ [(typeI p mi x l2).1]) else none
end
theorem typeI_eq (p : List Module) (mi : Nat) (e : Expr) (list : List Bind) : typeI p mi e list =
    if e.kind == 3 then lookI list e.text else match typesI p mi e.kind e.text e.kids 0 list [] with
    | none => ([], false)
    | some ts => fitI p mi e.kind e.text ts := by cases e; rw [typeI]; rfl
end Go.Mach

/- The types that the program finds are those that the reference finds. -/
namespace Go.Mach
set_option linter.unusedVariables false
set_option linter.unusedSimpArgs false

theorem bindAt_find (l : List Bind) (h : (l.map Bind.name).Nodup) (name : Str) : at' l (bindAt l name) = at' l (idxFrom (fun b => b.name == name) l 0) := by
  rw [at_idx]
  have key : ∀ (j : Nat), j ≤ l.length → at' l (bindAtTo name l j) = (l.take j).reverse.find? (fun b => b.name == name) := by
    intro j
    induction j with
    | zero => intro _; simp [bindAtTo, at']
    | succ j ih =>
      intro hj
      have hlt : j < l.length := hj
      rw [bindAtTo, List.take_add_one, List.getElem?_eq_getElem hlt]
      simp only [Option.toList_some, List.reverse_append, List.reverse_cons, List.reverse_nil, List.nil_append, List.cons_append, nameIs, List.getElem?_eq_getElem hlt]
      by_cases hn : l[j].name = name
      · simp [hn, at_nat, List.getElem?_eq_getElem hlt]
      · have hn' : (l[j].name == name) = false := by simpa using hn
        simp only [hn', Bool.false_eq_true, if_false]
        rw [ih (by omega)]
        simp [hn']
  rw [bindAt, key _ (Nat.le_refl _), List.take_length]
  clear key
  induction l with
  | nil => rfl
  | cons x l ih =>
    simp only [List.map_cons, List.nodup_cons] at h
    have ih := ih h.2
    simp only [List.reverse_cons, List.find?_append]
    rw [ih]
    by_cases hx : x.name = name
    · have : l.find? (fun b => b.name == name) = none := by
        rw [List.find?_eq_none]
        intro y hy hc
        have hc' : y.name = name := by simpa using hc
        exact h.1 (hx ▸ hc' ▸ List.mem_map_of_mem hy)
      simp [this, hx]
    · have hx' : (x.name == name) = false := by simpa using hx
      simp [hx']
theorem at_bindAt_some {l : List Bind} {name : Str} {b : Bind} (h : at' l (bindAt l name) = some b) : b ∈ l := by
  unfold at' at h
  split at h
  · cases h
  · exact List.mem_of_getElem? h

/-! #### What a program that is one holds -/
theorem bindsOk_mem : ∀ (l pre : List Bind), (pre.map Bind.name).Nodup → bindsOk pre l = true → (∀ b, b ∈ l → typeOk b.type = true ∧ isName b.name = true) ∧ ((pre ++ l).map Bind.name).Nodup
  | [], pre, hn, _ => ⟨by simp, by simpa using hn⟩
  | b :: r, pre, hn, h => by
    simp only [bindsOk, Bool.and_eq_true, Bool.not_eq_true'] at h
    obtain ⟨h1, h2, h3, h4⟩ := h
    have hb : b.name ∉ pre.map Bind.name := by
      intro hc
      obtain ⟨x, hx, hxe⟩ := List.mem_map.1 hc
      rw [List.any_eq_false] at h3
      exact h3 x hx (by simpa using hxe)
    obtain ⟨ih1, ih2⟩ := bindsOk_mem r (pre ++ [b]) (by simpa using nodup_snoc hn hb) h4
    refine ⟨fun x hx => ?_, by simpa using ih2⟩
    rcases List.mem_cons.1 hx with rfl | hx
    · exact ⟨h2, h1⟩
    · exact ih1 x hx
theorem decl_facts {d : Decl} (h : validDecl d = true) : isName d.name = true ∧ (∀ b, b ∈ d.binds → typeOk b.type = true) ∧ (d.binds.map Bind.name).Nodup ∧ (d.kind = 0 ∨ d.kind = 1) ∧ (d.kind = 0 → typeOk d.type = true ∧ exprOk d.body = true) := by
  simp only [validDecl, validBinds, Bool.and_eq_true, decide_eq_true_eq] at h
  obtain ⟨h1, ⟨h2, h3⟩, h4⟩ := h
  obtain ⟨h5, h6⟩ := bindsOk_mem d.binds [] (by simp) h2
  refine ⟨h1, fun b hb => (h5 b hb).1, by simpa using h6, ?_, fun hk => ?_⟩
  · by_cases hk : d.kind = 0
    · exact .inl hk
    · have hk' : (d.kind == 0) = false := by simpa using hk
      simp only [hk', Bool.false_eq_true, if_false, Bool.and_eq_true, beq_iff_eq] at h4
      exact .inr h4.2.1
  · have hk' : (d.kind == 0) = true := by simpa using hk
    simpa [hk'] using h4
theorem decl_valid {p : List Module} (hp : programOk p = true) {m : Module} {d : Decl} (hm : m ∈ p) (hd : d ∈ m.decls) : validDecl d = true := by
  rw [programOk_iff] at hp
  exact (hp.2.1 m hm).2.2.2.1 d hd

/-! #### Kinds, one by one -/
theorem all2_comm {α β : Type} (f : α → β → Bool) : ∀ (x : List α) (y : List β), all2 f x y = all2 (fun b a => f a b) y x
  | [], [] => rfl
  | [], _ :: _ => rfl
  | _ :: _, [] => rfl
  | x :: xs, y :: ys => by simp [all2, all2_comm f xs ys]
theorem fits_eq (k : List Str) (l : List Bind) : fitsT k l = (l.length == k.length && all2 (fun b t => b.type == t) l k) := by
  have h : fitsT k l = all2 (fun b t => b.type == t) l k := by
    rw [fitsT, all2_comm]
    congr 1
    funext b t
    rw [Bool.eq_iff_iff, beq_iff_eq, beq_iff_eq]
    exact ⟨Eq.symm, Eq.symm⟩
  rw [h]
  by_cases hl : l.length = k.length
  · simp [hl]
  · rw [all2_ne _ _ _ hl]
    simp
/-- What a pair says as a text: the first if it is one. -/
def out (r : Str × Bool) : Str := if r.2 then r.1 else []
theorem call_eq {p : List Module} (hp : programOk p = true) {mi : Nat} {m : Module} (hm : p[mi]? = some m) (text : Str) (k : List Str) :
    callS k (resolve p mi text) = out (callI 4 k (resolve p mi text)) ∧ ((callI 4 k (resolve p mi text)).2 = true → typeOk (callI 4 k (resolve p mi text)).1 = true) := by
  rcases resolve_cases hp hm text with ⟨_, h⟩ | ⟨j, i, o, d, _, h2, h3, h4, h⟩
  · rw [h]; simp [callS, callI, out]
  · rw [h]
    have hv := decl_facts (decl_valid hp (List.mem_of_getElem? h2) (List.mem_of_getElem? h3))
    obtain ⟨_, _, _, hk, ht⟩ := hv
    simp only [callS, callI, fits_eq]
    rcases hk with hk | hk
    · have := (ht hk).1
      simp only [hk]
      by_cases hl : d.binds.length = k.length
      · cases ha : all2 (fun b t => b.type == t) d.binds k <;> simp [hl, out, this]
      · simp [hl, out]
    · simp [hk, out]
theorem make_eq {p : List Module} (hp : programOk p = true) {mi : Nat} {m : Module} (hm : p[mi]? = some m) {text : Str} (hn : isName text = true) (k : List Str) :
    makeS text k (seenP p mi text) (recS p text) = out (callI 5 k (resolve p mi text)) ∧ ((callI 5 k (resolve p mi text)).2 = true → typeOk (callI 5 k (resolve p mi text)).1 = true) := by
  have hseen : seenP p mi text = kindIs 1 (resolve p mi text) := by rw [seenP, name_core hn, name_not_plain hn]; rfl
  rw [hseen]
  rcases resolve_cases hp hm text with ⟨_, h⟩ | ⟨j, i, o, d, _, h2, h3, h4, h⟩
  · rw [h]
    cases recS p text <;> simp [makeS, callI, out, kindIs]
  · rw [h]
    have hv := decl_facts (decl_valid hp (List.mem_of_getElem? h2) (List.mem_of_getElem? h3))
    obtain ⟨_, _, _, hk, ht⟩ := hv
    rcases hk with hk | hk
    · cases recS p text <;> simp [makeS, callI, out, kindIs, hk]
    · have hr : recS p text = some d := recS_of_mem (names_nodup hp) ((programOk_iff p).1 hp).2.2.2 (List.mem_of_getElem? h2) (List.mem_of_getElem? h3) hk h4
      rw [hr]
      simp only [makeS, callI, fits_eq, kindIs, hk]
      have := name_typeOk hn
      by_cases hl : d.binds.length = k.length
      · cases ha : all2 (fun b t => b.type == t) d.binds k <;> simp [hl, out, h4, this]
      · simp [hl, out]
theorem field_eq {p : List Module} (hp : programOk p = true) (text t : Str) :
    fieldS text (recS p t) = out (fieldI text (recI p t)) ∧ ((fieldI text (recI p t)).2 = true → typeOk (fieldI text (recI p t)).1 = true) := by
  rw [rec_eq t p (names_nodup hp)]
  cases h : recS p t with
  | none => simp [fieldS, fieldI, out]
  | some r =>
    obtain ⟨m, h1, h2, h3, h4⟩ := recS_mem h
    obtain ⟨_, hb, hnd, _, _⟩ := decl_facts (decl_valid hp h1 h2)
    simp only [fieldS, fieldI, lookS, ← bindAt_find r.binds hnd text]
    cases ha : at' r.binds (bindAt r.binds text) with
    | none => simp [out]
    | some b => simp [out, hb b (at_bindAt_some ha)]
theorem bin_eq {op a b : Str} (ho : opsL.contains op = true) : binS op a b = out (binI op a b) ∧ ((binI op a b).2 = true → typeOk a = true → typeOk (binI op a b).1 = true) := by
  have ho' : op = [43] ∨ op = [45] ∨ op = [42] ∨ op = [60] ∨ op = [61, 61] ∨ op = [38] ∨ op = [124] := by simpa [opsL] using ho
  have t1 : typeOk [105, 110, 116] = true := plain_typeOk (by decide)
  have t2 : typeOk [98, 111, 111, 108] = true := plain_typeOk (by decide)
  by_cases hab : a = b
  · subst hab
    rcases ho' with rfl | rfl | rfl | rfl | rfl | rfl | rfl <;> simp [binS, binI, out, t1, t2] <;> grind
  · simp [binS, binI, out, hab]
theorem look_eq (l : List Bind) (hl : ∀ b, b ∈ l → typeOk b.type = true) (text : Str) : lookS l text = out (lookI l text) ∧ ((lookI l text).2 = true → typeOk (lookI l text).1 = true) := by
  simp only [lookS, lookI]
  cases ha : at' l (bindAt l text) with
  | none => simp [out]
  | some b =>
    have := hl b (at_bindAt_some ha)
    simp [out, this, ne_nil_of_ok this]
theorem out_ok {r : Str × Bool} (h : r.2 = true → typeOk r.1 = true) : (out r == []) = !r.2 ∧ (r.2 = true → out r = r.1) ∧ (out r ≠ [] → typeOk (out r) = true) := by
  cases hr : r.2 with
  | false => simp [out, hr]
  | true =>
    have := ne_nil_of_ok (h hr)
    simp [out, hr, this, h hr]
theorem list_eq (t : Str) : listS t = out (listS t, listOk t) ∧ (listOk t = true → typeOk (listS t) = true) := by
  cases h : listOk t with
  | false => simp [out, listS, h]
  | true =>
    refine ⟨by simp [out], fun _ => ?_⟩
    have h' := h
    simp only [listOk, Bool.and_eq_true] at h'
    rw [listS, h]
    exact h'.2
theorem item_eq {t : Str} (h : typeOk t = true) : itemOk t = headL t := by simp [itemOk, h]

theorem shape_facts {e : Expr} {tall : Nat} (h : validShape e tall = true) : validText e.kind e.text = true ∧ inR e.kind 0 15 = true ∧ inR e.kids.length (kidsOf e.kind).1 (kidsOf e.kind).2 = true ∧ validShapes e.kids (tall - 1) = true := by
  rw [validShape_eq] at h
  simp only [Bool.and_eq_true] at h
  exact ⟨h.2.2.1, h.2.1, h.2.2.2.2.1, h.2.2.2.2.2⟩

section
variable {p : List Module} {mi : Nat} {m : Module}
/-- No name is bound: the parts' types, one by one. -/
theorem typesI_plain {kind : Int} {text : Str} (hk : (kind == 11 || kind == 12) = false) {list : List Bind} : ∀ (xs : List Expr) (i : Nat) (acc : List Str),
    (∀ x, x ∈ xs → typedS p mi x list = out (typeI p mi x list) ∧ ((typeI p mi x list).2 = true → typeOk (typeI p mi x list).1 = true)) →
    typesI p mi kind text xs i list acc = (if (typedSs p mi xs list).contains [] then none else some (acc ++ typedSs p mi xs list)) ∧ ∀ t, t ∈ typedSs p mi xs list → t ≠ [] → typeOk t = true
  | [], i, acc, _ => by rw [typesI, typedSs]; simp
  | x :: xs, i, acc, h => by
    obtain ⟨h1, h2⟩ := h x (by simp)
    obtain ⟨h3, h4, h5⟩ := out_ok h2
    obtain ⟨ih1, ih2⟩ := typesI_plain (text := text) hk xs (i + 1) (acc ++ [(typeI p mi x list).1]) fun y hy => h y (by simp [hy])
    rw [typesI, typedSs]
    simp only [innerB, hk, Bool.false_and, Bool.false_eq_true, if_false, ih1]
    refine ⟨?_, fun t ht hne => ?_⟩
    · cases hb : (typeI p mi x list).2 with
      | false =>
        have : typedS p mi x list = [] := by rw [h1]; simp [out, hb]
        simp [this]
      | true =>
        have e : typedS p mi x list = (typeI p mi x list).1 := by rw [h1, h4 hb]
        have hne : (typeI p mi x list).1 ≠ [] := ne_nil_of_ok (h2 hb)
        rw [e]
        have : (([] : Str) == (typeI p mi x list).1) = false := by
          rw [Bool.eq_false_iff]; intro hc; exact hne (by simpa using (beq_iff_eq.1 hc).symm)
        simp [hne]
    · rcases List.mem_cons.1 ht with rfl | ht
      · rw [h1]; exact h5 (h1 ▸ hne)
      · exact ih2 t ht hne
theorem validShapes_mem {tall : Nat} : ∀ {l : List Expr}, validShapes l tall = true → ∀ x, x ∈ l → validShape x tall = true
  | y :: ys, h, x, hx => by
    simp only [validShapes, Bool.and_eq_true] at h
    rcases List.mem_cons.1 hx with rfl | hx
    · exact h.1
    · exact validShapes_mem h.2 x hx
theorem out_pair (a : Str) (b : Bool) : out (a, b) = if b then a else [] := rfl
theorem ok_int : typeOk [105, 110, 116] = true := plain_typeOk (by decide)
theorem ok_bool : typeOk [98, 111, 111, 108] = true := plain_typeOk (by decide)
theorem ok_text : typeOk [116, 101, 120, 116] = true := plain_typeOk (by decide)
/-- By the kind, from the types of the parts. -/
theorem fit_eq (hp : programOk p = true) (hm : p[mi]? = some m) {kind : Int} {text : Str} {k : List Str} (hr : inR kind 0 15 = true) (hv : validText kind text = true)
    (hl : inR k.length (kidsOf kind).1 (kidsOf kind).2 = true) (hk3 : kind ≠ 0 ∧ kind ≠ 1 ∧ kind ≠ 2 ∧ kind ≠ 3 ∧ kind ≠ 11 ∧ kind ≠ 12) (hc : k.contains [] = false) (hok : ∀ t, t ∈ k → typeOk t = true) :
    plainS p mi kind text k = out (fitI p mi kind text k) ∧ ((fitI p mi kind text k).2 = true → typeOk (fitI p mi kind text k).1 = true) := by
  have hget : ∀ i, i < k.length → typeOk (k.getD i []) = true := fun i hi => by
    rw [List.getD_eq_getElem?_getD, List.getElem?_eq_getElem hi]
    exact hok _ (List.getElem_mem hi)
  have hr' : kind = 4 ∨ kind = 5 ∨ kind = 6 ∨ kind = 7 ∨ kind = 8 ∨ kind = 9 ∨ kind = 10 ∨ kind = 13 ∨ kind = 14 ∨ kind = 15 := by
    simp only [inR, Bool.and_eq_true, decide_eq_true_eq] at hr
    omega
  have hne : ∀ i, i < k.length → k.getD i [] ≠ [] := fun i hi => ne_nil_of_ok (hget i hi)
  simp only [plainS, hc, Bool.false_eq_true, if_false]
  rcases hr' with rfl | rfl | rfl | rfl | rfl | rfl | rfl | rfl | rfl | rfl
  · have := call_eq hp hm text k
    simpa [fitI] using this
  · have := make_eq hp hm (text := text) (by simpa [validText] using hv) k
    simpa [fitI] using this
  · have := field_eq hp text (k.getD 0 [])
    simpa [fitI] using this
  · have h1 : typeOk ([91] ++ text ++ [93]) = true := by simpa [validText] using hv
    have h2 : typeOk text = true := typeOk_list h1
    have h3 : listOk text = true := by rw [listOk, h1, h2]; rfl
    have h1' : typeOk (91 :: (text ++ [93])) = true := h1
    have h4 : listS text = [91] ++ text ++ [93] := by rw [listS, h3]; rfl
    simp only [fitI, mayTell_eq h2, h3, h4]
    simp [out, h1']
  · simp [simpleS, fitI, out, ok_bool]
    split <;> simp_all
  · have h2 : k.length = 2 := by simp [inR, kidsOf] at hl; omega
    have := bin_eq (op := text) (a := k.getD 0 []) (b := k.getD 1 []) (by simpa [validText] using hv)
    have h3 := hget 0 (by omega)
    simpa [fitI, h3] using ⟨this.1, fun h => this.2 h h3⟩
  · have h2 : k.length = 3 := by simp [inR, kidsOf] at hl; omega
    have h3 := hget 1 (by omega)
    rw [List.getD_eq_getElem?_getD] at h3
    simp [fitI, out, h3]
  · have h2 : k.length = 1 := by simp [inR, kidsOf] at hl; omega
    have h3 := hget 0 (by omega)
    simp only [fitI, simpleS, item_eq h3]
    simp [out, ok_int]
  · have h2 : k.length = 2 := by simp [inR, kidsOf] at hl; omega
    have h3 := hget 0 (by omega)
    have h4 : itemOk (k.getD 0 []) = true → typeOk (mid (k.getD 0 [])) = true := item_typeOk
    simp only [fitI, simpleS, itemS]
    rw [item_eq h3] at *
    cases hh : headL (k.getD 0 []) with
    | false => simp [out, hh]
    | true =>
      have h5 := h4 hh
      simp only [hh, out]
      refine ⟨by simp, fun _ => by simpa using h5⟩
  · have h2 : k.length = 1 := by simp [inR, kidsOf] at hl; omega
    have h3 := hget 0 (by omega)
    simp only [fitI, simpleS]
    refine ⟨by simp [out], fun _ => by simpa using h3⟩
theorem typed_eq (hp : programOk p = true) (hm : p[mi]? = some m) : ∀ (e : Expr) (tall : Nat), validShape e tall = true → ∀ (list : List Bind), (∀ b, b ∈ list → typeOk b.type = true) →
    typedS p mi e list = out (typeI p mi e list) ∧ ((typeI p mi e list).2 = true → typeOk (typeI p mi e list).1 = true)
  | .mk kind num text kids, tall, hv, list, hl => by
    have ihk : ∀ x, x ∈ kids → ∀ (list : List Bind), (∀ b, b ∈ list → typeOk b.type = true) → typedS p mi x list = out (typeI p mi x list) ∧ ((typeI p mi x list).2 = true → typeOk (typeI p mi x list).1 = true) := fun x hx list hl =>
      typed_eq hp hm x (tall - 1) (validShapes_mem (shape_facts hv).2.2.2 x hx) list hl
    obtain ⟨h1, h2, h3, _⟩ := shape_facts hv
    simp only [Expr.kind, Expr.text, Expr.kids] at h1 h2 h3
    rw [typedS_eq, typeI_eq]
    simp only [Expr.kind, Expr.text, Expr.kids]
    by_cases k3 : kind = 3
    · subst k3
      simpa using look_eq list hl text
    by_cases k012 : kind = 0 ∨ kind = 1 ∨ kind = 2
    · have hkid : kids = [] := by
        rcases k012 with rfl | rfl | rfl <;> (simp [inR, kidsOf] at h3; exact h3)
      subst hkid
      rcases k012 with rfl | rfl | rfl <;> simp [typesI, fitI, out, ok_int, ok_bool, ok_text]
    by_cases kb : kind = 11 ∨ kind = 12
    · have hkid : kids.length = 2 := by
        rcases kb with rfl | rfl <;> (simp [inR, kidsOf] at h3; omega)
      match kids, hkid, ihk with
      | [a, b], _, ihk =>
      obtain ⟨ha1, ha2⟩ := ihk a (by simp) list hl
      obtain ⟨ha3, ha4, ha5⟩ := out_ok ha2
      have hb := ihk b (by simp)
      rcases kb with rfl | rfl
      · simp only [typesI, innerB, boundS]
        cases hA : (typeI p mi a list).2 with
        | false =>
          rw [ha1]
          simp [ha3, hA, out]
        | true =>
          have hA2 := ha2 hA
          obtain ⟨hb1, hb2⟩ := hb (list ++ [⟨text, (typeI p mi a list).1⟩]) (by
            intro x hx
            rcases List.mem_append.1 hx with hx | hx
            · exact hl x hx
            · rw [List.mem_singleton.1 hx]; exact hA2)
          rw [ha1, ha4 hA]
          have hne : ((typeI p mi a list).1 == []) = false := by simpa using ne_nil_of_ok hA2
          simp only [hne]
          cases hB : (typeI p mi b (list ++ [⟨text, (typeI p mi a list).1⟩])).2 with
          | false => simp [hB, hb1, out]
          | true => simp [hA, hB, hb1, out, fitI, hb2 hB]
      · simp only [typesI, innerB, boundS]
        cases hA : (typeI p mi a list).2 with
        | false =>
          rw [ha1]
          simp [ha3, hA, out]
        | true =>
          have hA2 := ha2 hA
          rw [ha1, ha4 hA]
          have hne : ((typeI p mi a list).1 == []) = false := by simpa using ne_nil_of_ok hA2
          simp only [hne]
          cases hI : itemOk (typeI p mi a list).1 with
          | false => simp [hI, out]
          | true =>
          have hI2 := item_typeOk hI
          obtain ⟨hb1, hb2⟩ := hb (list ++ [⟨text, mid (typeI p mi a list).1⟩]) (by
            intro x hx
            rcases List.mem_append.1 hx with hx | hx
            · exact hl x hx
            · rw [List.mem_singleton.1 hx]; exact hI2)
          obtain ⟨l1, l2⟩ := list_eq (typeI p mi b (list ++ [⟨text, mid (typeI p mi a list).1⟩])).1
          cases hB : (typeI p mi b (list ++ [⟨text, mid (typeI p mi a list).1⟩])).2 with
          | false => simp [hI, hB, hb1, out]
          | true =>
            have hne2 := ne_nil_of_ok (hb2 hB)
            simp only [out] at l1
            simp [hA, hI, hB, hb1, out, fitI, hne2]
            exact ⟨fun h => by simp [listS, h], l2⟩
    · have hkb : (kind == 11 || kind == 12) = false := by simp; omega
      have hk3 : (kind == 3) = false := by simpa using k3
      have hk0 : (kind == 0) = false := by simp; omega
      have hk1 : (kind == 1) = false := by simp; omega
      have hk2 : (kind == 2) = false := by simp; omega
      obtain ⟨t1, t2⟩ := typesI_plain (kind := kind) (text := text) hkb kids 0 [] (fun x hx => ihk x hx list hl)
      simp only [hk0, hk1, hk2, hk3, hkb, Bool.false_eq_true, if_false, t1]
      cases hc : (typedSs p mi kids list).contains [] with
      | true =>
        have hc' : [] ∈ typedSs p mi kids list := by simpa using hc
        simp [plainS, hc', out]
      | false =>
        simp only [Bool.false_eq_true, if_false, List.nil_append]
        refine fit_eq hp hm h2 h1 (by rw [typedSs_map, List.length_map]; exact h3) (by omega) hc fun t ht => t2 t ht ?_
        rintro rfl
        have := List.contains_iff_mem.2 ht
        rw [this] at hc
        cases hc
termination_by e => e
decreasing_by
  simp_wf
  have := List.sizeOf_lt_of_mem hx
  omega

/-! #### Declarations and programs -/
def declTypedS (p : List Module) (mi : Nat) (d : Decl) : Bool := d.kind == 1 || (d.binds.all (fun b => seenP p mi b.type) && (seenP p mi d.type && typedS p mi d.body d.binds == d.type))
def declTypedI (p : List Module) (mi : Nat) (d : Decl) : Bool := d.kind == 1 || (d.binds.all (fun b => mayTellP p mi b.type) && ((typeI p mi d.body d.binds).2 && ((typeI p mi d.body d.binds).1 == d.type && mayTellP p mi d.type)))
theorem declTyped_eq (hp : programOk p = true) (hm : p[mi]? = some m) {d : Decl} (hd : validDecl d = true) : declTypedI p mi d = declTypedS p mi d := by
  obtain ⟨_, hb, _, hk, h0⟩ := decl_facts hd
  rcases hk with hk | hk
  · obtain ⟨ht, he⟩ := h0 hk
    simp only [exprOk, Bool.and_eq_true] at he
    obtain ⟨h1, h2⟩ := typed_eq hp hm d.body 9 he.1 d.binds hb
    have h3 : d.binds.all (fun b => mayTellP p mi b.type) = d.binds.all (fun b => seenP p mi b.type) := by
      rw [Bool.eq_iff_iff, List.all_eq_true, List.all_eq_true]
      exact ⟨fun h b hx => by rw [← mayTell_eq (hb b hx)]; exact h b hx, fun h b hx => by rw [mayTell_eq (hb b hx)]; exact h b hx⟩
    simp only [declTypedI, declTypedS, h1, h3, mayTell_eq ht]
    have hne := ne_nil_of_ok ht
    cases hB : (typeI p mi d.body d.binds).2 with
    | false =>
      have : (out (typeI p mi d.body d.binds) == d.type) = false := by
        simp only [out, hB, Bool.false_eq_true, if_false]
        rw [Bool.eq_false_iff]; intro hc; exact hne (beq_iff_eq.1 hc).symm
      simp [this]
    | true =>
      simp only [out, hB, if_true, Bool.true_and]
      cases (typeI p mi d.body d.binds).1 == d.type <;> simp
  · simp [declTypedI, declTypedS, hk]
def modsTyped (f : Nat → Decl → Bool) : List Module → Nat → Bool
  | [], _ => true
  | m :: r, i => m.decls.all (f i) && modsTyped f r (i + 1)
def progTyped (p : List Module) : Bool := programOk p && modsTyped (declTypedS p) p 0
theorem modsTyped_eq (hp : programOk p = true) : ∀ (suf pre : List Module), p = pre ++ suf → modsTyped (declTypedI p) suf pre.length = modsTyped (declTypedS p) suf pre.length
  | [], _, _ => rfl
  | x :: r, pre, h => by
    have ih := modsTyped_eq hp r (pre ++ [x]) (by simp [h])
    rw [List.length_append, List.length_singleton] at ih
    simp only [modsTyped, ih]
    congr 1
    have hx : p[pre.length]? = some x := by rw [h]; simp
    have hd : ∀ d, d ∈ x.decls → declTypedI p pre.length d = declTypedS p pre.length d := fun d hd => declTyped_eq hp hx (decl_valid hp (List.mem_of_getElem? hx) hd)
    rw [Bool.eq_iff_iff, List.all_eq_true, List.all_eq_true]
    exact ⟨fun h d hx => by rw [← hd d hx]; exact h d hx, fun h d hx => by rw [hd d hx]; exact h d hx⟩
theorem progTyped_eq (p : List Module) : (programOk p && modsTyped (declTypedI p) p 0) = progTyped p := by
  rw [progTyped]
  cases hp : programOk p with
  | false => rfl
  | true => exact congrArg _ (modsTyped_eq hp p [] rfl)
end
end Go.Mach
