import Derived.Test.YtnkakbpefcoanaaGreatDb
import Derived.Test.YtnkakbpefcoanaaGreatDa
/- Values, in plain Lean: a value has the shape of an expression. -/
namespace Go.Mach
set_option linter.unusedVariables false
set_option linter.unusedSimpArgs false

mutual
def validV : Expr → Nat → Bool
  | .mk k n t ks, deep =>
    if k == 0 then inR n 0 9999 && (t == [] && (ks.length : Int) == 0) else
    if k == 1 then inR n 0 1 && (t == [] && (ks.length : Int) == 0) else
    if k == 2 then isWord t && (n == 0 && (ks.length : Int) == 0) else
    if k == 3 then n == 0 && (t == [] && (decide ((ks.length : Int) ≤ 4) && (decide ((deep : Int) > 1) && validVs ks (deep - 1)))) else
    if k == 4 then n == 0 && (isName t && (inR ks.length 1 4 && (decide ((deep : Int) > 1) && validVs ks (deep - 1)))) else false
def validVs : List Expr → Nat → Bool
  | [], _ => true
  | x :: xs, deep => validV x deep && validVs xs deep
end
theorem validV_eq (e : Expr) (deep : Nat) : validV e deep =
    if e.kind == 0 then inR e.num 0 9999 && (e.text == [] && (e.kids.length : Int) == 0) else
    if e.kind == 1 then inR e.num 0 1 && (e.text == [] && (e.kids.length : Int) == 0) else
    if e.kind == 2 then isWord e.text && (e.num == 0 && (e.kids.length : Int) == 0) else
    if e.kind == 3 then e.num == 0 && (e.text == [] && (decide ((e.kids.length : Int) ≤ 4) && (decide ((deep : Int) > 1) && validVs e.kids (deep - 1)))) else
    if e.kind == 4 then e.num == 0 && (isName e.text && (inR e.kids.length 1 4 && (decide ((deep : Int) > 1) && validVs e.kids (deep - 1)))) else false := by cases e; rw [validV]; rfl
/-- What the program asks of a value ahead of its parts. -/
def headV (e : Expr) : Bool := if e.kind == 3 then e.text == [] else if e.kind == 4 then isName e.text && !((e.kids.length : Int) == 0) else false
mutual
def depthV : Expr → Nat → Int × Bool
  | .mk k n t ks, at_ =>
    if decide ((at_ : Int) > 6) then (0, false) else
    if k == 0 then (1, decide (n ≥ 0) && (decide (n ≤ 9999) && (t == [] && (ks.length : Int) == 0))) else
    if k == 1 then (1, (n == 0 || n == 1) && (t == [] && (ks.length : Int) == 0)) else
    if k == 2 then (1, n == 0 && (isWord t && (ks.length : Int) == 0)) else
    if !headV (.mk k n t ks) then (0, false) else
    if n != 0 || decide ((ks.length : Int) > 4) then (0, false) else match depthVs ks (at_ + 1) 1 with
    | none => (0, false)
    | some m => (m + 1, true)
def depthVs : List Expr → Nat → Int → Option Int
  | [], _, m => some m
  | x :: xs, at_, m => if (depthV x at_).2 then depthVs xs at_ (max m (depthV x at_).1) else none
end
theorem depthV_eq (e : Expr) (at_ : Nat) : depthV e at_ =
    if decide ((at_ : Int) > 6) then (0, false) else
    if e.kind == 0 then (1, decide (e.num ≥ 0) && (decide (e.num ≤ 9999) && (e.text == [] && (e.kids.length : Int) == 0))) else
    if e.kind == 1 then (1, (e.num == 0 || e.num == 1) && (e.text == [] && (e.kids.length : Int) == 0)) else
    if e.kind == 2 then (1, e.num == 0 && (isWord e.text && (e.kids.length : Int) == 0)) else
    if !headV e then (0, false) else
    if e.num != 0 || decide ((e.kids.length : Int) > 4) then (0, false) else match depthVs e.kids (at_ + 1) 1 with
    | none => (0, false)
    | some m => (m + 1, true) := by cases e; rw [depthV]; rfl
def okV (e : Expr) (at_ : Nat) : Bool := (depthV e at_).2 && decide ((depthV e at_).1 ≤ ((7 - at_ : Nat) : Int))
def okVs (r : Option Int) (b : Int) : Bool := match r with
  | none => false
  | some m => decide (m ≤ b)
mutual
theorem okV_eq : ∀ (e : Expr) (at_ : Nat), 1 ≤ at_ → at_ ≤ 6 → okV e at_ = validV e (7 - at_)
  | .mk k n t ks, at_, h1, h6 => by
    have ih : at_ ≤ 5 → ∀ m, okVs (depthVs ks (at_ + 1) m) ((7 - (at_ + 1) : Nat) : Int) = (decide (m ≤ ((7 - (at_ + 1) : Nat) : Int)) && validVs ks (7 - (at_ + 1))) := fun h5 m => okVs_eq ks (at_ + 1) (by omega) (by omega) m
    rw [okV, depthV_eq, validV_eq]
    have hat : decide ((at_ : Int) > 6) = false := by simp; omega
    have hb : (1 : Int) ≤ ((7 - at_ : Nat) : Int) := by omega
    simp only [Expr.kind, Expr.num, Expr.text, Expr.kids, hat, Bool.false_eq_true, if_false]
    have hsub : 7 - at_ - 1 = 7 - (at_ + 1) := by omega
    by_cases k0 : k = 0
    · subst k0
      simp only [beq_self_eq_true, if_true, inR, decide_eq_true hb, Bool.and_true, Bool.and_assoc, ge_iff_le]
      rfl
    by_cases k1 : k = 1
    · have : (n == 0 || n == 1) = inR n 0 1 := by rw [Bool.eq_iff_iff]; simp [inR]; omega
      simp only [k1, this]
      simp [hb]
    by_cases k2 : k = 2
    · subst k2
      cases isWord t <;> cases n == 0 <;> simp [hb]
    have n0 : (k == 0) = false := by simpa using k0
    have n1 : (k == 1) = false := by simpa using k1
    have n2 : (k == 2) = false := by simpa using k2
    simp only [n0, n1, n2, Bool.false_eq_true, if_false, hsub]
    have key : (match depthVs ks (at_ + 1) 1 with | none => ((0 : Int), false) | some m => (m + 1, true)).2 = true ∧ (match depthVs ks (at_ + 1) 1 with | none => ((0 : Int), false) | some m => (m + 1, true)).1 ≤ ((7 - at_ : Nat) : Int) ↔ (((7 - at_ : Nat) : Int) > 1 ∧ validVs ks (7 - (at_ + 1)) = true) := by
      by_cases h5 : at_ ≤ 5
      · have hi := ih h5 1
        have h7 : (1 : Int) ≤ ((7 - (at_ + 1) : Nat) : Int) := by omega
        have h8 : ((7 - at_ : Nat) : Int) > 1 := by omega
        simp only [h7, decide_true, Bool.true_and] at hi
        rw [← hi]
        cases depthVs ks (at_ + 1) 1 with
        | none => simp [okVs]
        | some m => simp [okVs, h8]; omega
      · have h8 : at_ = 6 := by omega
        subst h8
        constructor
        · intro ⟨h9, h10⟩
          exfalso
          cases ks with
          | nil => simp [depthVs] at h10
          | cons x xs =>
            have : depthV x 7 = (0, false) := by rw [depthV_eq]; simp
            simp [depthVs, this] at h9
        · intro ⟨h9, _⟩
          omega
    rw [Bool.eq_iff_iff]
    by_cases k3 : k = 3
    · subst k3
      by_cases ht : t = []
      · subst ht
        by_cases hn : n = 0
        · by_cases hl : (ks.length : Int) ≤ 4
          · have hl' : decide ((ks.length : Int) > 4) = false := by simp; omega
            simp only [headV, Expr.kind, Expr.text, hn, hl', hl]
            simp only [Bool.and_eq_true, decide_eq_true_eq]
            simpa [show ¬ (4 < (ks.length : Int)) by omega] using key
          · have hl' : decide ((ks.length : Int) > 4) = true := by simp; omega
            simp [headV, Expr.kind, Expr.text, hl', hl]
        · simp [headV, Expr.kind, Expr.text, hn]
      · simp [headV, Expr.kind, Expr.text, ht]
    by_cases k4 : k = 4
    · subst k4
      cases ht : isName t with
      | false => simp [headV, Expr.kind, Expr.text, ht]
      | true =>
        by_cases hn : n = 0
        · by_cases hl : (ks.length : Int) ≤ 4
          · have hl' : decide ((ks.length : Int) > 4) = false := by simp; omega
            by_cases hz : (ks.length : Int) = 0
            · simp [headV, Expr.kind, Expr.text, Expr.kids, ht, hz, inR]
            · have hz' : ((ks.length : Int) == 0) = false := by simpa using hz
              have hr : inR (ks.length : Int) 1 4 = true := by simp [inR]; omega
              simp only [headV, Expr.kind, Expr.text, Expr.kids, ht, hn, hl', hz', hr]
              simp only [Bool.and_eq_true, decide_eq_true_eq]
              simpa [show ¬ (4 < (ks.length : Int)) by omega] using key
          · have hl' : decide ((ks.length : Int) > 4) = true := by simp; omega
            have hr : inR (ks.length : Int) 1 4 = false := by simp [inR]; omega
            simp [headV, Expr.kind, Expr.text, hl', hr]
        · simp [headV, Expr.kind, Expr.text, hn]
    have n3 : (k == 3) = false := by simpa using k3
    have n4 : (k == 4) = false := by simpa using k4
    simp [headV, Expr.kind, n3, n4]
theorem okVs_eq : ∀ (l : List Expr) (at_ : Nat), 1 ≤ at_ → at_ ≤ 6 → ∀ m, okVs (depthVs l at_ m) ((7 - at_ : Nat) : Int) = (decide (m ≤ ((7 - at_ : Nat) : Int)) && validVs l (7 - at_))
  | [], at_, _, _, m => by simp [depthVs, okVs, validVs]
  | x :: xs, at_, h1, h6, m => by
    have hx := okV_eq x at_ h1 h6
    have ih := okVs_eq xs at_ h1 h6 (max m (depthV x at_).1)
    rw [depthVs, validVs, ← hx, okV]
    cases hb : (depthV x at_).2 with
    | false => simp [okVs]
    | true =>
      simp only [if_true, ih]
      rw [Bool.eq_iff_iff]
      simp only [Bool.and_eq_true, decide_eq_true_eq, true_and]
      rw [Int.max_le]
      grind
end
theorem depthV_ok (e : Expr) : ((depthV e 1).2 && decide ((depthV e 1).1 ≤ 6)) = validV e 6 := okV_eq e 1 (by decide) (by decide)
mutual
theorem depth_bd : ∀ (e : Expr) (at_ : Nat), at_ ≤ 7 → 0 ≤ (depthV e at_).1 ∧ (depthV e at_).1 ≤ 8 - (at_ : Int)
  | .mk k n t ks, at_, h => by
    rw [depthV_eq]
    by_cases h6 : at_ = 7
    · subst h6; simp
    have hat : decide ((at_ : Int) > 6) = false := by simp; omega
    have ih := depths_bd ks (at_ + 1) (by omega) 1
    simp only [hat, Bool.false_eq_true, if_false, Expr.kids, Expr.kind, Expr.num, Expr.text]
    cases hd : depthVs ks (at_ + 1) 1 with
    | none => grind
    | some m =>
      have := ih m hd
      grind
theorem depths_bd : ∀ (l : List Expr) (at_ : Nat), at_ ≤ 7 → ∀ (m r : Int), depthVs l at_ m = some r → m ≤ r ∧ (r ≤ m ∨ r ≤ 8 - (at_ : Int))
  | [], at_, _, m, r, h => by
    simp only [depthVs, Option.some.injEq] at h
    omega
  | x :: xs, at_, h7, m, r, h => by
    have hx := depth_bd x at_ h7
    rw [depthVs] at h
    split at h
    · have := depths_bd xs at_ h7 _ r h
      have h1 : m ≤ max m (depthV x at_).1 := Int.le_max_left _ _
      have h2 : max m (depthV x at_).1 = m ∨ max m (depthV x at_).1 = (depthV x at_).1 := by omega
      omega
    · cases h
end

/-! #### Whether a value has a type -/
mutual
def hasT (p : List Module) : Expr → Str → Bool
  | .mk k _ text ks, t =>
    if k == 0 then t == [105, 110, 116] else if k == 1 then t == [98, 111, 111, 108] else if k == 2 then t == [116, 101, 120, 116] else
    if k == 3 then itemOk t && allT p ks (mid t) else
    match recS p text with
    | none => false
    | some r => text == t && ((ks.length : Int) == (r.binds.length : Int) && hasTs p ks (r.binds.map Bind.type))
def allT (p : List Module) : List Expr → Str → Bool
  | [], _ => true
  | x :: xs, t => hasT p x t && allT p xs t
def hasTs (p : List Module) : List Expr → List Str → Bool
  | x :: xs, t :: ts => hasT p x t && hasTs p xs ts
  | _, _ => true
end
theorem hasT_eq (p : List Module) (e : Expr) (t : Str) : hasT p e t =
    if e.kind == 0 then t == [105, 110, 116] else if e.kind == 1 then t == [98, 111, 111, 108] else if e.kind == 2 then t == [116, 101, 120, 116] else
    if e.kind == 3 then itemOk t && allT p e.kids (mid t) else
    match recS p e.text with
    | none => false
    | some r => e.text == t && ((e.kids.length : Int) == (r.binds.length : Int) && hasTs p e.kids (r.binds.map Bind.type)) := by cases e; rw [hasT]; rfl
theorem allT_all (p : List Module) (t : Str) : ∀ (l : List Expr), allT p l t = l.all fun e => hasT p e t
  | [] => by rw [allT]; rfl
  | x :: xs => by rw [allT, allT_all p t xs]; rfl
theorem hasTs_cons (p : List Module) (x : Expr) (xs : List Expr) (t : Str) (ts : List Str) : hasTs p (x :: xs) (t :: ts) = (hasT p x t && hasTs p xs ts) := by rw [hasTs]
theorem hasTs_nil (p : List Module) (ts : List Str) : hasTs p [] ts = true := by cases ts <;> rw [hasTs] <;> simp
def valueTyped (p : List Module) (v : Expr) (t : Str) : Bool := programOk p && (validV v 6 && (typeOk t && hasT p v t))
end Go.Mach
