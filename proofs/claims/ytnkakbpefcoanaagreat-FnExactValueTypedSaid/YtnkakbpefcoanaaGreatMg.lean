import Derived.Test.YtnkakbpefcoanaaGreatMf
import GoSem.ClaimChange
import Derived.DataReads
import Derived.ProofKit
import Derived.HandedShaped
/- Drawn regions of operations that leave the objects alone: any order is as good as the text's. -/
namespace Go.Mach
open Go
set_option linter.unusedVariables false
set_option linter.unusedSimpArgs false

def MX.tmps : MX → List Nat
  | .t n => [n]
  | .c _ => []
def oT : Option MX → List Nat
  | some x => x.tmps
  | none => []
def MOp.reads : MOp → List Nat
  | .mov x | .not x | .neg x | .eqn _ x | .box _ x | .load _ _ x | .nilc x | .fadr _ x | .fld _ _ _ x | .ext x _ | .lens x | .lenl x | .cnvi _ x | .cnvs x => x.tmps
  | .pick a b c => a.tmps ++ b.tmps ++ c.tmps
  | .bin _ x y | .seq _ x y | .cat x y | .beq _ x y | .eqa _ _ x y | .store _ x y | .iadr _ x y | .idx x y | .mks _ _ _ _ x y | .app _ _ _ x y | .mm _ x y => x.tmps ++ y.tmps
  | .alloc .. => []
  | .build _ ps => ps.flatMap fun p => p.2.2.tmps
  | .bsl _ _ _ _ ps => ps.flatMap fun p => p.2.tmps
  | .sls x lo hi => x.tmps ++ oT lo ++ oT hi
  | .sl _ x lo hi mx => x.tmps ++ oT lo ++ oT hi ++ oT mx
  | .mkf _ cs => cs.flatMap MX.tmps
  | .call f as => f.tmps ++ as.flatMap MX.tmps
def MOper.reads (o : MOper) : List Nat := o.op.reads ++ (match o.grd with | some (t, _) => [t] | none => [])

theorem get_congr {st st' : St} {x : MX} (h : ∀ t, t ∈ x.tmps → st.τ t = st'.τ t) : st.get x = st'.get x := by
  cases x with
  | t n => exact h n (by simp [MX.tmps])
  | c v => rfl
theorem oget_congr {st st' : St} {x : Option MX} (h : ∀ t, t ∈ oT x → st.τ t = st'.τ t) : x.map st.get = x.map st'.get := by
  cases x with
  | none => rfl
  | some x => simp only [Option.map_some]; rw [get_congr h]
theorem gets_congr {st st' : St} {xs : List MX} (h : ∀ t, t ∈ xs.flatMap MX.tmps → st.τ t = st'.τ t) : xs.map st.get = xs.map st'.get := by
  apply List.map_congr_left
  intro x hx
  exact get_congr fun t ht => h t (List.mem_flatMap.2 ⟨x, hx, ht⟩)
theorem eval_congr {st st' : St} {m : MOp} (h : ∀ t, t ∈ m.reads → st.τ t = st'.τ t) (hσ : st.σ = st'.σ) : evalOp st m = evalOp st' m := by
  have g1 : ∀ {x : MX}, (∀ t, t ∈ x.tmps → t ∈ m.reads) → st.get x = st'.get x := fun hx => get_congr fun t ht => h t (hx t ht)
  have g2 : ∀ {x : Option MX}, (∀ t, t ∈ oT x → t ∈ m.reads) → x.map st.get = x.map st'.get := fun hx => oget_congr fun t ht => h t (hx t ht)
  cases m with
  | build z ps =>
    have : (ps.map fun p => (p.1, p.2.1, st.get p.2.2)) = ps.map fun p => (p.1, p.2.1, st'.get p.2.2) := by
      apply List.map_congr_left
      intro p hp
      rw [get_congr fun t ht => h t (by simp only [MOp.reads]; exact List.mem_flatMap.2 ⟨p, hp, ht⟩)]
    simp only [evalOp, this]
  | bsl ty sz n z ps =>
    have : (ps.map fun p => (p.1, st.get p.2)) = ps.map fun p => (p.1, st'.get p.2) := by
      apply List.map_congr_left
      intro p hp
      rw [get_congr fun t ht => h t (by simp only [MOp.reads]; exact List.mem_flatMap.2 ⟨p, hp, ht⟩)]
    simp only [evalOp, this, hσ]
  | mkf f cs => simp only [evalOp]; rw [gets_congr h]
  | call f as =>
    simp only [evalOp]
    rw [get_congr fun t ht => h t (by simp only [MOp.reads, List.mem_append]; exact .inl ht), gets_congr fun t ht => h t (by simp only [MOp.reads, List.mem_append]; exact .inr ht)]
  | alloc ty z => simp only [evalOp, hσ]
  | sls x lo hi =>
    simp only [evalOp]
    rw [g1 (x := x) fun t ht => by simp only [MOp.reads, List.mem_append]; exact .inl (.inl ht), g2 (x := lo) fun t ht => by simp only [MOp.reads, List.mem_append]; exact .inl (.inr ht), g2 (x := hi) fun t ht => by simp only [MOp.reads, List.mem_append]; exact .inr ht]
  | sl sz x lo hi mx =>
    simp only [evalOp, hσ]
    rw [g1 (x := x) fun t ht => by simp only [MOp.reads, List.mem_append]; exact .inl (.inl (.inl ht)), g2 (x := lo) fun t ht => by simp only [MOp.reads, List.mem_append]; exact .inl (.inl (.inr ht)), g2 (x := hi) fun t ht => by simp only [MOp.reads, List.mem_append]; exact .inl (.inr ht),
      g2 (x := mx) fun t ht => by simp only [MOp.reads, List.mem_append]; exact .inr ht]
  | pick a b c =>
    simp only [evalOp]
    rw [g1 (x := a) fun t ht => by simp only [MOp.reads, List.mem_append]; exact .inl (.inl ht), g1 (x := b) fun t ht => by simp only [MOp.reads, List.mem_append]; exact .inl (.inr ht), g1 (x := c) fun t ht => by simp only [MOp.reads, List.mem_append]; exact .inr ht]
  | mov x => simp only [evalOp]; rw [g1 (x := x) fun t ht => ht]
  | not x => simp only [evalOp]; rw [g1 (x := x) fun t ht => ht]
  | neg x => simp only [evalOp]; rw [g1 (x := x) fun t ht => ht]
  | eqn ne x => simp only [evalOp]; rw [g1 (x := x) fun t ht => ht]
  | box ty x => simp only [evalOp, hσ]; rw [g1 (x := x) fun t ht => ht]
  | load ag sz x => simp only [evalOp, hσ]; rw [g1 (x := x) fun t ht => ht]
  | nilc x => simp only [evalOp]; rw [g1 (x := x) fun t ht => ht]
  | fadr off x => simp only [evalOp]; rw [g1 (x := x) fun t ht => ht]
  | fld ag off sz x => simp only [evalOp]; rw [g1 (x := x) fun t ht => ht]
  | ext x n => simp only [evalOp]; rw [g1 (x := x) fun t ht => ht]
  | lens x => simp only [evalOp]; rw [g1 (x := x) fun t ht => ht]
  | lenl x => simp only [evalOp]; rw [g1 (x := x) fun t ht => ht]
  | cnvi k x => simp only [evalOp]; rw [g1 (x := x) fun t ht => ht]
  | cnvs x => simp only [evalOp]; rw [g1 (x := x) fun t ht => ht]
  | bin op x y => simp only [evalOp]; rw [g1 (x := x) fun t ht => by simp only [MOp.reads, List.mem_append]; exact .inl ht, g1 (x := y) fun t ht => by simp only [MOp.reads, List.mem_append]; exact .inr ht]
  | seq ne x y => simp only [evalOp]; rw [g1 (x := x) fun t ht => by simp only [MOp.reads, List.mem_append]; exact .inl ht, g1 (x := y) fun t ht => by simp only [MOp.reads, List.mem_append]; exact .inr ht]
  | cat x y => simp only [evalOp]; rw [g1 (x := x) fun t ht => by simp only [MOp.reads, List.mem_append]; exact .inl ht, g1 (x := y) fun t ht => by simp only [MOp.reads, List.mem_append]; exact .inr ht]
  | beq ne x y => simp only [evalOp]; rw [g1 (x := x) fun t ht => by simp only [MOp.reads, List.mem_append]; exact .inl ht, g1 (x := y) fun t ht => by simp only [MOp.reads, List.mem_append]; exact .inr ht]
  | eqa ne ks x y => simp only [evalOp]; rw [g1 (x := x) fun t ht => by simp only [MOp.reads, List.mem_append]; exact .inl ht, g1 (x := y) fun t ht => by simp only [MOp.reads, List.mem_append]; exact .inr ht]
  | store sz x y => simp only [evalOp, hσ]; rw [g1 (x := x) fun t ht => by simp only [MOp.reads, List.mem_append]; exact .inl ht, g1 (x := y) fun t ht => by simp only [MOp.reads, List.mem_append]; exact .inr ht]
  | iadr sz x y => simp only [evalOp, hσ]; rw [g1 (x := x) fun t ht => by simp only [MOp.reads, List.mem_append]; exact .inl ht, g1 (x := y) fun t ht => by simp only [MOp.reads, List.mem_append]; exact .inr ht]
  | idx x y => simp only [evalOp]; rw [g1 (x := x) fun t ht => by simp only [MOp.reads, List.mem_append]; exact .inl ht, g1 (x := y) fun t ht => by simp only [MOp.reads, List.mem_append]; exact .inr ht]
  | mks ty sz b z x y => simp only [evalOp, hσ]; rw [g1 (x := x) fun t ht => by simp only [MOp.reads, List.mem_append]; exact .inl ht, g1 (x := y) fun t ht => by simp only [MOp.reads, List.mem_append]; exact .inr ht]
  | app ty sz b x y => simp only [evalOp, hσ]; rw [g1 (x := x) fun t ht => by simp only [MOp.reads, List.mem_append]; exact .inl ht, g1 (x := y) fun t ht => by simp only [MOp.reads, List.mem_append]; exact .inr ht]
  | mm mx x y => simp only [evalOp]; rw [g1 (x := x) fun t ht => by simp only [MOp.reads, List.mem_append]; exact .inl ht, g1 (x := y) fun t ht => by simp only [MOp.reads, List.mem_append]; exact .inr ht]
theorem gd_congr {st st' : St} {g : Option (Nat × Bool)} (h : ∀ t, t ∈ (match g with | some (t, _) => [t] | none => []) → st.τ t = st'.τ t) : gd st g = gd st' g := by
  cases g with
  | none => rfl
  | some p => obtain ⟨t, b⟩ := p; simp only [gd]; rw [h t (by simp)]

/-- A call that leaves all objects alone and tells `v`. -/
def CallV (P : Program) (fv : PV) (A : List PV) (σ : Heap) (v : PV) : Prop := ∀ (st : St) (κ : PV → Heap → Prop), st.σ = σ → κ v σ → CallP P fv A st κ
/-- One operation that leaves all objects alone. -/
def CalmE (P : Program) (σ : Heap) (e : Ev) (v : PV) : Prop := match e with
  | .ok u => v = u
  | .ob p u => p ∧ v = u
  | .call fv A => CallV P fv A σ v
  | .hp p u σ' => p ∧ immV σ u σ' v
  | .bad => False
def CalmG (P : Program) (st : St) (g : Option Bool) (op : MOp) (v : PV) : Prop := match g with
  | none => False
  | some false => v = .tup []
  | some true => CalmE P st.σ (evalOp st op) v
def CalmOp (P : Program) (st : St) (o : MOper) (v : PV) : Prop := CalmG P st (gd st o.grd) o.op v
def wcalm (P : Program) (k : St → Prop) : List MOper → St → Prop
  | [], st => k st
  | o :: os, st => ∃ v, CalmOp P st o v ∧ wcalm P k os (st.putO o.dst v)

/-- Neither looks at what the other writes. -/
def indep (a b : MOper) : Bool := (match a.dst with | some d => !(b.reads.contains d) && b.dst != some d | none => true) && (match b.dst with | some d => !(a.reads.contains d) | none => true)
/-- Must `j` be done ahead of `i`? -/
def ahead (ops : List (MOper × List Nat)) : Nat → Nat → Nat → Bool
  | 0, _, _ => false
  | n + 1, i, j => match ops[i]? with
    | some (_, aft) => aft.any fun a => a == j || ahead ops n a j
    | none => false
def dOk (ops : List (MOper × List Nat)) : Bool :=
  (List.range ops.length).all fun i => match ops[i]? with
    | none => false
    | some (oi, aft) => aft.all (· < i) && (List.range i).all fun j => match ops[j]? with
      | none => false
      | some (oj, _) => indep oj oi || ahead ops ops.length i j

section
variable {P : Program} {k : St → Prop}
theorem calm_congr {st st' : St} {o : MOper} {v : PV} (h : ∀ t, t ∈ o.reads → st.τ t = st'.τ t) (hσ : st.σ = st'.σ) (hc : CalmOp P st o v) : CalmOp P st' o v := by
  have h1 : gd st o.grd = gd st' o.grd := gd_congr fun t ht => h t (by simp only [MOper.reads, List.mem_append]; exact .inr ht)
  have h2 : evalOp st o.op = evalOp st' o.op := eval_congr (fun t ht => h t (by simp only [MOper.reads, List.mem_append]; exact .inl ht)) hσ
  unfold CalmOp CalmG at *
  rw [← h1, ← h2, ← hσ]
  exact hc
theorem calm_wop {st : St} {o : MOper} {v : PV} (hc : CalmOp P st o v) (hk : k (st.putO o.dst v)) : wop2 P o k st := by
  unfold CalmOp CalmG at hc
  cases hg : gd st o.grd with
  | none => rw [hg] at hc; exact hc.elim
  | some b =>
    rw [hg] at hc
    cases b with
    | false =>
      refine .inl ?_
      unfold wop1
      rw [hg]
      simp only at hc ⊢; rw [← hc]; exact hk
    | true =>
      simp only at hc
      cases he : evalOp st o.op with
      | hp p u σ => rw [he] at hc; exact .inr ⟨hg, p, u, σ, v, he, hc.1, hc.2, hk⟩
      | _ =>
      refine .inl ?_
      unfold wop1
      rw [hg]
      simp only
      rw [he]
      simp only
      revert hc
      rw [he]
      intro hc
      first
        | (simp only [CalmE] at hc; rw [← hc]; exact hk)
        | (simp only [CalmE] at hc; exact ⟨hc.1, by rw [← hc.2]; exact hk⟩)
        | exact hc st _ rfl hk
        | exact hc.elim
theorem putO_σ {st : St} {d : Option Nat} {v : PV} : (st.putO d v).σ = st.σ := by cases d <;> rfl
theorem putO_ne {st : St} {d : Option Nat} {v : PV} {t : Nat} (h : d ≠ some t) : (st.putO d v).τ t = st.τ t := by
  cases d with
  | none => rfl
  | some d => exact put_ne fun e => h (by rw [e])
theorem putO_comm {st : St} {d d' : Option Nat} {v v' : PV} (h : ∀ t, d = some t → d' ≠ some t) : (st.putO d v).putO d' v' = (st.putO d' v').putO d v := by
  cases d with
  | none => rfl
  | some a => cases d' with
    | none => rfl
    | some b =>
      have hab : a ≠ b := fun e => h a rfl (by rw [e])
      show St.mk _ _ _ = St.mk _ _ _
      congr 1
      funext t
      show (if t = b then v' else if t = a then v else st.τ t) = if t = a then v else if t = b then v' else st.τ t
      by_cases h1 : t = a
      · subst h1; rw [if_neg hab, if_pos rfl, if_pos rfl]
      · by_cases h2 : t = b
        · subst h2; rw [if_pos rfl, if_neg h1, if_pos rfl]
        · simp only [h1, h2, if_false]
theorem indep_spec {a b : MOper} (h : indep a b = true) : (∀ d, a.dst = some d → d ∉ b.reads ∧ b.dst ≠ some d) ∧ ∀ d, b.dst = some d → d ∉ a.reads := by
  unfold indep at h
  refine ⟨fun d hd => ?_, fun d hd => ?_⟩
  · rw [hd] at h; simp at h; exact h.1
  · rw [hd] at h; simp at h; exact h.2
/-- An operation that hangs on none of those ahead of it may come first. -/
theorem calm_pull {o : MOper} {L2 : List MOper} : ∀ (L1 : List MOper) (st : St), (∀ a, a ∈ L1 → indep a o = true) → wcalm P k (L1 ++ o :: L2) st → ∃ v, CalmOp P st o v ∧ wcalm P k (L1 ++ L2) (st.putO o.dst v)
  | [], st, _, h => h
  | a :: L1, st, hi, h => by
    obtain ⟨va, ha, h⟩ := h
    obtain ⟨v, ho, h⟩ := calm_pull L1 _ (fun a' ha' => hi a' (by simp [ha'])) h
    obtain ⟨i1, i2⟩ := indep_spec (hi a (by simp))
    refine ⟨v, calm_congr (fun t ht => putO_ne fun e => (i1 t e).1 ht) putO_σ ho, va, calm_congr (fun t ht => (putO_ne fun e => i2 t e ht).symm) putO_σ.symm ha, ?_⟩
    rw [putO_comm fun t e e' => (i1 t e').2 e]
    exact h

def remn (ops : List (MOper × List Nat)) (done : List Bool) : List Nat := (List.range ops.length).filter fun i => !done.getD i true
def opsAt (ops : List (MOper × List Nat)) (l : List Nat) : List MOper := l.filterMap fun i => (ops[i]?).map (·.1)

theorem ahead_done {ops : List (MOper × List Nat)} {done : List Bool} (hcl : ∀ i o, ops[i]? = some o → done.getD i true = true → ∀ a, a ∈ o.2 → done.getD a false = true) (hlen : done.length = ops.length) :
    ∀ (n i j : Nat) (o : MOper × List Nat), ops[i]? = some o → (∀ a, a ∈ o.2 → done.getD a false = true) → ahead ops n i j = true → done.getD j false = true
  | 0, i, j, o, _, _, h => by simp [ahead] at h
  | n + 1, i, j, o, ho, hd, h => by
    obtain ⟨mo, aft⟩ := o
    simp only [ahead, ho, List.any_eq_true, Bool.or_eq_true, beq_iff_eq] at h
    obtain ⟨a, ha, h⟩ := h
    have hda := hd a ha
    rcases h with rfl | h
    · exact hda
    · cases hoa : ops[a]? with
      | none =>
        cases n with
        | zero => simp [ahead] at h
        | succ n => simp [ahead, hoa] at h
      | some oa => exact ahead_done hcl hlen n a j oa hoa (hcl a oa hoa (by
          rw [List.getD_eq_getElem?_getD] at hda ⊢
          cases hx : done[a]? with
          | none => rfl
          | some b => rw [hx] at hda; simpa using hda)) h

def indL (a b : Bool × MOper) : Bool := indep a.2 b.2 && !(a.1 && b.1)
def labAt (ops : List (MOper × List Nat)) (lab : Nat → Bool) (l : List Nat) : List (Bool × MOper) := l.filterMap fun i => (ops[i]?).map fun o => (lab i, o.1)
def dOkL (ops : List (MOper × List Nat)) (lab : Nat → Bool) : Bool :=
  (List.range ops.length).all fun i => match ops[i]? with
    | none => false
    | some (oi, aft) => aft.all (· < i) && (List.range i).all fun j => match ops[j]? with
      | none => false
      | some (oj, _) => indL (lab j, oj) (lab i, oi) || ahead ops ops.length i j
theorem any_pull {ops : List (MOper × List Nat)} {lab : Nat → Bool} {W : List (Bool × MOper) → St → Prop} (hnil : ∀ st, W [] st → k st)
    (hpull : ∀ (L1 : List (Bool × MOper)) (o : Bool × MOper) (L2 : List (Bool × MOper)) (st : St), (∀ a, a ∈ L1 → indL a o = true) → W (L1 ++ o :: L2) st → wop2 P o.2 (W (L1 ++ L2)) st) (hok : dOkL ops lab = true) : ∀ (n : Nat) (done : List Bool) (st : St), done.length = ops.length → (remn ops done).length = n →
    (∀ i o, ops[i]? = some o → done.getD i true = true → ∀ a, a ∈ o.2 → done.getD a false = true) → W (labAt ops lab (remn ops done)) st → wany P ops k n done st := by
  have hok' : ∀ (i : Nat) (oi : MOper) (aft : List Nat), ops[i]? = some (oi, aft) → (∀ a, a ∈ aft → a < i) ∧ ∀ (j : Nat) (oj : MOper) (aftj : List Nat), j < i → ops[j]? = some (oj, aftj) → indL (lab j, oj) (lab i, oi) = true ∨ ahead ops ops.length i j = true := by
    intro i oi aft hi
    have hlt : i < ops.length := (List.getElem?_eq_some_iff.1 hi).1
    have := List.all_eq_true.1 hok i (by simpa using hlt)
    simp only [hi, Bool.and_eq_true] at this
    refine ⟨fun a ha => by simpa using List.all_eq_true.1 this.1 a ha, fun j oj aftj hj hoj => ?_⟩
    have h2 := List.all_eq_true.1 this.2 j (by simpa using hj)
    simp only [hoj, Bool.or_eq_true] at h2
    exact h2
  intro n
  induction n with
  | zero =>
    intro done st hlen hn hcl h
    have hnil' : remn ops done = [] := List.eq_nil_of_length_eq_zero hn
    rw [hnil'] at h
    refine ⟨?_, hnil _ h⟩
    cases hr : rdy ops done with
    | nil => rfl
    | cons i l =>
      have : i ∈ rdy ops done := by rw [hr]; simp
      unfold rdy at this
      obtain ⟨h1, h2⟩ := List.mem_filter.1 this
      simp only [Bool.and_eq_true] at h2
      have : i ∈ remn ops done := List.mem_filter.2 ⟨h1, h2.1⟩
      rw [hnil'] at this; cases this
  | succ n ih =>
    intro done st hlen hn hcl h
    refine ⟨fun hr => ?_, fun i o hi ho => ?_⟩
    · -- the first that is left is ready
      exfalso
      cases hrem : remn ops done with
      | nil => rw [hrem] at hn; simp at hn
      | cons i l =>
        have hi : i ∈ remn ops done := by rw [hrem]; simp
        obtain ⟨h1, h2⟩ := List.mem_filter.1 hi
        have hlt : i < ops.length := by simpa using h1
        have ho : ops[i]? = some ops[i] := List.getElem?_eq_getElem hlt
        have hmin : ∀ a, a < i → done.getD a false = true := by
          intro a ha
          have hsorted : (remn ops done).Pairwise (· < ·) := List.Pairwise.filter _ List.pairwise_lt_range
          rw [hrem] at hsorted
          have hnot : a ∉ remn ops done := by
            rw [hrem]
            intro hm
            rcases List.mem_cons.1 hm with rfl | hm
            · omega
            · have := (List.pairwise_cons.1 hsorted).1 a hm; omega
          have hda : ¬ (!done.getD a true) = true := fun hh => hnot (List.mem_filter.2 ⟨by simp; omega, hh⟩)
          have hla : a < done.length := by omega
          simp only [List.getD_eq_getElem?_getD, List.getElem?_eq_getElem hla, Option.getD_some] at hda ⊢
          simpa using hda
        have hin : i ∈ rdy ops done := by
          refine List.mem_filter.2 ⟨h1, ?_⟩
          simp only [Bool.and_eq_true]
          refine ⟨h2, ?_⟩
          rw [ho]
          exact List.all_eq_true.2 fun a ha => hmin a ((hok' i _ _ ho).1 a ha)
        rw [hr] at hin; cases hin
    · unfold rdy at hi
      obtain ⟨h1, h2⟩ := List.mem_filter.1 hi
      simp only [Bool.and_eq_true, ho] at h2
      obtain ⟨h2, h3⟩ := h2
      have haft : ∀ a, a ∈ o.2 → done.getD a false = true := fun a ha => List.all_eq_true.1 h3 a ha
      have hmem : i ∈ remn ops done := List.mem_filter.2 ⟨h1, h2⟩
      obtain ⟨L1, L2, hL⟩ := List.append_of_mem hmem
      have hsorted : (remn ops done).Pairwise (· < ·) := List.Pairwise.filter _ List.pairwise_lt_range
      rw [hL] at hsorted
      have hL1 : ∀ j, j ∈ L1 → j < i := fun j hj => (List.pairwise_append.1 hsorted).2.2 j hj i (by simp)
      have hL2 : ∀ j, j ∈ L2 → i < j := fun j hj => (List.pairwise_cons.1 (List.pairwise_append.1 hsorted).2.1).1 j hj
      have hops : labAt ops lab (remn ops done) = labAt ops lab L1 ++ (lab i, o.1) :: labAt ops lab L2 := by
        rw [hL]; simp [labAt, List.filterMap_append, List.filterMap_cons, ho]
      rw [hops] at h
      refine wop2_mono ?_ (hpull _ (lab i, o.1) _ st (fun a ha => by
        obtain ⟨j, hj, hja⟩ := List.mem_filterMap.1 ha
        simp only [Option.map_eq_some_iff] at hja
        obtain ⟨⟨oj, aftj⟩, hoj, rfl⟩ := hja
        rcases (hok' i o.1 o.2 ho).2 j oj aftj (hL1 j hj) hoj with hh | hh
        · exact hh
        · exfalso
          have hdj := ahead_done hcl hlen _ i j o ho haft hh
          have hjm : j ∈ remn ops done := by rw [hL]; simp [hj]
          have := (List.mem_filter.1 hjm).2
          rw [List.getD_eq_getElem?_getD] at this hdj
          cases hx : done[j]? with
          | none => rw [hx] at hdj; simp at hdj
          | some b => rw [hx] at hdj this; simp at hdj this; rw [hdj] at this; cases this) h)
      intro st1 hrest
      have hlt : i < done.length := by rw [hlen]; simpa using h1
      have hrem : remn ops (done.set i true) = L1 ++ L2 := by
        have : remn ops (done.set i true) = (remn ops done).filter fun x => x != i := by
          unfold remn
          rw [List.filter_filter]
          apply List.filter_congr
          intro x hx
          by_cases hxi : x = i
          · subst hxi
            simp [List.getD_eq_getElem?_getD, List.getElem?_set, hlt]
          · simp [List.getD_eq_getElem?_getD, List.getElem?_set, Ne.symm hxi, hxi]
        rw [this, hL, List.filter_append, List.filter_cons]
        simp only [bne_self_eq_false, Bool.false_eq_true, if_false]
        congr 1
        · exact List.filter_eq_self.2 fun x hx => by have := hL1 x hx; simp; omega
        · exact List.filter_eq_self.2 fun x hx => by have := hL2 x hx; simp; omega
      refine ih (done.set i true) st1 (by simpa using hlen) ?_ (fun i' o' ho' hd' a ha => ?_) ?_
      · rw [hrem]; rw [hL] at hn; simp at hn ⊢; omega
      · have hset : ∀ x, done.getD x false = true → (done.set i true).getD x false = true := by
          intro x hx
          rw [List.getD_eq_getElem?_getD] at hx ⊢
          rw [List.getElem?_set]
          by_cases h5 : i = x
          · subst h5; simp [hlt]
          · rw [if_neg h5]; exact hx
        by_cases hii : i' = i
        · subst hii
          rw [ho] at ho'; cases ho'
          exact hset a (haft a ha)
        · refine hset a (hcl i' o' ho' ?_ a ha)
          rw [List.getD_eq_getElem?_getD, List.getElem?_set, if_neg (Ne.symm hii)] at hd'
          rw [List.getD_eq_getElem?_getD]; exact hd'
      · rw [hrem]
        have : labAt ops lab (L1 ++ L2) = labAt ops lab L1 ++ labAt ops lab L2 := by simp [labAt, List.filterMap_append]
        rw [this]; exact hrest
end

/-- All that a region is, in the order of its text. -/
theorem run_any {P : Program} {k : K} {st : St} {ops : List (MOper × List Nat)} {lab : Nat → Bool} {W : List (Bool × MOper) → St → Prop} (hnil : ∀ st, W [] st → Kdo P k .normal st)
    (hpull : ∀ (L1 : List (Bool × MOper)) (o : Bool × MOper) (L2 : List (Bool × MOper)) (st : St), (∀ a, a ∈ L1 → indL a o = true) → W (L1 ++ o :: L2) st → wop2 P o.2 (W (L1 ++ L2)) st) (hok : dOkL ops lab = true)
    (h : W (ops.zipIdx.map fun p => (lab p.2, p.1.1)) st) : Run P (.dreg ops) k st := by
  have hall : remn ops (List.replicate ops.length false) = List.range ops.length := by
    unfold remn
    rw [List.filter_eq_self]
    intro i hi
    have : i < ops.length := by simpa using hi
    simp [List.getD_eq_getElem?_getD, List.getElem?_replicate, this]
  have hat : labAt ops lab (List.range ops.length) = ops.zipIdx.map fun p => (lab p.2, p.1.1) := by
    have key : ∀ (l1 l2 : List (MOper × List Nat)), ops = l1 ++ l2 → (List.range' l1.length l2.length).filterMap (fun i => (ops[i]?).map fun o => (lab i, o.1)) = (l2.zipIdx l1.length).map fun p => (lab p.2, p.1.1) := by
      intro l1 l2
      induction l2 generalizing l1 with
      | nil => intro _; simp
      | cons o l2 ih =>
        intro he
        have hget : ops[l1.length]? = some o := by rw [he, List.getElem?_append_right (Nat.le_refl _)]; simp
        have := ih (l1 ++ [o]) (by rw [he]; simp)
        simp only [List.length_append, List.length_singleton] at this
        rw [List.length_cons, List.range'_succ, List.filterMap_cons, hget]
        simp only [Option.map_some, List.zipIdx_cons, List.map_cons, this]
    have := key [] ops rfl
    unfold labAt
    rw [List.range_eq_range']
    exact this
  refine any_pull hnil hpull hok ops.length _ st (by simp) (by rw [hall]; simp) (fun i o ho hd => ?_) (by rw [hall, hat]; exact h)
  have hlt : i < ops.length := (List.getElem?_eq_some_iff.1 ho).1
  simp [List.getD_eq_getElem?_getD, List.getElem?_replicate, hlt] at hd
/-- A drawn region whose operations leave the objects alone. -/
theorem run_dreg {P : Program} {k : K} {st : St} {ops : List (MOper × List Nat)} (hok : dOk ops = true) (h : wcalm P (Kdo P k .normal) (ops.map (·.1)) st) : Run P (.dreg ops) k st := by
  refine run_any (lab := fun _ => false) (W := fun L st => wcalm P (Kdo P k .normal) (L.map (·.2)) st) (fun st h => h) (fun L1 o L2 st hi h => ?_) ?_ ?_
  · rw [List.map_append, List.map_cons] at h
    obtain ⟨v, h1, h2⟩ := calm_pull (L1.map (·.2)) st (fun a ha => by
      obtain ⟨b, hb, rfl⟩ := List.mem_map.1 ha
      have := hi b hb
      simp only [indL, Bool.and_eq_true] at this
      exact this.1) h
    refine calm_wop h1 ?_
    rw [List.map_append]
    exact h2
  · simpa [dOkL, dOk, indL] using hok
  · have : (ops.zipIdx.map fun p => (false, p.1.1)).map (·.2) = ops.map (·.1) := by
      rw [List.map_map]
      have : ((fun x : Bool × MOper => x.2) ∘ fun p : (MOper × List Nat) × Nat => (false, p.1.1)) = (fun o : MOper × List Nat => o.1) ∘ Prod.fst := rfl
      rw [this, ← List.map_map, List.zipIdx_map_fst]
    show wcalm P _ (List.map _ _) st
    rw [this]
    exact h
end Go.Mach

/- More tools for walks. -/
namespace Go.Mach
open Go
set_option linter.unusedVariables false
set_option linter.unusedSimpArgs false

section
variable {P : Program} {k : K} {st : St}
/-! #### Drawn regions, walked -/
def Calm (P : Program) (os : List MOper) (k : K) (st : St) : Prop := wcalm P (Kdo P k .normal) os st
def CStp (P : Program) (e : Ev) (d : Option Nat) (os : List MOper) (k : K) (st : St) : Prop := ∃ v, CalmE P st.σ e v ∧ Calm P os k (st.putO d v)
def CGrd (P : Program) (g : Option Bool) (d : Option Nat) (op : MOp) (os : List MOper) (k : K) (st : St) : Prop := ∃ v, CalmG P st g op v ∧ Calm P os k (st.putO d v)
theorem calm_nil : Calm P [] k st = KX P k .normal st := rfl
theorem calm_plain {d : Option Nat} {op : MOp} {os : List MOper} : Calm P (⟨d, op, none⟩ :: os) k st = CStp P (evalOp st op) d os k st := rfl
theorem calm_cons {d : Option Nat} {op : MOp} {g : Option (Nat × Bool)} {os : List MOper} : Calm P (⟨d, op, g⟩ :: os) k st = CGrd P (gd st g) d op os k st := rfl
theorem cgrd_true {d : Option Nat} {op : MOp} {os : List MOper} : CGrd P (some true) d op os k st = CStp P (evalOp st op) d os k st := rfl
theorem cgrd_false {d : Option Nat} {op : MOp} {os : List MOper} : CGrd P (some false) d op os k st = Calm P os k (st.putO d (.tup [])) := by
  apply propext
  exact ⟨fun ⟨v, hv, h⟩ => by cases hv; exact h, fun h => ⟨_, rfl, h⟩⟩
theorem cstp_ok {v : PV} {d : Option Nat} {os : List MOper} : CStp P (.ok v) d os k st = Calm P os k (st.putO d v) := by
  apply propext
  exact ⟨fun ⟨u, hv, h⟩ => by cases hv; exact h, fun h => ⟨_, rfl, h⟩⟩
theorem cstp_ob {p : Prop} {v : PV} {d : Option Nat} {os : List MOper} : CStp P (.ob p v) d os k st = (p ∧ Calm P os k (st.putO d v)) := by
  apply propext
  exact ⟨fun ⟨u, ⟨hp, hv⟩, h⟩ => by cases hv; exact ⟨hp, h⟩, fun ⟨hp, h⟩ => ⟨_, ⟨hp, rfl⟩, h⟩⟩
theorem cstp_if {c : Prop} [Decidable c] {a b : Ev} {d : Option Nat} {os : List MOper} : CStp P (if c then a else b) d os k st = if c then CStp P a d os k st else CStp P b d os k st := by split <;> rfl
theorem cgrd_split {c : Bool} {d : Option Nat} {op : MOp} {os : List MOper} (h1 : c = true → CGrd P (some true) d op os k st) (h2 : c = false → CGrd P (some false) d op os k st) : CGrd P (some c) d op os k st := by
  cases c
  · exact h2 rfl
  · exact h1 rfl
theorem cstp_ct {f : FuncId} {cs A : List PV} {y : PV} {d : Option Nat} {os : List MOper} (h : Ct P f (A ++ cs) y) (hA : pureL (A ++ cs) = true) (hy : noOwnV y = true) (hk : Calm P os k (st.putO d y)) : CStp P (.call (.fn f cs) A) d os k st := by
  refine ⟨y, fun st' κ hσ hκ => ?_, hk⟩
  refine call_ct false h hA ?_
  rw [took_plain hy, hσ]
  exact hκ
theorem run_dreg' {ops : List (MOper × List Nat)} (hok : dOk ops = true) (h : Calm P (ops.map (·.1)) k st) : Run P (.dreg ops) k st := run_dreg hok h

/-! #### Calls that read the caller's objects -/
theorem frz_none {σ : Heap} (h : ∀ (o : Nat) (ob : AObj), σ[o]? = some (some ob) → ob.frz = false) (x : PV) : frzV σ x = x := by
  cases x with
  | ref o ep lo len cap =>
    simp only [frzV]
    split
    · rename_i ob hob
      rw [if_neg (by rw [h o ob hob]; simp)]
    · rfl
  | _ => rfl
theorem call_snap (own : Bool) {f : FuncId} {cs A A' : List PV} {y : PV} {κ : PV → Heap → Prop} (n : Nat) (hA : snapL st.σ n ((A ++ cs).map (frzV st.σ)) = some A') (h : Ct P f A' y) (hc : closedV y = true) (hk : κ (took own st.σ y).1 (took own st.σ y).2) : CallP P (.fn f cs) A st κ := by
  refine ⟨[], st.σ, _, rfl, .snap own (fun y' => y' = y) n A' hA h (fun y' hy => by rw [hy]; exact hc), ?_⟩
  rintro r σ' ⟨y', rfl, he⟩
  obtain ⟨rfl, rfl⟩ := Prod.mk.inj he
  exact hk
/-- A call that works on the caller's objects. -/
theorem call_cs (own : Bool) {f : FuncId} {cs A : List PV} {Q : PV → Heap → Prop} {κ : PV → Heap → Prop} (h : Cs P f ((A ++ cs).map (frzV st.σ)) st.σ Q) (hk : ∀ y σ', Q y σ' → κ (took own σ' y).1 (took own σ' y).2) : CallP P (.fn f cs) A st κ := by
  refine ⟨[], st.σ, _, rfl, .shared own Q h, ?_⟩
  rintro r σ' ⟨y', σ1, hq, he⟩
  obtain ⟨rfl, rfl⟩ := Prod.mk.inj he
  exact hk y' σ1 hq

/-- The end of a function that hands back what it made, to be read only. -/
theorem end_snap {n : Nat} {Q : PV → Prop} {e : MExit} (d : Nat) (r : PV) (he : ∀ i, e ≠ .exit i) (hs : snapV st.σ 0 d (st.τ n) = some r) (hq : Q r) : endP [.t n] Q e st := by
  have h : ∃ vs d r, resL st [.t n] = some vs ∧ snapV st.σ 0 d (ret1 vs) = some r ∧ Q r := ⟨[st.τ n], d, r, rfl, hs, hq⟩
  cases e with
  | exit i => exact absurd rfl (he i)
  | normal => exact h
  | ret => exact h

/-! #### Counted loops -/
/-- Ahead of round `i` of `len` the state is `L i a`, of which `J` holds. -/
def ILoop {α : Type} (len : Nat) (L : Nat → α → St) (J : Nat → α → Prop) (n : Nat) (st : St) : Prop := ∃ i a, i + n = len ∧ st = L i a ∧ J i a
theorem run_iter {α : Type} {c : MC} (len : Nat) (L : Nat → α → St) (J : Nat → α → Prop) (a : α) (hg : Gh st (L 0 a)) (h0 : J 0 a)
    (round : ∀ i a, i ≤ len → J i a → Run P c (.loop (ILoop len L J) (len - i) k) (L i a)) : Run P (.loop c) k st :=
  run_loop (ILoop len L J) len (L 0 a) hg ⟨0, a, by simp, rfl, h0⟩ fun n st ⟨i, a, hi, hs, hj⟩ => by
    subst hs
    have : n = len - i := by omega
    subst this
    exact round i a (by omega) hj
theorem kx_next {α : Type} {len : Nat} {L : Nat → α → St} {J : Nat → α → Prop} {i : Nat} (a : α) (hi : i < len) (hg : Gh st (L (i + 1) a)) (h : J (i + 1) a) : KX P (.loop (ILoop len L J) (len - i) k) .normal st :=
  kx_again (len - (i + 1)) (L (i + 1) a) hg (by omega) ⟨i + 1, a, by omega, rfl, h⟩
end

theorem wrap_small {n : Int} (h0 : -9223372036854775808 ≤ n) (h1 : n < 9223372036854775808) : IntKind.i64.wrap n = n := by
  simp only [IntKind.wrap, IntKind.bits, IntKind.signed]
  simp
  omega
theorem wrap_succ {i len : Nat} (h : i < len) (hl : len ≤ maxLen) : IntKind.i64.wrap ((i : Int) + 1) = ((i + 1 : Nat) : Int) := by
  simp only [maxLen] at hl
  rw [wrap_small (by omega) (by omega)]
  simp

/-! #### Lists -/
theorem pureL_iff {xs : List PV} : pureL xs = true ↔ ∀ x, x ∈ xs → pureV x = true := by
  induction xs with
  | nil => simp [pureL]
  | cons x xs ih => simp [pureL, ih]
theorem bd_pures {m : Nat} {es : List (List PV)} (h : ∀ e, e ∈ es → pureL e = true) : (es.all fun e => e.all (bdV m)) = true :=
  List.all_eq_true.2 fun e he => List.all_eq_true.2 fun x hx => bd_pure x (pureL_iff.1 (h e he) x hx)
theorem take_all_succ {α : Type} {p : α → Bool} {l : List α} {i : Nat} (h : i < l.length) : (l.take (i + 1)).all p = ((l.take i).all p && p l[i]) := by
  rw [List.take_add_one, List.all_append, List.getElem?_eq_getElem h]
  simp
end Go.Mach

/- What an argument reads as, as a value to be read only. -/
namespace Go.Mach
open Go
set_option linter.unusedVariables false
set_option linter.unusedSimpArgs false

section
variable {H : Type} {enc : TypeId × Value → H} {P : Program} {w : World}

def toFs (P : Program) (f : TypeId → DataW H → Option (List PV)) : Nat → List Field → List (DataW H) → Option (List PV)
  | _, [], [] => some []
  | off, fd :: fs, d :: ds => if fd.offset = off then match f fd.type d, toFs P f (off + P.cellsOf fd.type) fs ds with
    | some a, some b => if a.length = P.cellsOf fd.type then some (a ++ b) else none
    | _, _ => none
    else none
  | _, _, _ => none
/-- The cells of what is read. -/
def toCs (P : Program) : Nat → TypeId → DataW H → Option (List PV)
  | 0, _, _ => none
  | n + 1, t, d => match P.underlying t, d with
    | some .bool, .lit (.bool b) => some [.bool b]
    | some (.int _), .lit (.int k n) => some [.int k n]
    | some .string, .lit (.string s) => some [.str s]
    | some (.slice _), .nil => some [.imm [] [] true]
    | some (.slice e), .slice es sp => match mapO (toCs P n e) es, mapO (toCs P n e) sp with
      | some a, some b => if (a ++ b).all (·.length == P.cellsOf e) then some [.imm a b true] else none
      | _, _ => none
    | some (.struct fs), .agg ds => match toFs P (toCs P n) 0 fs.toList ds with
      | some xs => if xs.length = P.cellsOf t then some xs else none
      | none => none
    | _, _ => none

theorem IRs.nil {B : Nat → Prop} : IRs w B [] [] := ⟨rfl, by simp⟩
theorem IRs.one {B : Nat → Prop} {x : PV} {v : Value} (h : IR w B x v) : IRs w B [x] [v] := ⟨rfl, fun j y u hy hu => by
  cases j with
  | zero => simp at hy hu; subst hy; subst hu; exact h
  | succ j => simp at hy⟩
theorem IRs.append {B : Nat → Prop} {xs ys : List PV} {us vs : List Value} (h1 : IRs w B xs us) (h2 : IRs w B ys vs) : IRs w B (xs ++ ys) (us ++ vs) := by
  refine ⟨by simp [h1.1, h2.1], fun j x v hx hv => ?_⟩
  by_cases hj : j < xs.length
  · rw [List.getElem?_append_left hj] at hx
    rw [List.getElem?_append_left (by rw [← h1.1]; exact hj)] at hv
    exact h1.2 j x v hx hv
  · rw [List.getElem?_append_right (by omega)] at hx
    rw [List.getElem?_append_right (by rw [← h1.1]; omega), ← h1.1] at hv
    exact h2.2 _ x v hx hv

theorem mapM_get {α β : Type} {f : α → Option β} {l : List α} {m : List β} (h : l.mapM f = some m) : l.length = m.length ∧ ∀ (i : Nat) (x : α), l[i]? = some x → ∃ y, m[i]? = some y ∧ f x = some y := trO_mapM h

theorem trod_bool {sp : Nat → Bool} {hd : Bool} {fuel : Nat} {t : TypeId} {cs : List Value} {b : Bool} {pl : List MemPlace} (hu : P.underlying t = some .bool) (h : DataW.trod enc P w 0 sp hd fuel t cs = some (.lit (.bool b), pl)) : cs = [.bool b] := by
  cases fuel with
  | zero => simp [DataW.trod] at h
  | succ n => unfold DataW.trod at h; rw [hu] at h; split at h <;> simp_all
theorem trod_int {sp : Nat → Bool} {hd : Bool} {fuel : Nat} {t : TypeId} {cs : List Value} {k k' : IntKind} {n : Int} {pl : List MemPlace} (hu : P.underlying t = some (.int k')) (h : DataW.trod enc P w 0 sp hd fuel t cs = some (.lit (.int k n), pl)) : cs = [.int k n] := by
  cases fuel with
  | zero => simp [DataW.trod] at h
  | succ n => unfold DataW.trod at h; rw [hu] at h; split at h <;> simp_all
theorem trod_str {sp : Nat → Bool} {hd : Bool} {fuel : Nat} {t : TypeId} {cs : List Value} {bs : List UInt8} {pl : List MemPlace} (hu : P.underlying t = some .string) (h : DataW.trod enc P w 0 sp hd fuel t cs = some (.lit (.string bs), pl)) : ∃ s, cs = [.string s] ∧ bs = s.data.toList ∧ s.size ≤ maxLen := by
  cases fuel with
  | zero => simp [DataW.trod] at h
  | succ n => unfold DataW.trod at h; rw [hu] at h; split at h <;> simp_all
theorem trod_snil {sp : Nat → Bool} {hd : Bool} {fuel : Nat} {t e : TypeId} {cs : List Value} {pl : List MemPlace} (hu : P.underlying t = some (.slice e)) (h : DataW.trod enc P w 0 sp hd fuel t cs = some (.nil, pl)) : cs = [.slice none 0 0] := by
  cases fuel with
  | zero => simp [DataW.trod] at h
  | succ n =>
    unfold DataW.trod at h
    rw [hu] at h
    split at h <;> first | (simp_all; done) | skip
    rename_i e' a len cap he
    simp only at h
    split at h
    · simp [Option.bind_eq_some_iff, Option.map_eq_some_iff] at h
    · cases h
theorem trod_slice {hd : Bool} {fuel : Nat} {t e : TypeId} {cs : List Value} {es ss : List (DataW H)} {pl : List MemPlace} (hu : P.underlying t = some (.slice e)) (h : DataW.trod enc P w 0 (fun _ => true) hd (fuel + 1) t cs = some (.slice es ss, pl)) :
    ∃ a len cap elems rest, cs = [.slice (some a) len cap] ∧ len ≤ cap ∧ cap ≤ maxLen ∧ es = elems.map (·.1) ∧ ss = rest.map (·.1) ∧
      (List.range len).mapM (fun i => (w.cells? 0 (a.add (i * P.cellsOf e)) (P.cellsOf e)).bind (DataW.trod enc P w 0 (fun _ => true) hd fuel e)) = some elems ∧
      (List.range (cap - len)).mapM (fun j => (w.cells? 0 (a.add ((len + j) * P.cellsOf e)) (P.cellsOf e)).bind (DataW.trod enc P w 0 (fun _ => true) hd fuel e)) = some rest := by
  unfold DataW.trod at h
  rw [hu] at h
  split at h <;> first | (simp_all; done) | skip
  rename_i e' a len cap he
  cases he
  simp only at h
  split at h
  · rename_i hc
    simp only [if_true, Option.bind_eq_some_iff, Option.map_eq_some_iff, Prod.mk.injEq, DataW.slice.injEq] at h
    obtain ⟨elems, he, rest, hr, ⟨h1, h2⟩, h3⟩ := h
    exact ⟨a, len, cap, elems, rest, rfl, hc.2.1, hc.2.2, h1.symm, h2.symm, he, hr⟩
  · cases h
theorem trod_struct {hd : Bool} {fuel : Nat} {t : TypeId} {fs : Array Field} {cs : List Value} {ds : List (DataW H)} {pl : List MemPlace} (hu : P.underlying t = some (.struct fs)) (h : DataW.trod enc P w 0 (fun _ => true) hd (fuel + 1) t cs = some (.agg ds, pl)) :
    cs.length = P.cellsOf t ∧ ∃ ys, fs.toList.mapM (fun f => DataW.trod enc P w 0 (fun _ => true) hd fuel f.type ((cs.drop f.offset).take (P.cellsOf f.type))) = some ys ∧ ds = ys.map (·.1) := by
  unfold DataW.trod at h
  rw [hu] at h
  split at h <;> first | (simp_all; done) | skip
  rename_i fs' he
  cases he
  split at h
  · rename_i hc
    simp only [Option.map_eq_some_iff, Prod.mk.injEq, DataW.agg.injEq] at h
    obtain ⟨ys, hy, h1, h2⟩ := h
    exact ⟨hc, ys, hy, h1.symm⟩
  · cases h

theorem fs_ok {f : TypeId → DataW H → Option (List PV)} {g : TypeId → List Value → Option (DataW H × List MemPlace)} (hfg : ∀ (t : TypeId) (cs : List Value) (d : DataW H) (pl : List MemPlace) (xs : List PV), g t cs = some (d, pl) → f t d = some xs → IRs w (fun _ => True) xs cs) {cs : List Value} :
    ∀ (fs : List Field) (off : Nat) (ys : List (DataW H × List MemPlace)) (xs : List PV), fs.mapM (fun f => g f.type ((cs.drop f.offset).take (P.cellsOf f.type))) = some ys → toFs P f off fs (ys.map (·.1)) = some xs → IRs w (fun _ => True) xs ((cs.drop off).take xs.length)
  | [], off, ys, xs, h1, h2 => by
    simp at h1; subst h1
    simp [toFs] at h2; subst h2
    exact ⟨rfl, by simp⟩
  | fd :: fs, off, ys, xs, h1, h2 => by
    simp only [List.mapM_cons, Option.bind_eq_bind, Option.pure_def, Option.bind_eq_some_iff, Option.some.injEq] at h1
    obtain ⟨y, hy, ys', hys, rfl⟩ := h1
    simp only [List.map_cons, toFs] at h2
    split at h2
    · rename_i hoff
      split at h2
      · rename_i a b ha hb
        split at h2
        · rename_i hlen
          cases h2
          have i1 := hfg fd.type _ y.1 y.2 a hy ha
          have i2 := fs_ok hfg fs _ ys' b hys hb
          rw [hoff] at i1
          have happ := i1.append i2
          have hal := i1.1
          have hsplit : ((cs.drop off).take (a ++ b).length) = (cs.drop off).take (P.cellsOf fd.type) ++ (cs.drop (off + P.cellsOf fd.type)).take b.length := by
            rw [List.length_append, hlen, ← List.drop_drop, List.take_add]
          rw [hsplit]
          exact happ
        · cases h2
      · cases h2
    · cases h2

theorem row_ok {f : DataW H → Option (List PV)} {g : List Value → Option (DataW H × List MemPlace)} (hfg : ∀ (cs : List Value) (d : DataW H) (pl : List MemPlace) (xs : List PV), g cs = some (d, pl) → f d = some xs → IRs w (fun _ => True) xs cs) {a : Addr} {sz : Nat} {o : Nat → Nat} {m : Nat}
    {elems : List (DataW H × List MemPlace)} {xs : List (List PV)} (h : (List.range m).mapM (fun i => (w.cells? 0 (a.add (o i * sz)) sz).bind g) = some elems) (hx : mapO f (elems.map (·.1)) = some xs) :
    xs.length = m ∧ ∀ (i : Nat) (e : List PV), xs[i]? = some e → ∃ cs, w.cells? 0 (a.add (o i * sz)) sz = some cs ∧ IRs w (fun _ => True) e cs := by
  obtain ⟨h1, h2⟩ := mapM_get h
  obtain ⟨g1, g2⟩ := mapO_get hx
  simp only [List.length_map] at g1
  simp only [List.length_range] at h1
  refine ⟨by omega, fun i e he => ?_⟩
  obtain ⟨d, hd, hde⟩ := g2 i e he
  simp only [List.getElem?_map, Option.map_eq_some_iff] at hd
  obtain ⟨y, hy, rfl⟩ := hd
  have hi : i < m := by have := (List.getElem?_eq_some_iff.1 he).1; omega
  obtain ⟨y', hy', hb⟩ := h2 i i (by rw [List.getElem?_range hi])
  rw [hy] at hy'; cases hy'
  simp only [Option.bind_eq_some_iff] at hb
  obtain ⟨cs, hcs, hg⟩ := hb
  exact ⟨cs, hcs, hfg cs y.1 y.2 e hg hde⟩

theorem read_ok : ∀ (n : Nat) (fuel : Nat) (t : TypeId) (cs : List Value) (d : DataW H) (pl : List MemPlace) (xs : List PV), DataW.trod enc P w 0 (fun _ => true) true fuel t cs = some (d, pl) → toCs P n t d = some xs → IRs w (fun _ => True) xs cs
  | 0, fuel, t, cs, d, pl, xs, h, hx => by simp [toCs] at hx
  | n + 1, 0, t, cs, d, pl, xs, h, hx => by simp [DataW.trod] at h
  | n + 1, fuel + 1, t, cs, d, pl, xs, h, hx => by
    simp only [toCs] at hx
    split at hx
    · rename_i b hu
      cases hx
      rw [trod_bool hu h]
      exact .one (.bool b)
    · rename_i k' k m hu
      cases hx
      rw [trod_int hu h]
      exact .one (.int k m)
    · rename_i bs hu
      cases hx
      obtain ⟨s, rfl, rfl, hs⟩ := trod_str hu h
      have : (Value.string s) = .string ⟨s.data.toList.toArray⟩ := by cases s; simp
      rw [this]
      refine .one (.str _ ?_)
      have : s.data.toList.length = s.size := by simp
      omega
    · rename_i e hu
      cases hx
      rw [trod_snil hu h]
      exact .one (IR.imm [] [] true none ⟨0, 0, none⟩ 0 0 (fun _ => undef) (by simp) (by simp) (by simp) (by simp) (by simp) (by simp) (by simp) (by simp))
    · rename_i e es ss hu
      split at hx
      · rename_i a b ha hb
        split at hx
        · rename_i hall
          cases hx
          obtain ⟨ad, len, cap, elems, rest, rfl, hlc, hcm, rfl, rfl, h1, h2⟩ := trod_slice hu h
          have r1 := row_ok (o := fun i => i) (fun cs d pl xs h hx => read_ok n fuel e cs d pl xs h hx) h1 ha
          have r2 := row_ok (o := fun j => len + j) (fun cs d pl xs h hx => read_ok n fuel e cs d pl xs h hx) h2 hb
          have hz : ∀ e', e' ∈ a ++ b → e'.length = P.cellsOf e := fun e' he => by simpa using List.all_eq_true.1 hall e' he
          have hel : ∀ (i : Nat) (e' : List PV), (a ++ b)[i]? = some e' → ∃ cs, w.cells? 0 (ad.add (i * P.cellsOf e)) (P.cellsOf e) = some cs ∧ IRs w (fun _ => True) e' cs := by
            intro i e' he
            by_cases hi : i < a.length
            · rw [List.getElem?_append_left hi] at he
              exact r1.2 i e' he
            · rw [List.getElem?_append_right (by omega)] at he
              obtain ⟨cs, hcs, hr⟩ := r2.2 _ e' he
              have : len + (i - a.length) = i := by have := r1.1; omega
              rw [this] at hcs
              exact ⟨cs, hcs, hr⟩
          have hcell : ∀ (j : Nat) (x : PV), (a ++ b).flatten[j]? = some x → ∃ u, w.cell? (ad.add j) = some u ∧ IR w (fun _ => True) x u := by
            intro j x hj
            have hfl := flat_len hz
            have hjlt := (List.getElem?_eq_some_iff.1 hj).1
            have hsz : 0 < P.cellsOf e := by
              rcases Nat.eq_zero_or_pos (P.cellsOf e) with h0 | h0
              · rw [hfl, h0] at hjlt; omega
              · exact h0
            have hi : j / P.cellsOf e < (a ++ b).length := by
              rw [hfl] at hjlt
              exact (Nat.div_lt_iff_lt_mul hsz).2 hjlt
            have hm : j % P.cellsOf e < P.cellsOf e := Nat.mod_lt _ hsz
            have hdm : j / P.cellsOf e * P.cellsOf e + j % P.cellsOf e = j := by rw [Nat.mul_comm]; exact Nat.div_add_mod j _
            obtain ⟨cs, hcs, hr⟩ := hel _ _ (List.getElem?_eq_getElem hi)
            have hlen := hz _ (List.getElem_mem hi)
            have hx' : (a ++ b)[j / P.cellsOf e][j % P.cellsOf e]? = some x := by
              have := flat_get hz (List.getElem?_eq_getElem hi) (List.getElem?_eq_getElem (show j % P.cellsOf e < (a ++ b)[j / P.cellsOf e].length by omega))
              rw [hdm, hj] at this
              rw [List.getElem?_eq_getElem (by omega)]
              exact this.symm
            obtain ⟨_, c2, c3⟩ := World.cells?_some hcs
            have hu := c3 _ hm
            rw [add_add, hdm] at hu
            have hlt : j % P.cellsOf e < cs.length := by omega
            rw [List.getElem?_eq_getElem hlt] at hu
            exact ⟨_, hu, hr.2 _ x _ hx' (List.getElem?_eq_getElem hlt)⟩
          have key := IR.imm (w := w) (B := fun _ => True) a b true (some ad) ad cap (P.cellsOf e) (fun j => (w.cell? (ad.add j)).getD undef) (by have := r1.1; have := r2.1; omega) hcm (fun _ => by have := r1.1; have := r2.1; omega)
            (fun _ => rfl) (fun _ => trivial) hz (fun j x hj => by obtain ⟨u, hu, _⟩ := hcell j x hj; rw [hu]; rfl) (fun j x hj => by obtain ⟨u, hu, hr⟩ := hcell j x hj; rw [hu]; exact hr)
          rw [r1.1] at key
          exact .one key
        · cases hx
      · cases hx
    · rename_i fs ds hu
      split at hx
      · rename_i ys hys
        split at hx
        · rename_i hlen
          cases hx
          obtain ⟨h1, zs, h2, rfl⟩ := trod_struct hu h
          have := fs_ok (P := P) (fun t cs d pl xs h hx => read_ok n fuel t cs d pl xs h hx) fs.toList 0 zs _ h2 hys
          rw [List.drop_zero, hlen, ← h1, List.take_length] at this
          exact this
        · cases hx
      · cases hx
    · cases hx
end
end Go.Mach

/- The row of a law: true, and all arguments as they were. -/
namespace Go.Mach
open Go
set_option linter.unusedVariables false
set_option linter.unusedSimpArgs false

section
variable {H : Type} {enc : TypeId × Value → H} {P : Program}

theorem all_stays (hl : laidOutB P = true) {W W' : World} (hb : RowKit.Below W.heap.size W W') {sp : Nat → Bool} : ∀ (ts : List TypeId) (vs : List Value) (ds : List (DataW H)) (ps : List MemPlace), (ts.all fun t => P.readableRec t && decide (t < P.types.size)) = true →
    DataW.TrodAll enc P W 0 (fun _ => true) true ts vs ds ps → (∀ p, p ∈ ps → p.block < W.heap.size) → (∀ p, p ∈ ps → sp p.block = true) → DataW.TrodAll enc P W' 0 sp true ts vs ds ps
  | [], [], [], ps, _, h, _, _ => h
  | [], [], _ :: _, _, _, h, _, _ => h.elim
  | [], _ :: _, _, _, _, h, _, _ => h.elim
  | _ :: _, [], _, _, _, h, _, _ => h.elim
  | _ :: _, _ :: _, [], _, _, h, _, _ => h.elim
  | t :: ts, v :: vs, d :: ds, ps, ht, h, hlt, hsp => by
    obtain ⟨p, q, h1, h2, rfl⟩ := h
    simp only [List.all_cons, Bool.and_eq_true, decide_eq_true_eq] at ht
    exact ⟨p, q, WideElems.Trod_stays hl ht.1.1 ht.1.2 h1 (fun x hx => hb.same (hlt x (by simp [hx]))) (fun x hx => hsp x (by simp [hx])),
      all_stays hl hb ts vs ds q ht.2 h2 (fun x hx => hlt x (by simp [hx])) (fun x hx => hsp x (by simp [hx])), rfl⟩

theorem post_true {f : Func} {s : ChangeSpec} {apart fresh handsOn : Bool} {W W' : World} {args : Array Value} {ds gs : List (DataW H)} {before : List MemPlace} {tb : TypeId}
    (hl : laidOutB P = true) (hr : (f.params.toList.all fun t => P.readableRec t && decide (t < P.types.size)) = true) (hres : f.resultTypes = #[tb]) (htb : P.underlying tb = some .bool) (hv : s.vars = [])
    (hfn : (s.fn H (ds ++ gs)).results = [.lit (.bool true)] ∧ (s.fn H (ds ++ gs)).args = ds ∧ (s.fn H (ds ++ gs)).vars = [])
    (hW : DataW.Whole enc P f.params.toList s.vars apart W args.toList ds gs before) (hb : RowKit.Below W.heap.size W W') : s.post enc P f apart fresh handsOn false W args (.bool true) W' := by
  have hlt : ∀ p, p ∈ before → p.block < W.heap.size := fun p hp => hW.lt p hp
  obtain ⟨p, q, hA, hV, rfl, hfz, hnd⟩ := id hW
  refine ⟨ds, gs, p ++ q, [], p, [], hW, ?_, ?_, ?_, ?_, fun h => by cases h⟩
  · rw [hfn.1, hres]
    refine ⟨[], [], ⟨1, ?_⟩, rfl, rfl⟩
    simp [Value.resultList, Value.cells, DataW.trod, htb]
  · rw [hfn.2.1]
    exact all_stays hl hb _ _ _ _ hr hA (fun x hx => hlt x (by simp [hx])) fun x hx => by simpa using hlt x (by simp [hx])
  · rw [hfn.2.2, hv]; rfl
  · refine ⟨hb.os, hb.output, fun i hi => ?_⟩
    rw [hb.block i hi]
    split <;> simp_all

/-- All arguments, read. -/
theorem reads_ok {w : World} {n : Nat} : ∀ (ts : List TypeId) (vs : List Value) (ds : List (DataW H)) (ps : List MemPlace) (xs : List PV), DataW.TrodAll enc P w 0 (fun _ => true) true ts vs ds ps → ts.length = xs.length →
    (∀ (j : Nat) (t : TypeId) (d : DataW H) (x : PV), ts[j]? = some t → ds[j]? = some d → xs[j]? = some x → toCs P n t d = some [x]) → (∀ v, v ∈ vs → v.cells = #[v]) → IRs w (fun _ => True) xs vs
  | [], [], [], ps, xs, h, hl, _, _ => by
    have : xs = [] := List.eq_nil_of_length_eq_zero (by simpa using hl.symm)
    subst this
    exact IRs.nil
  | [], [], _ :: _, _, _, h, _, _, _ => h.elim
  | [], _ :: _, _, _, _, h, _, _, _ => h.elim
  | _ :: _, [], _, _, _, h, _, _, _ => h.elim
  | _ :: _, _ :: _, [], _, _, h, _, _, _ => h.elim
  | t :: ts, v :: vs, d :: ds, ps, [], h, hl, _, _ => by simp at hl
  | t :: ts, v :: vs, d :: ds, ps, x :: xs, h, hl, hx, hc => by
    obtain ⟨p, q, ⟨fuel, h1⟩, h2, rfl⟩ := h
    have h3 := read_ok n fuel t _ d p [x] h1 (hx 0 t d x rfl rfl rfl)
    rw [hc v (by simp)] at h3
    have h4 := reads_ok ts vs ds q xs h2 (by simpa using hl) (fun j t d x a b c => hx (j + 1) t d x (by simpa using a) (by simpa using b) (by simpa using c)) fun u hu => hc u (by simp [hu])
    exact IRs.append (xs := [x]) (us := [v]) h3 h4

/-- A contract with pure arguments, at arguments that read so. -/
theorem co_calls {f : FuncId} {A : List PV} {Q : PV → Prop} (h : Co P f A Q) {W : World} {args : List Value} (hs : W.ShapedOpen P) (hlow : P.low ≤ W.heap.size) (hA : IRs W (fun _ => True) A args) :
    Calls P f args.toArray W fun e W' => ∃ v y S, e = .returned v ∧ Q y ∧ RowKit.Below W.heap.size W W' ∧ (∀ b, S b → W.heap.size ≤ b) ∧ ∃ ι, RV W' [] ι S y v S := by
  let ι : Place := ⟨fun _ => (0, 0), fun _ _ _ => False⟩
  refine (h.2 W ι (fun _ => False) args (HR.nil _ _ _) ⟨hs, hlow⟩ (fun b h => h.elim) (fun b hb => absurd hb (own_nil _ _)) ⟨hA.1, fun j x v hx hv => .im _ _ ((hA.2 j x v hx hv).mono fun b _ _ => ⟨⟨own_nil _ _, fun h => h⟩, rfl⟩)⟩).mono ?_
  rintro e w' ⟨v, ι', y, σ', S, ⟨rfl, hq⟩, rfl, h1, h2, h3, h5, h6⟩
  have hS : (fun b => False ∨ S b) = S := by funext b; simp
  rw [hS] at h2
  exact ⟨v, y, S, rfl, hq, ⟨h5.os, h5.tape, h5.output, h5.size, fun b hb => h5.block b hb (own_nil _ _)⟩, fun b hb => (h3 b hb).resolve_left (own_nil _ _), ι', h2⟩
theorem ct_calls_bool {f : FuncId} {A : List PV} {r : Bool} (h : Ct P f A (.bool r)) {W : World} {args : List Value} (hs : W.ShapedOpen P) (hlow : P.low ≤ W.heap.size) (hA : IRs W (fun _ => True) A args) :
    Calls P f args.toArray W fun e W' => e = .returned (.bool r) ∧ RowKit.Below W.heap.size W W' := by
  refine (co_calls h hs hlow hA).mono ?_
  rintro e W' ⟨v, y, S, rfl, rfl, hb, _, ι, hr⟩
  cases hr with
  | vr _ _ _ _ hv _ => rw [hv.of_bool]; exact ⟨rfl, hb⟩
  | tr _ _ _ hx => simp [isOwn] at hx
end
end Go.Mach
