import Derived.Test.YtnkakbpefcoanaaGreatMg
import Derived.Test.YtnkakbpefcoanaaGreatMa
/- Tools for walks that run by themselves. -/
namespace Go.Mach
open Go
set_option linter.unusedVariables false
set_option linter.unusedSimpArgs false

section
variable {P : Program} {k : K} {st : St} {d : Option Nat} {op : MOp} {os : List MOper}
/-! #### Guards -/
def GrdV (P : Program) (v : PV) (b : Bool) (d : Option Nat) (op : MOp) (os : List MOper) (k : K) (st : St) : Prop :=
  Grd P (match v with | .bool c => some (c == b) | .tup _ => some false | _ => none) d op os k st
theorem ops_grd {t : Nat} {b : Bool} : Ops P (⟨d, op, some (t, b)⟩ :: os) k st = GrdV P (st.τ t) b d op os k st := ops_cons
theorem gv_tt : GrdV P (.bool true) true d op os k st = Stp P (evalOp st op) d os k st := rfl
theorem gv_ff : GrdV P (.bool false) false d op os k st = Stp P (evalOp st op) d os k st := rfl
theorem gv_tf : GrdV P (.bool true) false d op os k st = Ops P os k (st.putO d (.tup [])) := rfl
theorem gv_ft : GrdV P (.bool false) true d op os k st = Ops P os k (st.putO d (.tup [])) := rfl
theorem gv_tup {l : List PV} {b : Bool} : GrdV P (.tup l) b d op os k st = Ops P os k (st.putO d (.tup [])) := rfl
theorem gv_split {c b : Bool} (h1 : c = true → GrdV P (.bool true) b d op os k st) (h2 : c = false → GrdV P (.bool false) b d op os k st) : GrdV P (.bool c) b d op os k st := by
  cases c
  · exact h2 rfl
  · exact h1 rfl
def CGrdV (P : Program) (v : PV) (b : Bool) (d : Option Nat) (op : MOp) (os : List MOper) (k : K) (st : St) : Prop :=
  CGrd P (match v with | .bool c => some (c == b) | .tup _ => some false | _ => none) d op os k st
theorem calm_grd {t : Nat} {b : Bool} : Calm P (⟨d, op, some (t, b)⟩ :: os) k st = CGrdV P (st.τ t) b d op os k st := calm_cons
theorem cgv_tt : CGrdV P (.bool true) true d op os k st = CStp P (evalOp st op) d os k st := cgrd_true
theorem cgv_ff : CGrdV P (.bool false) false d op os k st = CStp P (evalOp st op) d os k st := cgrd_true
theorem cgv_tf : CGrdV P (.bool true) false d op os k st = Calm P os k (st.putO d (.tup [])) := cgrd_false
theorem cgv_ft : CGrdV P (.bool false) true d op os k st = Calm P os k (st.putO d (.tup [])) := cgrd_false
theorem cgv_tup {l : List PV} {b : Bool} : CGrdV P (.tup l) b d op os k st = Calm P os k (st.putO d (.tup [])) := cgrd_false
theorem cgv_split {c b : Bool} (h1 : c = true → CGrdV P (.bool true) b d op os k st) (h2 : c = false → CGrdV P (.bool false) b d op os k st) : CGrdV P (.bool c) b d op os k st := by
  cases c
  · exact h2 rfl
  · exact h1 rfl
/-- The state, as it is walked: what a condition is told to be. -/
theorem stp_call' {f : FuncId} {cs A : List PV} {y : PV} (own : Bool) (h : Ct P f (A ++ cs) y) (hA : pureL (A ++ cs) = true) (hk : Ops P os k ((st.withσ (took own st.σ y).2).putO d (took own st.σ y).1)) : Stp P (.call (.fn f cs) A) d os k st :=
  call_ct own h hA hk
/-- A call of which the result is plain. -/
theorem stp_ct {f : FuncId} {cs A : List PV} {y : PV} (h : Ct P f (A ++ cs) y) (hA : pureL (A ++ cs) = true) (hy : noOwnV y = true) (hk : Ops P os k (st.putO d y)) : Stp P (.call (.fn f cs) A) d os k st := by
  refine call_ct false h hA ?_
  rw [took_plain hy]
  exact hk
/-- .. with arguments that are read out of own objects. -/
theorem stp_snap {f : FuncId} {cs A A' : List PV} {y : PV} (n : Nat) (h : Ct P f A' y) (hA : snapL st.σ n ((A ++ cs).map (frzV st.σ)) = some A') (hc : closedV y = true) (hy : noOwnV y = true) (hk : Ops P os k (st.putO d y)) : Stp P (.call (.fn f cs) A) d os k st := by
  refine call_snap false n hA h hc ?_
  rw [took_plain hy]
  exact hk

/-- .. in a drawn region. -/
theorem cstp_snap {f : FuncId} {cs A A' : List PV} {y : PV} (n : Nat) (h : Ct P f A' y) (hA : snapL st.σ n ((A ++ cs).map (frzV st.σ)) = some A') (hc : closedV y = true) (hy : noOwnV y = true) (hk : Calm P os k (st.putO d y)) : CStp P (.call (.fn f cs) A) d os k st := by
  refine ⟨y, fun st' κ hσ hκ => ?_, hk⟩
  refine call_snap false n (by rw [hσ]; exact hA) h hc ?_
  rw [took_plain hy, hσ]
  exact hκ
/-! #### Between two rounds -/
def okO (m : Nat) : Option AObj → Bool
  | none => true
  | some ob => ob.es.all fun e => e.all (bdV m)
theorem okO_none {m : Nat} : okO m none = true := rfl
theorem okO_some {m : Nat} {es : List (List PV)} {sz : Nat} {ty : TypeId} {arr frz : Bool} : okO m (some ⟨es, sz, ty, arr, frz⟩) = es.all fun e => e.all (bdV m) := rfl
theorem gh_auto {l : List (Nat × PV)} {σ' β : Heap} (h : (st.σ.take σ'.length = σ' ∧ σ'.length ≤ st.σ.length) ∧ (∀ x, x ∈ σ' → okO σ'.length x = true) ∧ (st.base = β ∧ β.length ≤ σ'.length) ∧ ∀ p, p ∈ l → st.τ p.1 = p.2 ∧ bdV σ'.length p.2 = true) : Gh st ⟨lk l, σ', β⟩ := by
  obtain ⟨⟨h1, h2⟩, h3, ⟨rfl, h4⟩, h5⟩ := h
  refine gh_canon (st := st) (l := l) (σ' := σ') ?_ h5
  obtain ⟨a1, a2, a3, a4⟩ := cut_take h1.symm (fun o ob ho => h3 (some ob) (List.mem_of_getElem? ho)) h2
  refine ⟨a1, h4, a3, fun o ho => ?_⟩
  rcases a4 o ho with h | ⟨h, _⟩ | h
  · exact .inl h
  · simp at h
  · exact .inr (.inr h)
end

/-! #### Loops that are measured -/
section
variable {P : Program} {k : K} {st : St}
def WLoop {α : Type} (L : α → St) (m : α → Nat) (J : α → Prop) (n : Nat) (st : St) : Prop := ∃ a, m a = n ∧ st = L a ∧ J a
theorem run_while {α : Type} {c : MC} (L : α → St) (m : α → Nat) (J : α → Prop) (a : α) (hg : Gh st (L a)) (h0 : J a)
    (round : ∀ a, J a → Run P c (.loop (WLoop L m J) (m a) k) (L a)) : Run P (.loop c) k st :=
  run_loop (WLoop L m J) (m a) (L a) hg ⟨a, rfl, rfl, h0⟩ fun n st ⟨a, hn, hs, hj⟩ => by
    subst hs
    subst hn
    exact round a hj
theorem kx_more {α : Type} {L : α → St} {m : α → Nat} {J : α → Prop} {n : Nat} (a : α) (hm : m a < n) (hg : Gh st (L a)) (h : J a) : KX P (.loop (WLoop L m J) n k) .normal st :=
  kx_again (m a) (L a) hg hm ⟨a, rfl, rfl, h⟩
end
/-! #### Equations that wait for their arguments -/
theorem boxV_eq {σ : Heap} {ty : Nat} {x : PV} : boxV σ ty x = newV σ ty (cellsOf x) := rfl
theorem loadC_ag {sz : Nat} {x : PV} {l : List PV} : loadC true sz (x :: l) = if sz ≤ (x :: l).length then .ok (.agg ((x :: l).take sz)) else .bad := rfl
theorem loadC_one {sz : Nat} {x : PV} {l : List PV} : loadC false sz (x :: l) = .ok x := rfl
/-! #### Ends -/
theorem end_tup {ns : List MR} {Q : PV → Prop} {e : MExit} {st : St} (vs : List PV) (he : ∀ i, e ≠ .exit i) (hr : resL st ns = some vs) (hp : pureV (ret1 vs) = true) (hq : Q (ret1 vs)) : endP ns Q e st := by
  have h : ∃ vs d r, resL st ns = some vs ∧ snapV st.σ 0 d (ret1 vs) = some r ∧ Q r := ⟨vs, 0, ret1 vs, hr, by simp [snapV, hp], hq⟩
  cases e with
  | exit i => exact absurd rfl (he i)
  | normal => exact h
  | ret => exact h

/-- The rule of functions that only read, and of which all is told. -/
theorem ct_of_run {P : Program} {f : FuncId} {fn : Func} {mf : MF} (hF : Fit P f fn mf) {A : List PV} {y : PV} (hn : A.length ≤ mf.n) (hA : noOwnL A = true)
    (h : deepL A → Run P mf.body (.done (endP mf.rs (fun y' => y' = y))) (entry A [])) : Ct P f A y := cp_of_run hF hn hA h

/-- All cells of a slice are of one width. -/
theorem wide_of_deep {es sp : List (List PV)} {lim : Bool} {n : Nat} (h : deepV (.imm es sp lim)) (x : List PV) (hx : x ∈ es) (hn : x.length = n) : ∀ e, e ∈ es ∨ e ∈ sp → e.length = n := by
  obtain ⟨_, _, _, sz, hz⟩ := h
  have : n = sz := by rw [← hn]; exact hz x (List.mem_append_left _ hx)
  subst this
  exact fun e he => hz e (List.mem_append.2 he)

/-- The first part of a slice. -/
theorem slV_pre {α : Type} {f : α → List PV} {l : List α} {sp : List (List PV)} {lim : Bool} {i n : Nat} {σ : Heap} {k : IntKind} (hi : i ≤ l.length) (hw : ∀ e, e ∈ sp → e.length = n) (hf : ∀ x, (f x).length = n) :
    slV σ n (.imm (l.map f) sp lim) none (some (.int k i)) none = .ob True (.imm ((l.take i).map f) ((l.map f).drop i ++ sp) lim) := by
  have h1 : ((l.map f ++ sp).take i) = (l.take i).map f := by rw [List.take_append_of_le_length (by simpa using hi), List.map_take]
  have h2 : (((l.map f ++ sp).take (l.length + sp.length)).drop i) = (l.map f).drop i ++ sp := by
    rw [List.take_of_length_le (by simp), List.drop_append_of_le_length (by simpa using hi)]
  simp only [slV, optI, Int.toNat_zero, List.drop_zero, Int.toNat_natCast, h1, List.length_map]
  have h3 : ((l.length : Int) + (sp.length : Int)).toNat = l.length + sp.length := by omega
  rw [h3, h2]
  have h4 : (0 ≤ (0 : Int) ∧ (0 : Int) ≤ (i : Int) ∧ (i : Int) ≤ (l.length : Int) + (sp.length : Int) ∧ (l.length : Int) + (sp.length : Int) ≤ (l.length : Int) + (sp.length : Int) ∧ ∀ e, e ∈ l.map f ++ sp → e.length = n) = True := by
    refine eq_true ⟨by omega, by omega, by omega, by omega, fun e he => ?_⟩
    rcases List.mem_append.1 he with he | he
    · obtain ⟨x, _, rfl⟩ := List.mem_map.1 he
      exact hf x
    · exact hw e he
  simp only [h4]
  simp

/-! #### Lists -/
theorem getD_map {α : Type} {f : α → List PV} {l : List α} {i : Nat} {z : List PV} (h : i < l.length) : (l.map f).getD i z = f l[i] := by
  rw [List.getD_eq_getElem?_getD, List.getElem?_map, List.getElem?_eq_getElem h]; rfl
theorem getD_str {s : List UInt8} {i : Nat} (h : i < s.length) : byteAt s (i : Int) = (s[i].toNat : Int) := by
  unfold byteAt
  rw [Int.toNat_natCast, List.getD_eq_getElem?_getD, List.getElem?_eq_getElem h]; rfl
end Go.Mach

/- Contracts that were proved elsewhere, over the kit's Calls. -/
namespace Go.Mach
open Go
set_option linter.unusedVariables false
set_option linter.unusedSimpArgs false

theorem IR.scal {w : World} {B : Nat → Prop} {x : PV} {v : Value} (h : IR w B x v) (hs : scalV x = true) : ∀ (w' : World) (B' : Nat → Prop), IR w' B' x v := by
  have key : ∀ {cs : List PV} {vs : List Value}, scalL cs = true → (∀ (j : Nat) (x : PV) (v : Value), cs[j]? = some x → vs[j]? = some v → scalV x = true → ∀ (w' : World) (B' : Nat → Prop), IR w' B' x v) →
      ∀ (w' : World) (B' : Nat → Prop) (j : Nat) (x : PV) (v : Value), cs[j]? = some x → vs[j]? = some v → IR w' B' x v := by
    intro cs vs hc ih w' B' j x v hx hv
    have hm : ∀ {cs : List PV}, scalL cs = true → ∀ x, x ∈ cs → scalV x = true := by
      intro cs
      induction cs with
      | nil => intro _ x hx; cases hx
      | cons y ys ih =>
        intro h x hx
        simp only [scalL, Bool.and_eq_true] at h
        rcases List.mem_cons.1 hx with rfl | hx
        · exact h.1
        · exact ih h.2 x hx
    exact ih j x v hx hv (hm hc x (List.mem_of_getElem? hx)) w' B'
  induction h with
  | bool b => exact fun _ _ => .bool b
  | int k n => exact fun _ _ => .int k n
  | str s h => exact fun _ _ => .str s h
  | nilp => exact fun _ _ => .nilp
  | nilfn => exact fun _ _ => .nilfn
  | nilif => exact fun _ _ => .nilif
  | agg cs vs hl hr ih => exact fun w' B' => .agg cs vs hl (key (by simpa [scalV] using hs) ih w' B')
  | tup cs vs hl hr ih => exact fun w' B' => .tup cs vs hl (key (by simpa [scalV] using hs) ih w' B')
  | _ => simp [scalV] at hs

/-- A function of which the kit's contract says that it hands back a plain value and leaves the world as it is. -/
theorem ct_of_calls {P : Program} {f : FuncId} {A : List PV} {y : PV} (hE : Ent P f) (hy : noOwnV y = true)
    (h : ∀ (w : World) (vs : List Value), G P w → (∃ (σ : Heap) (ι : Place) (X : Nat → Prop), VRs w σ ι X A vs) → Calls P f vs.toArray w fun e w' => ∃ v, e = .returned v ∧ w' = w ∧ ∀ B, IR w B y v) : Ct P f A y := by
  refine ⟨hE, fun w ι X vs hh hg hX hl hv => (h w vs hg ⟨_, _, _, hv⟩).mono ?_⟩
  rintro e w' ⟨v, rfl, rfl, hr⟩
  have hS : (fun b => X b ∨ False) = X := by funext b; simp
  refine ⟨v, ι, y, [], fun _ => False, ⟨rfl, rfl⟩, rfl, ?_, .vr y v _ hy (.im _ _ (hr _)) (fun _ h => h), fun _ h => h.elim, Kept.refl (fun b _ hb => absurd hb (own_nil _ _)), Evo.refl _ _ _⟩
  exact HR.nil _ _ _
theorem VRs.cons' {w : World} {σ : Heap} {ι : Place} {X : Nat → Prop} {x : PV} {xs : List PV} {vs : List Value} (h : VRs w σ ι X (x :: xs) vs) : ∃ v vs', vs = v :: vs' ∧ VR w σ ι X x v ∧ VRs w σ ι X xs vs' := by
  cases vs with
  | nil => have := h.1; simp at this
  | cons v vs' => exact ⟨v, vs', rfl, h.of_cons⟩
theorem VRs.nil' {w : World} {σ : Heap} {ι : Place} {X : Nat → Prop} {vs : List Value} (h : VRs w σ ι X [] vs) : vs = [] := List.eq_nil_of_length_eq_zero h.1.symm
theorem VRs.strs {w : World} {σ : Heap} {ι : Place} {X : Nat → Prop} {s t : List UInt8} {vs : List Value} (h : VRs w σ ι X [.str s, .str t] vs) : vs = [.string ⟨s.toArray⟩, .string ⟨t.toArray⟩] ∧ s.length ≤ maxLen ∧ t.length ≤ maxLen := by
  obtain ⟨v, vs', rfl, h1, h2⟩ := h.cons'
  obtain ⟨v', vs'', rfl, h3, h4⟩ := h2.cons'
  rw [h4.nil']
  exact ⟨by rw [h1.of_str.1, h3.of_str.1], h1.of_str.2, h3.of_str.2⟩
end Go.Mach

/- The rule of frames: a contract over some objects serves a caller that has more. -/
namespace Go.Mach
open Go
set_option linter.unusedVariables false
set_option linter.unusedSimpArgs false

mutual
/-- Objects by other numbers. -/
def renV (r : Nat → Nat) : PV → PV
  | .ptr o ep i off => .ptr (r o) ep i off
  | .ref o ep lo len cap => .ref (r o) ep lo len cap
  | .fn f cs => .fn f (renL r cs)
  | .agg cs => .agg (renL r cs)
  | .tup cs => .tup (renL r cs)
  | x => x
def renL (r : Nat → Nat) : List PV → List PV
  | [] => []
  | x :: xs => renV r x :: renL r xs
end
mutual
def dV (D : Nat → Prop) : PV → Prop
  | .ptr o .. => D o
  | .ref o .. => D o
  | .fn _ cs => dL D cs
  | .agg cs => dL D cs
  | .tup cs => dL D cs
  | _ => True
def dL (D : Nat → Prop) : List PV → Prop
  | [] => True
  | x :: xs => dV D x ∧ dL D xs
end
theorem renL_map (r : Nat → Nat) (l : List PV) : renL r l = l.map (renV r) := by induction l <;> simp_all [renL]
theorem dL_mem {D : Nat → Prop} : ∀ {l : List PV}, dL D l → ∀ x, x ∈ l → dV D x
  | [], _, x, hx => by cases hx
  | y :: ys, h, x, hx => by
    rcases List.mem_cons.1 hx with rfl | hx
    · exact h.1
    · exact dL_mem h.2 x hx
theorem renV_own {r : Nat → Nat} {x : PV} : isOwn (renV r x) = isOwn x := by cases x <;> rfl
theorem renV_of_own {r : Nat → Nat} {x : PV} (h : isOwn x = true) : renV r x = x := by cases x <;> simp_all [isOwn, renV]
mutual
theorem renV_noOwn (r : Nat → Nat) : ∀ (x : PV), noOwnV (renV r x) = noOwnV x
  | .fn _ cs => by simp only [renV, noOwnV]; exact renL_noOwn r cs
  | .agg cs => by simp only [renV, noOwnV]; exact renL_noOwn r cs
  | .tup cs => by simp only [renV, noOwnV]; exact renL_noOwn r cs
  | .bool _ | .int _ _ | .str _ | .nilp | .iptr _ | .ptr .. | .imm .. | .ref .. | .own .. | .nilfn | .nilif | .someif | .undef => rfl
theorem renL_noOwn (r : Nat → Nat) : ∀ (l : List PV), noOwnL (renL r l) = noOwnL l
  | [] => rfl
  | x :: xs => by simp only [renL, noOwnL, renV_noOwn r x, renL_noOwn r xs]
end
mutual
/-- Back again. -/
theorem renV_inv {r s : Nat → Nat} {D : Nat → Prop} (h : ∀ o, D o → s (r o) = o) : ∀ (x : PV), dV D x → renV s (renV r x) = x
  | .ptr o ep i off, hd => by simp only [renV]; rw [h o hd]
  | .ref o ep lo len cap, hd => by simp only [renV]; rw [h o hd]
  | .fn f cs, hd => by simp only [renV]; rw [renL_inv h cs hd]
  | .agg cs, hd => by simp only [renV]; rw [renL_inv h cs hd]
  | .tup cs, hd => by simp only [renV]; rw [renL_inv h cs hd]
  | .bool _, _ | .int _ _, _ | .str _, _ | .nilp, _ | .iptr _, _ | .imm .., _ | .own .., _ | .nilfn, _ | .nilif, _ | .someif, _ | .undef, _ => rfl
theorem renL_inv {r s : Nat → Nat} {D : Nat → Prop} (h : ∀ o, D o → s (r o) = o) : ∀ (l : List PV), dL D l → renL s (renL r l) = l
  | [], _ => rfl
  | x :: xs, hd => by simp only [renL]; rw [renV_inv h x hd.1, renL_inv h xs hd.2]
end
mutual
theorem dV_ren {r : Nat → Nat} {D D' : Nat → Prop} (h : ∀ o, D o → D' (r o)) : ∀ (x : PV), dV D x → dV D' (renV r x)
  | .ptr o ep i off, hd => h o hd
  | .ref o ep lo len cap, hd => h o hd
  | .fn f cs, hd => dL_ren h cs hd
  | .agg cs, hd => dL_ren h cs hd
  | .tup cs, hd => dL_ren h cs hd
  | .bool _, _ | .int _ _, _ | .str _, _ | .nilp, _ | .iptr _, _ | .imm .., _ | .own .., _ | .nilfn, _ | .nilif, _ | .someif, _ | .undef, _ => trivial
theorem dL_ren {r : Nat → Nat} {D D' : Nat → Prop} (h : ∀ o, D o → D' (r o)) : ∀ (l : List PV), dL D l → dL D' (renL r l)
  | [], _ => trivial
  | x :: xs, hd => ⟨dV_ren h x hd.1, dL_ren h xs hd.2⟩
end
mutual
theorem dV_bd {m : Nat} : ∀ (x : PV), bdV m x = true → dV (· < m) x
  | .ptr o ep i off, hd => by simpa [bdV, dV] using hd
  | .ref o ep lo len cap, hd => by simpa [bdV, dV] using hd
  | .fn f cs, hd => dL_bd cs hd
  | .agg cs, hd => dL_bd cs hd
  | .tup cs, hd => dL_bd cs hd
  | .bool _, _ | .int _ _, _ | .str _, _ | .nilp, _ | .iptr _, _ | .imm .., _ | .own .., _ | .nilfn, _ | .nilif, _ | .someif, _ | .undef, _ => trivial
theorem dL_bd {m : Nat} : ∀ (l : List PV), bdL m l = true → dL (· < m) l
  | [], _ => trivial
  | x :: xs, hd => by
    simp only [bdL, Bool.and_eq_true] at hd
    exact ⟨dV_bd x hd.1, dL_bd xs hd.2⟩
end

/-- A value goes on being known, its objects by other numbers. -/
theorem VR.ren {w w' : World} {σ σ' : Heap} {ι ι' : Place} {X X' : Nat → Prop} {r : Nat → Nat} {D : Nat → Prop} (hIR : ∀ b, b < w.heap.size → (¬ Own σ ι b ∧ ¬ X b) → (¬ Own σ' ι' b ∧ ¬ X' b) ∧ w'.heap[b]? = w.heap[b]?)
    (hp : ∀ o, D o → o < σ.length → r o < σ'.length ∧ ∀ ob', σ'[r o]? = some (some ob') → ∃ ob, σ[o]? = some (some ob) ∧ ob.es.length ≤ ob'.es.length ∧ ob'.sz = ob.sz ∧ (ob'.es.length = ob.es.length → ι' (r o) = ι o))
    {x : PV} {v : Value} (h : VR w σ ι X x v) : dV D x → VR w' σ' ι' X' (renV r x) v := by
  have irr : ∀ {x : PV} {v : Value}, IR w (fun b => ¬ Own σ ι b ∧ ¬ X b) x v → VR w' σ' ι' X' (renV r x) v := by
    intro x v h
    induction h with
    | fn f cs vs hl hr ih =>
      exact .fn f _ vs (by rw [renL_map]; simpa using hl) fun j x v hx hv => by
        rw [renL_map, List.getElem?_map, Option.map_eq_some_iff] at hx
        obtain ⟨y, hy, rfl⟩ := hx
        exact ih j y v hy hv
    | agg cs vs hl hr ih =>
      exact .agg _ vs (by rw [renL_map]; simpa using hl) fun j x v hx hv => by
        rw [renL_map, List.getElem?_map, Option.map_eq_some_iff] at hx
        obtain ⟨y, hy, rfl⟩ := hx
        exact ih j y v hy hv
    | tup cs vs hl hr ih =>
      exact .tup _ vs (by rw [renL_map]; simpa using hl) fun j x v hx hv => by
        rw [renL_map, List.getElem?_map, Option.map_eq_some_iff] at hx
        obtain ⟨y, hy, rfl⟩ := hx
        exact ih j y v hy hv
    | bool b => exact .im _ _ (.bool b)
    | int k n => exact .im _ _ (.int k n)
    | str s hs => exact .im _ _ (.str s hs)
    | nilp => exact .im _ _ .nilp
    | nilfn => exact .im _ _ .nilfn
    | nilif => exact .im _ _ .nilif
    | someif t v => exact .im _ _ (.someif t v)
    | iptr l a vs ho hc hr ih => exact .im _ _ ((IR.iptr l a vs ho hc hr).mono fun b hb hn => hIR b hb hn)
    | imm es sp lim A a c sz vs hc1 hc2 hl hA ho hz hc hr ih => exact .im _ _ ((IR.imm es sp lim A a c sz vs hc1 hc2 hl hA ho hz hc hr).mono fun b hb hn => hIR b hb hn)
  induction h with
  | im x v h => exact fun _ => irr h
  | ptr o ep i off v ho hs h =>
    intro hd
    obtain ⟨h1, h2⟩ := hp o hd ho
    refine .ptr (r o) ep i off v h1 hs fun ob' hob' => ?_
    obtain ⟨ob, a1, a2, a3, a4⟩ := h2 ob' hob'
    obtain ⟨g1, g2⟩ := h ob a1
    refine ⟨by omega, fun hep => ?_⟩
    obtain ⟨g3, g4⟩ := g2 (by omega)
    exact ⟨g3, by rw [a4 (by omega), a3]; exact g4⟩
  | ref o ep lo len cap v ho hs h =>
    intro hd
    obtain ⟨h1, h2⟩ := hp o hd ho
    refine .ref (r o) ep lo len cap v h1 hs fun ob' hob' => ?_
    obtain ⟨ob, a1, a2, a3, a4⟩ := h2 ob' hob'
    obtain ⟨g1, g2⟩ := h ob a1
    refine ⟨by omega, fun hep => ?_⟩
    obtain ⟨g3, A, c, g4, g5, g6, g7, g8, g9⟩ := g2 (by omega)
    exact ⟨g3, A, c, g4, by rw [a4 (by omega), a3]; exact g5, g6, by rw [a4 (by omega)]; exact g7, by rw [a4 (by omega)]; exact g8, g9⟩
  | fn f cs vs hl hr ih =>
      exact fun hd => .fn f _ vs (by rw [renL_map]; simpa using hl) fun j x v hx hv => by
        rw [renL_map, List.getElem?_map, Option.map_eq_some_iff] at hx
        obtain ⟨y, hy, rfl⟩ := hx
        exact ih j y v hy hv (dL_mem hd y (List.mem_of_getElem? hy))
  | agg cs vs hl hr ih =>
      exact fun hd => .agg _ vs (by rw [renL_map]; simpa using hl) fun j x v hx hv => by
        rw [renL_map, List.getElem?_map, Option.map_eq_some_iff] at hx
        obtain ⟨y, hy, rfl⟩ := hx
        exact ih j y v hy hv (dL_mem hd y (List.mem_of_getElem? hy))
  | tup cs vs hl hr ih =>
      exact fun hd => .tup _ vs (by rw [renL_map]; simpa using hl) fun j x v hx hv => by
        rw [renL_map, List.getElem?_map, Option.map_eq_some_iff] at hx
        obtain ⟨y, hy, rfl⟩ := hx
        exact ih j y v hy hv (dL_mem hd y (List.mem_of_getElem? hy))
  | undef v => exact fun _ => .undef v
  | own es n sz ty lim v => exact fun _ => .own es n sz ty lim v

/-! #### Positions -/
def posN : List Nat → Nat → Nat
  | [], _ => 0
  | x :: xs, o => if x = o then 0 else posN xs o + 1
theorem posN_get : ∀ {ρ : List Nat}, ρ.Nodup → ∀ (j : Nat) (h : j < ρ.length), posN ρ ρ[j] = j
  | [], _, j, h => by simp at h
  | x :: xs, hn, 0, _ => by simp [posN]
  | x :: xs, hn, j + 1, h => by
    have h1 := List.nodup_cons.1 hn
    have h2 : x ≠ xs[j]'(by simpa using h) := fun e => h1.1 (e ▸ List.getElem_mem _)
    simp only [List.getElem_cons_succ, posN, if_neg h2]
    rw [posN_get h1.2 j (by simpa using h)]
def putAll : Heap → List Nat → Heap → Heap
  | σ, o :: os, x :: xs => putAll (σ.set o x) os xs
  | σ, _, _ => σ
theorem putAll_len : ∀ (σ : Heap) (ρ : List Nat) (xs : Heap), (putAll σ ρ xs).length = σ.length
  | σ, [], xs => by cases xs <;> rfl
  | σ, o :: os, [] => rfl
  | σ, o :: os, x :: xs => by simp only [putAll]; rw [putAll_len]; simp
theorem putAll_other : ∀ (σ : Heap) (ρ : List Nat) (xs : Heap) (o : Nat), o ∉ ρ → (putAll σ ρ xs)[o]? = σ[o]?
  | σ, [], xs, o, h => by cases xs <;> rfl
  | σ, p :: os, [], o, h => rfl
  | σ, p :: os, x :: xs, o, h => by
    simp only [putAll]
    rw [putAll_other _ os xs o fun h' => h (by simp [h']), List.getElem?_set_ne fun e => h (by simp [e])]
theorem putAll_at : ∀ (σ : Heap) (ρ : List Nat) (xs : Heap), ρ.Nodup → (∀ o, o ∈ ρ → o < σ.length) → ∀ (j : Nat) (h : j < ρ.length) (h' : j < xs.length), (putAll σ ρ xs)[ρ[j]]? = some xs[j]
  | σ, [], xs, _, _, j, h, _ => by simp at h
  | σ, o :: os, [], _, _, j, _, h' => by simp at h'
  | σ, o :: os, x :: xs, hn, hin, 0, _, _ => by
    have h1 := List.nodup_cons.1 hn
    simp only [putAll, List.getElem_cons_zero]
    rw [putAll_other _ os xs o h1.1, List.getElem?_set_self (hin o (by simp))]
  | σ, o :: os, x :: xs, hn, hin, j + 1, h, h' => by
    have h1 := List.nodup_cons.1 hn
    simp only [putAll, List.getElem_cons_succ]
    exact putAll_at _ os xs h1.2 (fun p hp => by simpa using hin p (by simp [hp])) j (by simpa using h) (by simpa using h')
end Go.Mach

/- The rule of frames, proved. -/
namespace Go.Mach
open Go
set_option linter.unusedVariables false
set_option linter.unusedSimpArgs false

def rf (ρ : List Nat) (j : Nat) : Nat := ρ.getD j 0
def renO (r : Nat → Nat) (ob : AObj) : AObj := { ob with es := ob.es.map (renL r) }
theorem renO_flat {r : Nat → Nat} {ob : AObj} : (renO r ob).es.flatten = ob.es.flatten.map (renV r) := by
  simp only [renO, List.map_flatten]
  congr 1
  apply List.map_congr_left
  intro e _
  exact renL_map r e
theorem renO_flat_get {r : Nat → Nat} {ob : AObj} {k : Nat} {x : PV} (h : (renO r ob).es.flatten[k]? = some x) : ∃ y, ob.es.flatten[k]? = some y ∧ x = renV r y := by
  rw [renO_flat, List.getElem?_map, Option.map_eq_some_iff] at h
  obtain ⟨y, hy, rfl⟩ := h
  exact ⟨y, hy, rfl⟩
theorem renO_flat_put {r : Nat → Nat} {ob : AObj} {k : Nat} {y : PV} (h : ob.es.flatten[k]? = some y) : (renO r ob).es.flatten[k]? = some (renV r y) := by
  rw [renO_flat, List.getElem?_map, h]; rfl

mutual
theorem renV_id : ∀ (x : PV), renV (fun o => o) x = x
  | .ptr .. | .ref .. | .bool _ | .int _ _ | .str _ | .nilp | .iptr _ | .imm .. | .own .. | .nilfn | .nilif | .someif | .undef => rfl
  | .fn f cs => by simp only [renV]; rw [renL_id cs]
  | .agg cs => by simp only [renV]; rw [renL_id cs]
  | .tup cs => by simp only [renV]; rw [renL_id cs]
theorem renL_id : ∀ (l : List PV), renL (fun o => o) l = l
  | [] => rfl
  | x :: xs => by simp only [renL]; rw [renV_id x, renL_id xs]
end
mutual
theorem dV_true : ∀ (x : PV), dV (fun _ => True) x
  | .ptr .. | .ref .. | .bool _ | .int _ _ | .str _ | .nilp | .iptr _ | .imm .. | .own .. | .nilfn | .nilif | .someif | .undef => trivial
  | .fn f cs => dL_true cs
  | .agg cs => dL_true cs
  | .tup cs => dL_true cs
theorem dL_true : ∀ (l : List PV), dL (fun _ => True) l
  | [] => trivial
  | x :: xs => ⟨dV_true x, dL_true xs⟩
end
section
variable {sub : List AObj} {ρ : List Nat} {σb : Heap} {w : World} {ιb : Place} {Xb : Nat → Prop}
theorem sub_get {j : Nat} {ob : AObj} (h : (sub.map some)[j]? = some (some ob)) : ∃ hj : j < sub.length, ob = sub[j] := by
  rw [List.getElem?_map, Option.map_eq_some_iff] at h
  obtain ⟨o, ho, he⟩ := h
  cases he
  obtain ⟨hj, rfl⟩ := List.getElem?_eq_some_iff.1 ho
  exact ⟨hj, rfl⟩
theorem sub_put {j : Nat} (hj : j < sub.length) : (sub.map some)[j]? = some (some sub[j]) := by
  rw [List.getElem?_map, List.getElem?_eq_getElem hj]; rfl
theorem rf_get {j : Nat} (hj : j < ρ.length) : rf ρ j = ρ[j] := by
  unfold rf; rw [List.getD_eq_getElem?_getD, List.getElem?_eq_getElem hj]; rfl
theorem rf_mem {j : Nat} (hj : j < ρ.length) : rf ρ j ∈ ρ := by rw [rf_get hj]; exact List.getElem_mem hj
theorem rf_inj (hn : ρ.Nodup) {j k : Nat} (hj : j < ρ.length) (hk : k < ρ.length) (h : rf ρ j = rf ρ k) : j = k := by
  rw [rf_get hj, rf_get hk] at h
  have h1 := posN_get hn j hj
  rw [h, posN_get hn k hk] at h1
  exact h1.symm
def subι (ρ : List Nat) (ιb : Place) : Place := ⟨fun j => ιb (rf ρ j), fun j k b => ιb.ft (rf ρ j) k b⟩
/-- The caller's world, of which some objects are told. -/
structure Fr (ρ : List Nat) (sub : List AObj) (σb : Heap) : Prop where
  len : ρ.length = sub.length
  nd : ρ.Nodup
  at' : ∀ j (hj : j < sub.length), σb[rf ρ j]? = some (some (renO (rf ρ) sub[j]))
theorem Fr.tb1 (F : Fr ρ sub σb) {j k b : Nat} (h : Tb (sub.map some) (subι ρ ιb) j k b) : j < sub.length ∧ Tb σb ιb (rf ρ j) k b := by
  obtain ⟨ob, x, h1, h2, h3, h4⟩ := h
  obtain ⟨hj, rfl⟩ := sub_get h1
  exact ⟨hj, _, renV (rf ρ) x, F.at' j hj, renO_flat_put h2, by rw [renV_own]; exact h3, h4⟩
theorem Fr.tb2 (F : Fr ρ sub σb) {j k b : Nat} (hj : j < sub.length) (h : Tb σb ιb (rf ρ j) k b) : Tb (sub.map some) (subι ρ ιb) j k b := by
  obtain ⟨ob, x, h1, h2, h3, h4⟩ := h
  rw [F.at' j hj] at h1
  cases h1
  obtain ⟨y, hy, rfl⟩ := renO_flat_get h2
  exact ⟨_, y, sub_put hj, hy, by rw [renV_own] at h3; exact h3, h4⟩
theorem Fr.own1 (F : Fr ρ sub σb) {b : Nat} (h : Own (sub.map some) (subι ρ ιb) b) : Own σb ιb b := by
  rcases h with ⟨o, ob, h1, h2, h3⟩ | ⟨o, j, h⟩
  · obtain ⟨hj, rfl⟩ := sub_get h1
    exact .inl ⟨rf ρ o, _, F.at' o hj, h2, h3⟩
  · exact .inr ⟨_, j, (F.tb1 h).2⟩
/-- What belongs to the others. -/
theorem Fr.other (F : Fr ρ sub σb) (hh : HR w σb ιb Xb) {b : Nat} (h : Own (sub.map some) (subι ρ ιb) b) : (∀ o ob, o ∉ ρ → σb[o]? = some (some ob) → (ιb o).1 ≠ b) ∧ ∀ o k, o ∉ ρ → ¬ Tb σb ιb o k b := by
  rcases h with ⟨j, ob, h1, h2, h3⟩ | ⟨j, k, h⟩
  · obtain ⟨hj, rfl⟩ := sub_get h1
    have hm := rf_mem (ρ := ρ) (j := j) (by rw [F.len]; exact hj)
    refine ⟨fun o ob ho hob e => ?_, fun o k ho ht => ?_⟩
    · have := hh.inj (rf ρ j) o _ ob (F.at' j hj) hob h2 (h3.trans e.symm)
      exact ho (this ▸ hm)
    · exact hh.tob o k b ht (rf ρ j) _ (F.at' j hj) h3
  · obtain ⟨hj, ht⟩ := F.tb1 h
    have hm := rf_mem (ρ := ρ) (j := j) (by rw [F.len]; exact hj)
    refine ⟨fun o ob ho hob e => hh.tob _ _ b ht o ob hob e, fun o k' ho ht' => ?_⟩
    have := (hh.tin _ _ _ _ _ ht ht').1
    exact ho (this ▸ hm)
def subX (Xb : Nat → Prop) (ρ : List Nat) (sub : List AObj) (σb : Heap) (ιb : Place) (b : Nat) : Prop := Xb b ∨ (Own σb ιb b ∧ ¬ Own (sub.map some) (subι ρ ιb) b)
theorem Fr.vr (F : Fr ρ sub σb) {x : PV} {v : Value} (hd : bdV sub.length x = true) (h : VR w σb ιb Xb (renV (rf ρ) x) v) : VR w (sub.map some) (subι ρ ιb) (subX Xb ρ sub σb ιb) x v := by
  have key := VR.ren (w' := w) (σ' := sub.map some) (ι' := subι ρ ιb) (X' := subX Xb ρ sub σb ιb) (r := posN ρ) (D := fun o => ∃ j, j < sub.length ∧ rf ρ j = o)
    (fun b _ hb => ⟨⟨fun ho => hb.1 (F.own1 ho), fun hx => hx.elim hb.2 fun h => hb.1 h.1⟩, rfl⟩)
    (fun o ⟨j, hj, he⟩ _ => by
      have hjr : j < ρ.length := by rw [F.len]; exact hj
      have : posN ρ o = j := by rw [← he, rf_get hjr, posN_get F.nd j hjr]
      rw [this]
      refine ⟨by simpa using hj, fun ob' hob' => ?_⟩
      obtain ⟨_, rfl⟩ := sub_get hob'
      exact ⟨renO (rf ρ) sub[j], by rw [← he]; exact F.at' j hj, by simp [renO], rfl, fun _ => by show ιb (rf ρ j) = _; rw [he]⟩) h
    (dV_ren (D := (· < sub.length)) (fun o ho => ⟨o, ho, rfl⟩) x (dV_bd x hd))
  rwa [renV_inv (D := (· < sub.length)) (fun o ho => by rw [rf_get (by rw [F.len]; exact ho), posN_get F.nd]) x (dV_bd x hd)] at key
theorem Fr.hr (F : Fr ρ sub σb) (hbd : ∀ ob, ob ∈ sub → ∀ x, x ∈ ob.es.flatten → bdV sub.length x = true) (hh : HR w σb ιb Xb) : HR w (sub.map some) (subι ρ ιb) (subX Xb ρ sub σb ιb) where
  obj := fun j ob ho => by
    obtain ⟨hj, rfl⟩ := sub_get ho
    obtain ⟨cur, c1, c2, c3, c4, c5, c6⟩ := hh.obj _ _ (F.at' j hj)
    refine ⟨cur, c1, c2, by have := c3; simp only [renO, List.length_map] at this; exact this, c4, fun e he => ?_, fun k x hx => ?_⟩
    · have := c5 (renL (rf ρ) e) (List.mem_map_of_mem he)
      rw [renL_map] at this
      simpa [renO] using this
    · obtain ⟨v, hv, h1, h2⟩ := c6 k _ (renO_flat_put hx)
      refine ⟨v, hv, F.vr (hbd _ (List.getElem_mem hj) x (List.mem_of_getElem? hx)) h1, fun hox => ?_⟩
      have h3 := h2 (by rw [renV_own]; exact hox)
      rw [renV_of_own hox] at h3
      exact h3.mono (fun b _ hb => ⟨⟨fun ho => hb.1 (F.own1 ho), fun hx => hx.elim hb.2 fun h => hb.1 h.1⟩, rfl⟩) fun b _ => rfl
  inj := fun j k ob ob' h1 h2 h3 h4 => by
    obtain ⟨hj, rfl⟩ := sub_get h1
    obtain ⟨hk, rfl⟩ := sub_get h2
    exact rf_inj F.nd (by rw [F.len]; exact hj) (by rw [F.len]; exact hk) (hh.inj _ _ _ _ (F.at' j hj) (F.at' k hk) h3 h4)
  out := fun j ob h1 hx => by
    obtain ⟨hj, rfl⟩ := sub_get h1
    rcases hx with hx | ⟨ho, hn⟩
    · exact hh.out _ _ (F.at' j hj) hx
    · rcases ho with ⟨o, ob, a1, a2, a3⟩ | ⟨o, k, ht⟩
      · have := hh.inj o (rf ρ j) ob _ a1 (F.at' j hj) a2 a3
        subst this
        rw [F.at' j hj] at a1
        cases a1
        exact hn (.inl ⟨j, _, sub_put hj, a2, rfl⟩)
      · exact hh.tob o k _ ht (rf ρ j) _ (F.at' j hj) rfl
  fro := fun j ob h1 h2 x hx => by
    obtain ⟨hj, rfl⟩ := sub_get h1
    have := hh.fro _ _ (F.at' j hj) h2 (renV (rf ρ) x) (by rw [renO_flat]; exact List.mem_map_of_mem hx)
    rwa [renV_own] at this
  tin := fun o o' j j' b h1 h2 => by
    obtain ⟨a1, b1⟩ := F.tb1 h1
    obtain ⟨a2, b2⟩ := F.tb1 h2
    obtain ⟨e1, e2⟩ := hh.tin _ _ _ _ _ b1 b2
    exact ⟨rf_inj F.nd (by rw [F.len]; exact a1) (by rw [F.len]; exact a2) e1, e2⟩
  tob := fun o j b h1 o' ob' h2 => by
    obtain ⟨a1, b1⟩ := F.tb1 h1
    obtain ⟨hj, rfl⟩ := sub_get h2
    exact hh.tob _ _ _ b1 _ _ (F.at' o' hj)
  tx := fun o j b h1 hx => by
    obtain ⟨a1, b1⟩ := F.tb1 h1
    rcases hx with hx | ⟨_, hn⟩
    · exact hh.tx _ _ _ b1 hx
    · exact hn (.inr ⟨o, j, h1⟩)
/-- What all objects have become. -/
def bigι (ρ : List Nat) (ιb ι' : Place) : Place := ⟨fun o => if ρ.contains o then ι' (posN ρ o) else ιb o, fun o k b => if ρ.contains o then ι'.ft (posN ρ o) k b else ιb.ft o k b⟩
def bigσ (σb : Heap) (ρ : List Nat) (sub' : List AObj) : Heap := putAll σb ρ (sub'.map fun ob => some (renO (rf ρ) ob))
theorem big_at (F : Fr ρ sub σb) {sub' : List AObj} (hl : sub'.length = sub.length) {j : Nat} (hj : j < sub.length) : (bigσ σb ρ sub')[rf ρ j]? = some (some (renO (rf ρ) (sub'[j]'(by omega)))) := by
  have h := putAll_at σb ρ (sub'.map fun ob => some (renO (rf ρ) ob)) F.nd (fun o ho => by
    obtain ⟨k, hk, rfl⟩ := List.getElem_of_mem ho
    have := F.at' k (by rw [← F.len]; exact hk)
    rw [rf_get hk] at this
    exact (List.getElem?_eq_some_iff.1 this).1) j (by rw [F.len]; exact hj) (by simp [hl, hj])
  rw [rf_get (by rw [F.len]; exact hj)]
  unfold bigσ
  rw [h]
  simp
theorem big_other {sub' : List AObj} {o : Nat} (h : o ∉ ρ) : (bigσ σb ρ sub')[o]? = σb[o]? := putAll_other _ _ _ _ h
theorem bigι_at {ι' : Place} (F : Fr ρ sub σb) {j : Nat} (hj : j < sub.length) : bigι ρ ιb ι' (rf ρ j) = ι' j := by
  have hjr : j < ρ.length := by rw [F.len]; exact hj
  have h1 : ρ.contains (rf ρ j) = true := by simpa using rf_mem hjr
  simp only [bigι, h1, if_true]
  rw [rf_get hjr, posN_get F.nd]
theorem bigft_at {ι' : Place} (F : Fr ρ sub σb) {j k b : Nat} (hj : j < sub.length) : (bigι ρ ιb ι').ft (rf ρ j) k b = ι'.ft j k b := by
  have hjr : j < ρ.length := by rw [F.len]; exact hj
  have h1 : ρ.contains (rf ρ j) = true := by simpa using rf_mem hjr
  simp only [bigι, h1, if_true]
  rw [rf_get hjr, posN_get F.nd]
theorem bigι_other {ι' : Place} {o : Nat} (h : o ∉ ρ) : bigι ρ ιb ι' o = ιb o := by
  have h1 : ρ.contains o = false := by simpa using h
  simp only [bigι, h1, Bool.false_eq_true, if_false]
theorem bigft_other {ι' : Place} {o k b : Nat} (h : o ∉ ρ) : (bigι ρ ιb ι').ft o k b = ιb.ft o k b := by
  have h1 : ρ.contains o = false := by simpa using h
  simp only [bigι, h1, Bool.false_eq_true, if_false]
theorem big_cases (F : Fr ρ sub σb) (o : Nat) : (∃ j, j < sub.length ∧ rf ρ j = o) ∨ o ∉ ρ := by
  by_cases h : o ∈ ρ
  · obtain ⟨j, hj, rfl⟩ := List.getElem_of_mem h
    exact .inl ⟨j, by rw [← F.len]; exact hj, rf_get hj⟩
  · exact .inr h
theorem big_tb1 (F : Fr ρ sub σb) {sub' : List AObj} (hl : sub'.length = sub.length) {ι' : Place} {j k b : Nat} (hj : j < sub.length) (h : Tb (bigσ σb ρ sub') (bigι ρ ιb ι') (rf ρ j) k b) : Tb (sub'.map some) ι' j k b := by
  obtain ⟨ob, x, h1, h2, h3, h4⟩ := h
  rw [big_at F hl hj] at h1
  cases h1
  obtain ⟨y, hy, rfl⟩ := renO_flat_get h2
  rw [bigft_at F hj] at h4
  exact ⟨_, y, sub_put (by omega), hy, by rw [renV_own] at h3; exact h3, h4⟩
theorem big_tb2 {sub' : List AObj} {ι' : Place} {o k b : Nat} (ho : o ∉ ρ) (h : Tb (bigσ σb ρ sub') (bigι ρ ιb ι') o k b) : Tb σb ιb o k b := by
  obtain ⟨ob, x, h1, h2, h3, h4⟩ := h
  rw [big_other ho] at h1
  rw [bigft_other ho] at h4
  exact ⟨ob, x, h1, h2, h3, h4⟩
theorem big_own (F : Fr ρ sub σb) {sub' : List AObj} (hl : sub'.length = sub.length) {ι' : Place} {b : Nat} (h : Own (bigσ σb ρ sub') (bigι ρ ιb ι') b) :
    Own (sub'.map some) ι' b ∨ (∃ o ob, o ∉ ρ ∧ σb[o]? = some (some ob) ∧ ob.frz = false ∧ (ιb o).1 = b) ∨ ∃ o k, o ∉ ρ ∧ Tb σb ιb o k b := by
  rcases h with ⟨o, ob, h1, h2, h3⟩ | ⟨o, k, h⟩
  · rcases big_cases F o with ⟨j, hj, rfl⟩ | ho
    · rw [big_at F hl hj] at h1
      cases h1
      rw [bigι_at F hj] at h3
      exact .inl (.inl ⟨j, _, sub_put (by omega), h2, h3⟩)
    · rw [big_other ho] at h1
      rw [bigι_other ho] at h3
      exact .inr (.inl ⟨o, ob, ho, h1, h2, h3⟩)
  · rcases big_cases F o with ⟨j, hj, rfl⟩ | ho
    · exact .inl (.inr ⟨j, k, big_tb1 F hl hj h⟩)
    · exact .inr (.inr ⟨o, k, ho, big_tb2 ho h⟩)
/-- The rule of frames. -/
theorem cs_frame {P : Program} {f : FuncId} {A : List PV} {Q : PV → Heap → Prop} (h : Cs P f A (sub.map some) Q) (F : Fr ρ sub σb) (hbd : ∀ ob, ob ∈ sub → ∀ x, x ∈ ob.es.flatten → bdV sub.length x = true) (hA : bdL sub.length A = true)
    (hQ : ∀ y σ', Q y σ' → ∃ sub' : List AObj, σ' = sub'.map some ∧ sub'.length = sub.length) :
    Cs P f (renL (rf ρ) A) σb fun y σ'' => ∃ y0 sub', Q y0 (sub'.map some) ∧ y = renV (rf ρ) y0 ∧ σ'' = bigσ σb ρ sub' := by
  refine ⟨h.1, fun w ιb Xb vs hh hg hX hl hv => ?_⟩
  have hlt : ∀ b, Own σb ιb b → b < w.heap.size := fun b hb => by
    obtain ⟨c, t, fr, hc⟩ := hh.own_cells hb
    exact (Array.getElem?_eq_some_iff.1 hc).1
  have hv' : VRs w (sub.map some) (subι ρ ιb) (subX Xb ρ sub σb ιb) A vs := by
    refine ⟨by have := hv.1; rw [renL_map] at this; simpa using this, fun j x v hx hu => ?_⟩
    refine F.vr ?_ (hv.2 j (renV (rf ρ) x) v (by rw [renL_map, List.getElem?_map, hx]; rfl) hu)
    have key : ∀ (l : List PV), bdL sub.length l = true → ∀ x, x ∈ l → bdV sub.length x = true := by
      intro l
      induction l with
      | nil => intro _ x hx; cases hx
      | cons y ys ih =>
        intro h x hx
        simp only [bdL, Bool.and_eq_true] at h
        rcases List.mem_cons.1 hx with rfl | hx
        · exact h.1
        · exact ih h.2 x hx
    exact key A hA x (List.mem_of_getElem? hx)
  refine (h.2 w (subι ρ ιb) (subX Xb ρ sub σb ιb) vs (F.hr hbd hh) hg (fun b hb => hb.elim (hX b) fun h => hlt b h.1) (fun b hb => hl b (F.own1 hb)) hv').mono ?_
  rintro e w' ⟨v, ι', y, σ', S, hq, rfl, r1, r2, r3, r4, r5⟩
  obtain ⟨sub', rfl, hl'⟩ := hQ y σ' hq
  -- blocks of the others: as they were
  have oth : ∀ b, b < w.heap.size → ¬ Own (sub.map some) (subι ρ ιb) b → w'.heap[b]? = w.heap[b]? := fun b hb hn => r4.block b hb hn
  have own' : ∀ b, Own (sub'.map some) ι' b → Own (sub.map some) (subι ρ ιb) b ∨ w.heap.size ≤ b := r5.own
  have ob1 : ∀ o ob, o ∉ ρ → σb[o]? = some (some ob) → ¬ Own (sub.map some) (subι ρ ιb) (ιb o).1 := fun o ob ho hob hw => (F.other hh hw).1 o ob ho hob rfl
  have tb1 : ∀ o k b, o ∉ ρ → Tb σb ιb o k b → ¬ Own (sub.map some) (subι ρ ιb) b := fun o k b ho ht hw => (F.other hh hw).2 o k ho ht
  have obl : ∀ o ob, σb[o]? = some (some ob) → (ιb o).1 < w.heap.size := fun o ob ho => by
    obtain ⟨cur, c1, _⟩ := hh.obj o ob ho
    exact (Array.getElem?_eq_some_iff.1 c1).1
  have tbl : ∀ o k b, Tb σb ιb o k b → b < w.heap.size := fun o k b h => hlt b (.inr ⟨o, k, h⟩)
  have hS : ∀ b, S b → ¬ Xb b := fun b hb hx => by
    rcases r3 b hb with h | h
    · rcases h with ⟨j, ob, a1, a2, a3⟩ | ⟨j, k, a1⟩
      · obtain ⟨hj, rfl⟩ := sub_get a1
        exact hh.out _ _ (F.at' j hj) (a3 ▸ hx)
      · exact hh.tx _ _ _ (F.tb1 a1).2 hx
    · have := hX b hx; omega
  -- what is free of the sub-heap's marks is free of the whole's
  have free : ∀ b, (¬ Own (sub'.map some) ι' b ∧ ¬ (subX Xb ρ sub σb ιb b ∨ S b)) → ¬ Own (bigσ σb ρ sub') (bigι ρ ιb ι') b ∧ ¬ (Xb b ∨ S b) := by
    rintro b ⟨h1, h2⟩
    refine ⟨fun ho => ?_, fun hx => h2 (hx.elim (fun h => .inl (.inl h)) .inr)⟩
    rcases big_own F hl' ho with h | ⟨o, ob, a1, a2, a3, rfl⟩ | ⟨o, k, a1, a2⟩
    · exact h1 h
    · exact h2 (.inl (.inr ⟨.inl ⟨o, ob, a2, a3, rfl⟩, ob1 o ob a1 a2⟩))
    · exact h2 (.inl (.inr ⟨.inr ⟨o, k, a2⟩, tb1 o k b a1 a2⟩))
  -- .. and what was free of the whole's marks still is
  have free2 : ∀ b, b < w.heap.size → (¬ Own σb ιb b ∧ ¬ Xb b) → (¬ Own (bigσ σb ρ sub') (bigι ρ ιb ι') b ∧ ¬ (Xb b ∨ S b)) ∧ w'.heap[b]? = w.heap[b]? := by
    rintro b hb ⟨h1, h2⟩
    refine ⟨⟨fun ho => ?_, fun hx => hx.elim h2 fun h => ?_⟩, oth b hb fun h => h1 (F.own1 h)⟩
    · rcases big_own F hl' ho with h | ⟨o, ob, a1, a2, a3, rfl⟩ | ⟨o, k, a1, a2⟩
      · rcases own' b h with h | h
        · exact h1 (F.own1 h)
        · omega
      · exact h1 (.inl ⟨o, ob, a2, a3, rfl⟩)
      · exact h1 (.inr ⟨o, k, a2⟩)
    · rcases r3 b h with h | h
      · exact h1 (F.own1 h)
      · omega
  have len : (bigσ σb ρ sub').length = σb.length := putAll_len _ _ _
  have evo : Evo w σb ιb (bigσ σb ρ sub') (bigι ρ ιb ι') := by
    refine ⟨by rw [len]; exact Nat.le_refl _, fun o ho ob' hob' => ?_, fun b hb => ?_⟩
    · rcases big_cases F o with ⟨j, hj, rfl⟩ | hno
      · rw [big_at F hl' hj] at hob'
        cases hob'
        obtain ⟨ob, e1, e2, e3, e4, e5, e6⟩ := r5.obj j (by simpa using hj) _ (sub_put (sub := sub') (by omega))
        obtain ⟨_, rfl⟩ := sub_get e1
        refine ⟨_, F.at' j hj, e2, e3, by simpa [renO] using e4, fun he => ?_, e6⟩
        rw [bigι_at F hj]
        exact e5 (by simpa [renO] using he)
      · rw [big_other hno] at hob'
        exact ⟨ob', hob', rfl, rfl, Nat.le_refl _, fun _ => bigι_other hno, fun h => h⟩
    · rcases big_own F hl' hb with h | ⟨o, ob, a1, a2, a3, rfl⟩ | ⟨o, k, a1, a2⟩
      · rcases own' b h with h | h
        · exact .inl (F.own1 h)
        · exact .inr h
      · exact .inl (.inl ⟨o, ob, a2, a3, rfl⟩)
      · exact .inl (.inr ⟨o, k, a2⟩)
  -- values of the callee's world
  have up : ∀ {x : PV} {v : Value}, VR w' (sub'.map some) ι' (fun b => subX Xb ρ sub σb ιb b ∨ S b) x v → VR w' (bigσ σb ρ sub') (bigι ρ ιb ι') (fun b => Xb b ∨ S b) (renV (rf ρ) x) v := by
    intro x v hx
    have dall : ∀ {x : PV} {v : Value}, VR w' (sub'.map some) ι' (fun b => subX Xb ρ sub σb ιb b ∨ S b) x v → dV (· < sub.length) x := by
      have dl : ∀ (cs : List PV) (vs : List Value), cs.length = vs.length → (∀ (j : Nat) (x : PV) (v : Value), cs[j]? = some x → vs[j]? = some v → dV (· < sub.length) x) → dL (· < sub.length) cs := by
        intro cs vs hl ih
        have : ∀ (l : List PV), (∀ x, x ∈ l → dV (· < sub.length) x) → dL (· < sub.length) l := by
          intro l
          induction l with
          | nil => intro _; trivial
          | cons y ys ih => exact fun h => ⟨h y (by simp), ih fun x hx => h x (by simp [hx])⟩
        refine this cs fun x hx => ?_
        obtain ⟨j, hj, rfl⟩ := List.getElem_of_mem hx
        exact ih j _ (vs[j]'(by omega)) (List.getElem?_eq_getElem hj) (List.getElem?_eq_getElem (by omega))
      have di : ∀ {x : PV} {v : Value}, IR w' (fun b => ¬ Own (sub'.map some) ι' b ∧ ¬ (subX Xb ρ sub σb ιb b ∨ S b)) x v → dV (· < sub.length) x := by
        intro x v h
        induction h with
        | fn f cs vs hl hr ih => exact dl cs vs hl ih
        | agg cs vs hl hr ih => exact dl cs vs hl ih
        | tup cs vs hl hr ih => exact dl cs vs hl ih
        | _ => trivial
      intro x v h
      induction h with
      | im x v h => exact di h
      | ptr o ep i off v ho hs h => show o < sub.length; simp at ho; omega
      | ref o ep lo len cap v ho hs h => show o < sub.length; simp at ho; omega
      | fn f cs vs hl hr ih => exact dl cs vs hl ih
      | agg cs vs hl hr ih => exact dl cs vs hl ih
      | tup cs vs hl hr ih => exact dl cs vs hl ih
      | undef v => trivial
      | own es n sz ty lim v => trivial
    refine VR.ren (D := (· < sub.length)) (fun b _ hb => ⟨free b hb, rfl⟩) (fun o ho _ => ?_) hx (dall hx)
    have h1 := big_at (σb := σb) F hl' ho
    refine ⟨(List.getElem?_eq_some_iff.1 h1).1, fun ob' hob' => ?_⟩
    rw [h1] at hob'
    cases hob'
    exact ⟨sub'[o]'(by omega), sub_put (by omega), by simp [renO], rfl, fun _ => bigι_at F ho⟩
  refine ⟨v, bigι ρ ιb ι', renV (rf ρ) y, bigσ σb ρ sub', S, ⟨y, sub', hq, rfl, rfl⟩, rfl, ?_, ?_, fun b hb => (r3 b hb).imp (fun h => F.own1 h) fun h => h, ⟨r4.os, r4.tape, r4.output, r4.size, fun b hb hn => r4.block b hb fun h => hn (F.own1 h), r4.shape, fun b hb ho => hh.own_cells ho⟩, evo⟩
  · refine ⟨fun o ob ho => ?_, fun o o' ob ob' h1 h2 h3 h4 => ?_, fun o ob h1 hx => ?_, fun o ob h1 h2 => ?_, fun o o' j j' b h1 h2 => ?_, fun o j b h1 o' ob' h2 h3 => ?_, fun o j b h1 hx => ?_⟩
    · rcases big_cases F o with ⟨j, hj, rfl⟩ | hno
      · rw [big_at F hl' hj] at ho
        cases ho
        obtain ⟨cur, c1, c2, c3, c4, c5, c6⟩ := r1.obj j _ (sub_put (sub := sub') (by omega))
        rw [bigι_at F hj]
        refine ⟨cur, c1, c2, by simpa [renO] using c3, c4, fun e he => ?_, fun k x hx => ?_⟩
        · simp only [renO, List.mem_map] at he
          obtain ⟨e', he', rfl⟩ := he
          rw [renL_map, List.length_map]
          exact c5 e' he'
        · obtain ⟨y', hy', rfl⟩ := renO_flat_get hx
          obtain ⟨u, hu, g1, g2⟩ := c6 k y' hy'
          refine ⟨u, hu, up g1, fun hox => ?_⟩
          rw [renV_own] at hox
          have g3 := g2 hox
          rw [renV_of_own hox]
          have : (bigι ρ ιb ι').ft (rf ρ j) k = ι'.ft j k := by funext b; exact propext (by rw [bigft_at F hj])
          rw [this]
          exact g3.mono (fun b _ hb => ⟨free b hb, rfl⟩) fun b _ => rfl
      · rw [big_other hno] at ho
        obtain ⟨cur, c1, c2, c3, c4, c5, c6⟩ := hh.obj o ob ho
        rw [bigι_other hno]
        refine ⟨cur, by rw [oth _ (obl o ob ho) (ob1 o ob hno ho)]; exact c1, c2, c3, c4, c5, fun k x hx => ?_⟩
        obtain ⟨u, hu, g1, g2⟩ := c6 k x hx
        refine ⟨u, hu, ?_, fun hox => ?_⟩
        · have g := VR.ren (r := fun o => o) (D := fun _ => True) (w' := w') (σ' := bigσ σb ρ sub') (ι' := bigι ρ ιb ι') (X' := fun b => Xb b ∨ S b) free2 (fun o _ ho => ⟨by rw [len]; exact ho, fun ob' hob' => by
            obtain ⟨ob, e1, e2, _, e4, e5, _⟩ := evo.obj o ho ob' hob'
            exact ⟨ob, e1, e4, e2, e5⟩⟩) g1 (dV_true x)
          rwa [renV_id] at g
        · have : (bigι ρ ιb ι').ft o k = ιb.ft o k := by funext b; exact propext (by rw [bigft_other hno])
          rw [this]
          exact (g2 hox).mono free2 fun b hb => by
            have ht : Tb σb ιb o k b := ⟨ob, x, ho, hx, hox, hb⟩
            exact oth b (tbl o k b ht) (tb1 o k b hno ht)
    · rcases big_cases F o with ⟨j, hj, rfl⟩ | hno
      · rw [big_at F hl' hj] at h1
        cases h1
        rw [bigι_at F hj] at h4
        have hw : Own (sub'.map some) ι' (ι' j).1 := .inl ⟨j, _, sub_put (by omega), h3, rfl⟩
        rcases big_cases F o' with ⟨j', hj', rfl⟩ | hno'
        · rw [big_at F hl' hj'] at h2
          cases h2
          rw [bigι_at F hj'] at h4
          rw [r1.inj j j' _ _ (sub_put (by omega)) (sub_put (by omega)) h3 h4]
        · rw [big_other hno'] at h2
          rw [bigι_other hno'] at h4
          exfalso
          rcases own' _ hw with h | h
          · rw [h4] at h; exact ob1 o' ob' hno' h2 h
          · have := obl o' ob' h2; omega
      · rw [big_other hno] at h1
        rw [bigι_other hno] at h4
        rcases big_cases F o' with ⟨j', hj', rfl⟩ | hno'
        · rw [big_at F hl' hj'] at h2
          cases h2
          rw [bigι_at F hj'] at h4
          exfalso
          exact r1.out j' _ (sub_put (by omega)) (.inl (h4 ▸ .inr ⟨.inl ⟨o, ob, h1, h3, rfl⟩, ob1 o ob hno h1⟩))
        · rw [big_other hno'] at h2
          rw [bigι_other hno'] at h4
          exact hh.inj o o' ob ob' h1 h2 h3 h4
    · rcases big_cases F o with ⟨j, hj, rfl⟩ | hno
      · rw [bigι_at F hj] at hx
        exact r1.out j _ (sub_put (by omega)) (hx.elim (fun h => .inl (.inl h)) .inr)
      · rw [big_other hno] at h1
        rw [bigι_other hno] at hx
        rcases hx with hx | hx
        · exact hh.out o ob h1 hx
        · rcases r3 _ hx with h | h
          · exact ob1 o ob hno h1 h
          · have := obl o ob h1; omega
    · rcases big_cases F o with ⟨j, hj, rfl⟩ | hno
      · rw [big_at F hl' hj] at h1
        cases h1
        intro x hx
        rw [renO_flat] at hx
        obtain ⟨y', hy', rfl⟩ := List.mem_map.1 hx
        rw [renV_own]
        exact r1.fro j _ (sub_put (by omega)) h2 y' hy'
      · rw [big_other hno] at h1
        exact hh.fro o ob h1 h2
    · have cross : ∀ {o o' k k' b}, (∃ j, j < sub.length ∧ rf ρ j = o) → o' ∉ ρ → Tb (bigσ σb ρ sub') (bigι ρ ιb ι') o k b → Tb (bigσ σb ρ sub') (bigι ρ ιb ι') o' k' b → False := by
        rintro o o' k k' b ⟨j, hj, rfl⟩ hno h1 h2
        have a1 := big_tb1 F hl' hj h1
        have a2 := big_tb2 hno h2
        rcases own' b (.inr ⟨j, k, a1⟩) with h | h
        · exact tb1 o' k' b hno a2 h
        · have := tbl o' k' b a2; omega
      rcases big_cases F o with hj | hno
      · rcases big_cases F o' with hj' | hno'
        · obtain ⟨k, hk, rfl⟩ := hj
          obtain ⟨k', hk', rfl⟩ := hj'
          obtain ⟨e1, e2⟩ := r1.tin _ _ _ _ _ (big_tb1 F hl' hk h1) (big_tb1 F hl' hk' h2)
          exact ⟨by rw [e1], e2⟩
        · exact (cross hj hno' h1 h2).elim
      · rcases big_cases F o' with hj' | hno'
        · exact (cross hj' hno h2 h1).elim
        · exact hh.tin _ _ _ _ _ (big_tb2 hno h1) (big_tb2 hno' h2)
    · rcases big_cases F o with ⟨k, hk, rfl⟩ | hno
      · have a1 := big_tb1 F hl' hk h1
        rcases big_cases F o' with ⟨k', hk', rfl⟩ | hno'
        · rw [big_at F hl' hk'] at h2
          rw [bigι_at F hk'] at h3
          exact r1.tob _ _ _ a1 k' _ (sub_put (by omega)) h3
        · rw [big_other hno'] at h2
          rw [bigι_other hno'] at h3
          rcases own' b (.inr ⟨k, j, a1⟩) with h | h
          · rw [← h3] at h; exact ob1 o' ob' hno' h2 h
          · have := obl o' ob' h2; omega
      · have a1 := big_tb2 hno h1
        rcases big_cases F o' with ⟨k', hk', rfl⟩ | hno'
        · rw [bigι_at F hk'] at h3
          exact r1.out k' _ (sub_put (by omega)) (.inl (h3 ▸ .inr ⟨.inr ⟨o, j, a1⟩, tb1 o j b hno a1⟩))
        · rw [big_other hno'] at h2
          rw [bigι_other hno'] at h3
          exact hh.tob _ _ _ a1 o' ob' h2 h3
    · rcases big_cases F o with ⟨k, hk, rfl⟩ | hno
      · exact r1.tx _ _ _ (big_tb1 F hl' hk h1) (hx.elim (fun h => .inl (.inl h)) .inr)
      · have a1 := big_tb2 hno h1
        rcases hx with hx | hx
        · exact hh.tx _ _ _ a1 hx
        · rcases r3 b hx with h | h
          · exact tb1 o j b hno a1 h
          · have := tbl o j b a1; omega
  · have rv : ∀ {y : PV} {v : Value} {S' : Nat → Prop}, RV w' (sub'.map some) ι' (fun b => subX Xb ρ sub σb ιb b ∨ S b) y v S' → RV w' (bigσ σb ρ sub') (bigι ρ ιb ι') (fun b => Xb b ∨ S b) (renV (rf ρ) y) v S' := by
      intro y v S' h
      induction h with
      | vr x v S hx h hS => exact .vr _ v S (by rw [renV_noOwn]; exact hx) (up h) hS
      | tr x v S hx h =>
        rw [renV_of_own hx]
        exact .tr x v S hx (h.mono (fun b _ hb => ⟨free b hb, rfl⟩) fun b _ => rfl)
      | agg cs vs S T hl hr hS hd ih =>
        refine .agg _ vs S T (by rw [renL_map]; simpa using hl) (fun j x v hx hv => ?_) (fun b => by rw [hS b, renL_map, List.length_map]) (fun j j' b hj hj' => hd j j' b (by rw [renL_map] at hj; simpa using hj) (by rw [renL_map] at hj'; simpa using hj'))
        rw [renL_map, List.getElem?_map, Option.map_eq_some_iff] at hx
        obtain ⟨z, hz, rfl⟩ := hx
        exact ih j z v hz hv
      | tup cs vs S T hl hr hS hd ih =>
        refine .tup _ vs S T (by rw [renL_map]; simpa using hl) (fun j x v hx hv => ?_) (fun b => by rw [hS b, renL_map, List.length_map]) (fun j j' b hj hj' => hd j j' b (by rw [renL_map] at hj; simpa using hj) (by rw [renL_map] at hj'; simpa using hj'))
        rw [renL_map, List.getElem?_map, Option.map_eq_some_iff] at hx
        obtain ⟨z, hz, rfl⟩ := hx
        exact ih j z v hz hv
    exact rv r2
end
end Go.Mach

/- Functions that work on one object of their caller's. -/
namespace Go.Mach
open Go
set_option linter.unusedVariables false
set_option linter.unusedSimpArgs false

mutual
theorem take_pure (m : Nat) (σ : Heap) : ∀ (x : PV), pureV x = true → takeV m σ x = some (x, σ)
  | .agg cs, h => by simp only [takeV]; rw [takeL_pure m σ cs (by simpa [pureV] using h)]; rfl
  | .tup cs, h => by simp only [takeV]; rw [takeL_pure m σ cs (by simpa [pureV] using h)]; rfl
  | .fn f cs, h => by simp only [takeV]; rw [if_pos h]
  | .bool _, _ | .int _ _, _ | .str _, _ | .nilp, _ | .iptr _, _ | .imm .., _ | .nilfn, _ | .nilif, _ | .someif, _ => rfl
  | .ptr .., h | .ref .., h | .own .., h | .undef, h => by simp [pureV] at h
theorem takeL_pure (m : Nat) (σ : Heap) : ∀ (l : List PV), pureL l = true → takeL m σ l = some (l, σ)
  | [], _ => rfl
  | x :: xs, h => by
    simp only [pureL, Bool.and_eq_true] at h
    simp only [takeL, take_pure m σ x h.1, takeL_pure m σ xs h.2]
    rfl
end
mutual
theorem renV_pure (r : Nat → Nat) : ∀ (x : PV), pureV x = true → renV r x = x
  | .agg cs, h => by simp only [renV]; rw [renL_pure r cs (by simpa [pureV] using h)]
  | .tup cs, h => by simp only [renV]; rw [renL_pure r cs (by simpa [pureV] using h)]
  | .fn f cs, h => by simp only [renV]; rw [renL_pure r cs (by simpa [pureV] using h)]
  | .bool _, _ | .int _ _, _ | .str _, _ | .nilp, _ | .iptr _, _ | .imm .., _ | .nilfn, _ | .nilif, _ | .someif, _ => rfl
  | .ptr .., h | .ref .., h | .own .., h | .undef, h => by simp [pureV] at h
theorem renL_pure (r : Nat → Nat) : ∀ (l : List PV), pureL l = true → renL r l = l
  | [], _ => rfl
  | x :: xs, h => by
    simp only [pureL, Bool.and_eq_true] at h
    simp only [renL, renV_pure r x h.1, renL_pure r xs h.2]
end
theorem snapV_pure {σ : Heap} {m n : Nat} {x : PV} (h : pureV x = true) : snapV σ m n x = some x := by
  cases n <;> simp [snapV, h]
theorem mapO_pure {σ : Heap} {m n : Nat} : ∀ {l : List PV}, pureL l = true → mapO (fun y => if isOwn y then some (unown y) else snapV σ m n y) l = some l
  | [], _ => rfl
  | x :: xs, h => by
    simp only [pureL, Bool.and_eq_true] at h
    have h1 : isOwn x = false := by cases x <;> first | rfl | simp [pureV] at h
    simp only [mapO, h1, mapO_pure h.2, snapV_pure h.1, Bool.false_eq_true, if_false]
/-- A closure that knows one object of its maker's, handed on with a plain value ahead of it. -/
theorem snap_clo {σ : Heap} {x : PV} {g : FuncId} {o ep i off : Nat} {ob : AObj} {e : List PV} (hx : pureV x = true) (ho : σ[o]? = some (some ob)) (hep : ob.es.length = ep) (he : ob.es[i]? = some e) (hp : pureL e = true) :
    snapL σ 3 (([x, .fn g [.ptr o ep i off]] ++ []).map (frzV σ)) = some [x, .fn g [.iptr (e.drop off)]] := by
  have h1 : snapV σ 0 2 (.ptr o ep i off) = some (.iptr (e.drop off)) := by
    have : snapV σ 0 2 (.ptr o ep i off) = match σ[o]? with
      | some (some ob) => if 0 ≤ o ∧ ob.es.length = ep then match ob.es[i]? with
        | some e => (mapO (fun y => if isOwn y then some (unown y) else snapV σ 0 1 y) e).map fun l => .iptr (l.drop off)
        | none => none
        else none
      | _ => none := rfl
    rw [this, ho]
    simp only [hep, he, Nat.zero_le, true_and, if_true]
    rw [mapO_pure hp]
    rfl
  have h2 : snapV σ 0 3 (.fn g [.ptr o ep i off]) = some (.fn g [.iptr (e.drop off)]) := by
    have : snapV σ 0 3 (.fn g [.ptr o ep i off]) = (mapO (snapV σ 0 2) [.ptr o ep i off]).map (.fn g) := rfl
    rw [this]
    simp only [mapO, h1]
    rfl
  have h3 : frzV σ x = x := frzV_pure hx
  have h4 : frzV σ (.fn g [.ptr o ep i off]) = .fn g [.ptr o ep i off] := rfl
  simp only [List.append_nil, List.map_cons, List.map_nil, h3, h4, snapL, mapO, snapV_pure hx, h2]
/-- A call that works on the object 0, and on no other. -/
def Cx1 (P : Program) (f : FuncId) (A : List PV) (ob : AObj) (Q : PV → AObj → Prop) : Prop := Cs P f A [some ob] fun y σ' => ∃ ob', σ' = [some ob'] ∧ Q y ob'
section
variable {P : Program} {f : FuncId} {fn : Func} {mf : MF} {k : K} {st : St} {d : Option Nat} {os : List MOper}
theorem cx1_of_run (hF : Fit P f fn mf) {A : List PV} {ob : AObj} {Q : PV → AObj → Prop} (hn : A.length ≤ mf.n) (hA : noOwnL A = true)
    (h : deepL A → deepH [some ob] → Run P mf.body (.done (endS [some ob] mf.rs fun y σ' => ∃ ob', σ' = [some ob'] ∧ Q y ob')) (entry A [some ob])) : Cx1 P f A ob Q := cs_of_run hF hn hA h
theorem end_cx1 {ns : List MR} {Q : PV → AObj → Prop} {ob : AObj} {e : MExit} (vs : List PV) (ob' : AObj) (he : ∀ i, e ≠ .exit i) (hr : resL st ns = some vs) (hp : pureV (ret1 vs) = true) (hσ : st.σ[0]? = some (some ob')) (hok : okO 1 (some ob') = true)
    (hq : Q (ret1 vs) ob') : endS [some ob] ns (fun y σ' => ∃ ob', σ' = [some ob'] ∧ Q y ob') e st := by
  have ht : takeV 1 st.σ (ret1 vs) = some (ret1 vs, st.σ) := take_pure 1 st.σ _ hp
  have h : ∃ vs gs σ1 r σ', resL st ns = some vs ∧ gops gs st.σ = some σ1 ∧ takeV σ'.length σ1 (ret1 vs) = some r ∧ CutTo [some ob] r.2 σ'.length σ' ∧ ∃ ob', σ' = [some ob'] ∧ Q r.1 ob' := by
    refine ⟨vs, [], st.σ, (ret1 vs, st.σ), [some ob'], hr, rfl, ht, ⟨rfl, Nat.le_refl _, ?_, fun o ho => ?_⟩, ob', rfl, hq⟩
    · exact (List.getElem?_eq_some_iff.1 hσ).1
    · have : o = 0 := by simp at ho; exact ho
      subst this
      exact .inr (.inr ⟨ob', hσ, rfl, hok⟩)
  cases e with
  | exit i => exact absurd rfl (he i)
  | normal => exact h
  | ret => exact h
theorem stp_cx1 {cs A A' : List PV} {ob : AObj} {Q : PV → AObj → Prop} (o : Nat) (h : Cx1 P f A ob Q) (hσ : st.σ[o]? = some (some (renO (rf [o]) ob))) (hA : (A' ++ cs).map (frzV st.σ) = renL (rf [o]) A)
    (hb : bdL 1 A = true ∧ ∀ x, x ∈ ob.es.flatten → bdV 1 x = true) (hy : ∀ y ob', Q y ob' → noOwnV y = true)
    (hk : ∀ y ob', Q y ob' → Ops P os k ((st.withσ (st.σ.set o (some (renO (rf [o]) ob')))).putO d (renV (rf [o]) y))) : Stp P (.call (.fn f cs) A') d os k st := by
  have F : Fr [o] [ob] st.σ := ⟨rfl, by simp, fun j hj => by
    have : j = 0 := by simp at hj; exact hj
    subst this
    exact hσ⟩
  have h2 := cs_frame (ρ := [o]) (sub := [ob]) h F (fun ob' ho x hx => by
    have : ob' = ob := by simpa using ho
    subst this
    exact hb.2 x hx) hb.1 (fun y σ' ⟨ob', h1, _⟩ => ⟨[ob'], by simp [h1], rfl⟩)
  refine call_cs (A := A') (cs := cs) false (by rw [hA]; exact h2) ?_
  rintro y σ' ⟨y0, sub', ⟨ob', h3, h4⟩, rfl, rfl⟩
  have h5 : sub' = [ob'] := by
    cases sub' with
    | nil => simp at h3
    | cons a l => simp at h3; simp [h3]
  subst h5
  have h6 : bigσ st.σ [o] [ob'] = st.σ.set o (some (renO (rf [o]) ob')) := rfl
  rw [took_plain (by rw [renV_noOwn]; exact hy y0 ob' h4), h6]
  exact hk y0 ob' h4
end
end Go.Mach

/- Lists of the caller's own, handed on to be read. -/
namespace Go.Mach
open Go
set_option linter.unusedVariables false
set_option linter.unusedSimpArgs false

theorem mapO_all {σ : Heap} {m n : Nat} : ∀ {es : List (List PV)}, (∀ e, e ∈ es → pureL e = true) → mapO (mapO fun y => if isOwn y then some (unown y) else snapV σ m n y) es = some es
  | [], _ => rfl
  | e :: es, h => by
    have h1 := mapO_all (σ := σ) (m := m) (n := n) (es := es) fun e' h' => h e' (List.mem_cons_of_mem _ h')
    simp only [mapO, h1, mapO_pure (h e (by simp))]
theorem mapO_snap_pure {σ : Heap} {m n : Nat} : ∀ {l : List PV}, pureL l = true → mapO (snapV σ m n) l = some l
  | [], _ => rfl
  | x :: xs, h => by
    simp only [pureL, Bool.and_eq_true] at h
    simp only [mapO, mapO_snap_pure h.2, snapV_pure h.1]
theorem snapV_ref {σ : Heap} {o n : Nat} {ob : AObj} (ho : σ[o]? = some (some ob)) (hn : ob.es.length = n) (hp : ∀ e, e ∈ ob.es → pureL e = true) : snapV σ 0 3 (.ref o n 0 n none) = some (.imm ob.es [] false) := by
  have : snapV σ 0 3 (.ref o n 0 n none) = match σ[o]? with
    | some (some ob) => if 0 ≤ o ∧ ob.es.length = n then (mapO (mapO fun y => if isOwn y then some (unown y) else snapV σ 0 2 y) ob.es).map fun es => snapE es 0 n none else none
    | _ => none := rfl
  rw [this, ho]
  simp only [hn, Nat.zero_le, true_and, if_true]
  rw [mapO_all hp]
  subst hn
  simp [snapE, snapSp]
/-- A list of the caller's own, and plain values behind it. -/
theorem snap_whole {σ : Heap} {o n sz : Nat} {ty : TypeId} {arr : Bool} {es : List (List PV)} {rest : List PV} (ho : σ[o]? = some (some ⟨es, sz, ty, arr, false⟩)) (hn : es.length = n) (hp : ∀ e, e ∈ es → pureL e = true) (hr : pureL rest = true) :
    snapL σ 3 (((PV.ref o n 0 n none :: rest) ++ []).map (frzV σ)) = some (PV.imm es [] false :: rest) := by
  have h1 : frzV σ (.ref o n 0 n none) = .ref o n 0 n none := by
    simp only [frzV, ho, Bool.false_eq_true, false_and, if_false]
  have h2 : mapO (snapV σ 0 3) rest = some rest := mapO_snap_pure hr
  have h3 := snapV_ref (ob := ⟨es, sz, ty, arr, false⟩) ho hn hp
  simp only [List.append_nil, List.map_cons, h1, frzL_pure hr, snapL, mapO, h2, h3]
end Go.Mach

/- Lists that are made whole and then filled. -/
namespace Go.Mach
open Go
set_option linter.unusedVariables false
set_option linter.unusedSimpArgs false

def bldE (A : List (List PV)) (c : Nat) (z : List PV) (i : Nat) : List (List PV) := A.take i ++ List.replicate (c - i) z
def bldF (A : List (List PV)) (r : Nat) (z y : List PV) (j : Nat) : List (List PV) := A ++ List.replicate j y ++ List.replicate (r - j) z
section
variable {A : List (List PV)} {c r i j : Nat} {z y : List PV}
theorem bldE_zero : bldE A c z 0 = List.replicate c z := by simp [bldE]
theorem bldE_len (hi : i ≤ A.length) (hc : A.length ≤ c) : (bldE A c z i).length = c := by simp [bldE]; omega
theorem bldE_get (hi : i < A.length) (hc : A.length ≤ c) : (bldE A c z i)[i]? = some z := by
  unfold bldE
  rw [List.getElem?_append_right (by simp; omega), List.length_take, Nat.min_eq_left (by omega), Nat.sub_self, List.getElem?_replicate, if_pos (by omega)]
theorem bldE_set (hi : i < A.length) (hc : A.length ≤ c) : (bldE A c z i).set i A[i] = bldE A c z (i + 1) := by
  unfold bldE
  obtain ⟨m, hm⟩ : ∃ m, c - i = m + 1 := ⟨c - i - 1, by omega⟩
  have hm2 : c - (i + 1) = m := by omega
  rw [hm, hm2, List.replicate_succ, List.set_append_right _ _ (by simp; omega), List.length_take, Nat.min_eq_left (by omega), Nat.sub_self, List.set_cons_zero, List.take_add_one, List.getElem?_eq_getElem hi]
  show _ = (A.take i ++ [A[i]]) ++ _
  rw [List.append_assoc]
  rfl
theorem bld_bd {l : List (List PV)} (h : ∀ e, e ∈ l → pureL e = true) (m : Nat) : (l.all fun e => e.all (bdV m)) = true := bd_pures h
theorem bldE_pure (hA : ∀ e, e ∈ A → pureL e = true) (hz : pureL z = true) : ∀ e, e ∈ bldE A c z i → pureL e = true := by
  intro e he
  rcases List.mem_append.1 he with he | he
  · exact hA e (List.mem_of_mem_take he)
  · rw [List.eq_of_mem_replicate he]; exact hz
theorem bldF_zero (hc : c = A.length + r) : bldF A r z y 0 = bldE A c z A.length := by simp [bldE, bldF, hc]
theorem bldF_len (hj : j ≤ r) : (bldF A r z y j).length = A.length + r := by simp [bldF]; omega
theorem bldF_get (hj : j < r) : (bldF A r z y j)[A.length + j]? = some z := by
  unfold bldF
  rw [List.getElem?_append_right (by simp), List.length_append, List.length_replicate, Nat.sub_self, List.getElem?_replicate, if_pos (by omega)]
theorem bldF_set (hj : j < r) : (bldF A r z y j).set (A.length + j) y = bldF A r z y (j + 1) := by
  unfold bldF
  obtain ⟨m, hm⟩ : ∃ m, r - j = m + 1 := ⟨r - j - 1, by omega⟩
  have hm2 : r - (j + 1) = m := by omega
  rw [hm, hm2, List.replicate_succ, List.set_append_right _ _ (by simp), List.length_append, List.length_replicate, Nat.sub_self, List.set_cons_zero]
  rw [show List.replicate (j + 1) y = List.replicate j y ++ [y] by rw [List.replicate_succ']]
  simp
theorem bldF_pure (hA : ∀ e, e ∈ A → pureL e = true) (hz : pureL z = true) (hy : pureL y = true) : ∀ e, e ∈ bldF A r z y j → pureL e = true := by
  intro e he
  rcases List.mem_append.1 he with he | he
  · rcases List.mem_append.1 he with he | he
    · exact hA e he
    · rw [List.eq_of_mem_replicate he]; exact hy
  · rw [List.eq_of_mem_replicate he]; exact hz
theorem bldF_full : bldF A r z y r = A ++ List.replicate r y := by simp [bldF]
end
/-- The end of a function that hands back a list that it made, to be read only. -/
theorem end_ref {t k c : Nat} {es : List (List PV)} {sz : Nat} {ty : TypeId} {arr frz : Bool} {o : Nat} {Q : PV → Prop} {e : MExit} {st : St} (he : ∀ i, e ≠ .exit i) (ht : st.τ t = .ref o c 0 k (some c)) (ho : st.σ[o]? = some (some ⟨es, sz, ty, arr, frz⟩))
    (hl : es.length = c) (hp : ∀ e, e ∈ es → pureL e = true) (hq : Q (.imm (es.take k) (es.drop k) true)) : endP [.t t] Q e st := by
  refine end_snap 3 _ he ?_ hq
  rw [ht]
  have : snapV st.σ 0 3 (.ref o c 0 k (some c)) = match st.σ[o]? with
    | some (some ob) => if 0 ≤ o ∧ ob.es.length = c then (mapO (mapO fun y => if isOwn y then some (unown y) else snapV st.σ 0 2 y) ob.es).map fun es => snapE es 0 k (some c) else none
    | _ => none := rfl
  rw [this, ho]
  simp only [hl, Nat.zero_le, true_and, if_true]
  rw [mapO_all hp]
  subst hl
  simp [snapE, snapSp]
theorem end_snapG {ns : List MR} {Q : PV → Prop} {e : MExit} {st : St} (d : Nat) (vs : List PV) (r : PV) (he : ∀ i, e ≠ .exit i) (hr : resL st ns = some vs) (hs : snapV st.σ 0 d (ret1 vs) = some r) (hq : Q r) : endP ns Q e st := by
  have h : ∃ vs d r, resL st ns = some vs ∧ snapV st.σ 0 d (ret1 vs) = some r ∧ Q r := ⟨vs, d, r, hr, hs, hq⟩
  cases e with
  | exit i => exact absurd rfl (he i)
  | normal => exact h
  | ret => exact h
end Go.Mach

/- What an argument reads as: slices, structs and strings of any program. -/
namespace Go.Mach
open Go
set_option linter.unusedVariables false
set_option linter.unusedSimpArgs false

theorem pick_list {α : Type} {R : Nat → α → Prop} : ∀ (n : Nat), (∀ i, i < n → ∃ x, R i x) → ∃ l : List α, l.length = n ∧ ∀ i (h : i < l.length), R i l[i]
  | 0, _ => ⟨[], rfl, fun i h => by simp at h⟩
  | n + 1, h => by
    obtain ⟨l, h1, h2⟩ := pick_list n fun i hi => h i (by omega)
    obtain ⟨x, hx⟩ := h n (by omega)
    refine ⟨l ++ [x], by simp [h1], fun i hi => ?_⟩
    by_cases h3 : i < l.length
    · rw [List.getElem_append_left h3]; exact h2 i h3
    · have : i = l.length := by simp at hi; omega
      subst this
      rw [List.getElem_append_right (Nat.le_refl _)]
      simp
      rw [h1]
      exact hx

section
variable {H : Type} {enc : TypeId × Value → H} {P : Program} {w : World}
abbrev Trd (enc : TypeId × Value → H) (P : Program) (w : World) (fuel : Nat) (t : TypeId) (cs : List Value) : Prop := ∃ d pl, DataW.trod enc P w 0 (fun _ => true) true fuel t cs = some (d, pl)
abbrev Rd (w : World) (xs : List PV) (cs : List Value) : Prop := IRs w (fun _ => True) xs cs

theorem rd_str {fuel : Nat} {t : TypeId} {cs : List Value} (hu : P.underlying t = some .string) (h : Trd enc P w fuel t cs) : ∃ s : List UInt8, Rd w [.str s] cs := by
  obtain ⟨d, pl, h⟩ := h
  cases fuel with
  | zero => simp [DataW.trod] at h
  | succ n =>
    unfold DataW.trod at h
    rw [hu] at h
    split at h <;> first | (simp_all; done) | skip
    rename_i s he
    split at h
    · rename_i hs
      refine ⟨s.data.toList, .one ?_⟩
      have : (Value.string s) = .string ⟨s.data.toList.toArray⟩ := by cases s; simp
      rw [this]
      refine .str _ ?_
      have : s.data.toList.length = s.size := by simp
      omega
    · cases h
theorem rd_int {fuel : Nat} {t : TypeId} {cs : List Value} {k : IntKind} (hu : P.underlying t = some (.int k)) (h : Trd enc P w fuel t cs) : ∃ n, Rd w [.int k n] cs := by
  obtain ⟨d, pl, h⟩ := h
  cases fuel with
  | zero => simp [DataW.trod] at h
  | succ n =>
    unfold DataW.trod at h
    rw [hu] at h
    split at h <;> first | (simp_all; done) | skip
    rename_i k1 k2 n he
    cases he
    split at h
    · rename_i hk
      obtain ⟨rfl, _⟩ := hk
      exact ⟨n, .one (.int _ n)⟩
    · cases h
/-- A struct's fields. -/
theorem rd_fields {fuel : Nat} {t : TypeId} {fs : Array Field} {cs : List Value} (hu : P.underlying t = some (.struct fs)) (h : Trd enc P w (fuel + 1) t cs) :
    cs.length = P.cellsOf t ∧ ∀ (i : Nat) (f : Field), fs.toList[i]? = some f → Trd enc P w fuel f.type ((cs.drop f.offset).take (P.cellsOf f.type)) := by
  obtain ⟨d, pl, h⟩ := h
  unfold DataW.trod at h
  rw [hu] at h
  split at h <;> first | (simp_all; done) | skip
  rename_i fs' he
  cases he
  split at h
  · rename_i hc
    simp only [Option.map_eq_some_iff] at h
    obtain ⟨ys, hy, _⟩ := h
    refine ⟨hc, fun i f hf => ?_⟩
    obtain ⟨y, _, h2⟩ := (mapM_get hy).2 i f hf
    exact ⟨y.1, y.2, h2⟩
  · cases h
theorem trd_pos {fuel : Nat} {t : TypeId} {cs : List Value} (h : Trd enc P w fuel t cs) : ∃ n, fuel = n + 1 := by
  obtain ⟨d, pl, h⟩ := h
  cases fuel with
  | zero => simp [DataW.trod] at h
  | succ n => exact ⟨n, rfl⟩
/-- A slice, of whose elements it is known what they read as. -/
theorem rd_slice {α : Type} (f : α → List PV) {fuel n : Nat} {t e : TypeId} {cs : List Value} (hu : P.underlying t = some (.slice e)) (hn : P.cellsOf e = n) (hf : ∀ x, (f x).length = n) (hn0 : 0 < n)
    (hel : ∀ cs, Trd enc P w fuel e cs → ∃ x, Rd w (f x) cs) (h : Trd enc P w (fuel + 1) t cs) : ∃ (es ss : List α) (lim : Bool), Rd w [.imm (es.map f) (ss.map f) lim] cs := by
  obtain ⟨d, pl, h⟩ := h
  unfold DataW.trod at h
  rw [hu] at h
  split at h <;> first | (simp_all; done) | skip
  · exact ⟨[], [], true, .one (IR.imm [] [] true none ⟨0, 0, none⟩ 0 0 (fun _ => undef) (by simp) (by simp) (by simp) (by simp) (by simp) (by simp) (by simp) (by simp))⟩
  rename_i e' ad len cap he
  cases he
  simp only at h
  split at h
  · rename_i hcond
    obtain ⟨_, hlc, hcm⟩ := hcond
    simp only [if_true, Option.bind_eq_some_iff, Option.map_eq_some_iff] at h
    obtain ⟨elems, h1, rest, h2, _⟩ := h
    have get : ∀ (o : Nat → Nat) (m : Nat) (l : List (DataW H × List MemPlace)), (List.range m).mapM (fun i => (w.cells? 0 (ad.add (o i * P.cellsOf e)) (P.cellsOf e)).bind (DataW.trod enc P w 0 (fun _ => true) true fuel e)) = some l →
        ∀ i, i < m → ∃ x : α, ∃ cs, w.cells? 0 (ad.add (o i * P.cellsOf e)) (P.cellsOf e) = some cs ∧ Rd w (f x) cs := by
      intro o m l hm i hi
      obtain ⟨y, _, hb⟩ := (mapM_get hm).2 i i (by rw [List.getElem?_range hi])
      simp only [Option.bind_eq_some_iff] at hb
      obtain ⟨cs, hcs, hg⟩ := hb
      obtain ⟨x, hx⟩ := hel cs ⟨y.1, y.2, hg⟩
      exact ⟨x, cs, hcs, hx⟩
    obtain ⟨es, e1, e2⟩ := pick_list (α := α) len (get (fun i => i) len elems h1)
    obtain ⟨ss, s1, s2⟩ := pick_list (α := α) (cap - len) (get (fun j => len + j) (cap - len) rest h2)
    refine ⟨es, ss, true, ?_⟩
    have hz : ∀ x, x ∈ es.map f ++ ss.map f → x.length = P.cellsOf e := fun x hx => by
      rw [← List.map_append] at hx
      obtain ⟨y, _, rfl⟩ := List.mem_map.1 hx
      rw [hf, hn]
    have hel2 : ∀ (i : Nat) (x : List PV), (es.map f ++ ss.map f)[i]? = some x → ∃ cs, w.cells? 0 (ad.add (i * P.cellsOf e)) (P.cellsOf e) = some cs ∧ Rd w x cs := by
      intro i x hx
      rw [← List.map_append, List.getElem?_map, Option.map_eq_some_iff] at hx
      obtain ⟨y, hy, rfl⟩ := hx
      by_cases hi : i < es.length
      · rw [List.getElem?_append_left hi, List.getElem?_eq_getElem hi] at hy
        cases hy
        exact e2 i hi
      · rw [List.getElem?_append_right (by omega)] at hy
        obtain ⟨hlt, rfl⟩ := List.getElem?_eq_some_iff.1 hy
        obtain ⟨cs, a1, a2⟩ := s2 (i - es.length) hlt
        have : len + (i - es.length) = i := by omega
        rw [this] at a1
        exact ⟨cs, a1, a2⟩
    have hcell : ∀ (j : Nat) (x : PV), (es.map f ++ ss.map f).flatten[j]? = some x → ∃ u, w.cell? (ad.add j) = some u ∧ IR w (fun _ => True) x u := by
      intro j x hj
      have hfl := flat_len hz
      have hjlt := (List.getElem?_eq_some_iff.1 hj).1
      have hsz : 0 < P.cellsOf e := by rw [hn]; exact hn0
      have hi : j / P.cellsOf e < (es.map f ++ ss.map f).length := by
        rw [hfl] at hjlt
        exact (Nat.div_lt_iff_lt_mul hsz).2 hjlt
      have hm : j % P.cellsOf e < P.cellsOf e := Nat.mod_lt _ hsz
      have hdm : j / P.cellsOf e * P.cellsOf e + j % P.cellsOf e = j := by rw [Nat.mul_comm]; exact Nat.div_add_mod j _
      obtain ⟨cs, hcs, hr⟩ := hel2 _ _ (List.getElem?_eq_getElem hi)
      have hlen := hz _ (List.getElem_mem hi)
      have hx' : (es.map f ++ ss.map f)[j / P.cellsOf e][j % P.cellsOf e]? = some x := by
        have := flat_get hz (List.getElem?_eq_getElem hi) (List.getElem?_eq_getElem (show j % P.cellsOf e < (es.map f ++ ss.map f)[j / P.cellsOf e].length by omega))
        rw [hdm, hj] at this
        rw [List.getElem?_eq_getElem (by omega)]
        exact this.symm
      obtain ⟨_, c2, c3⟩ := World.cells?_some hcs
      have hu := c3 _ hm
      rw [add_add, hdm] at hu
      have hlt : j % P.cellsOf e < cs.length := by omega
      rw [List.getElem?_eq_getElem hlt] at hu
      exact ⟨_, hu, hr.2 _ x _ hx' (List.getElem?_eq_getElem hlt)⟩
    have key := IR.imm (w := w) (B := fun _ => True) (es.map f) (ss.map f) true (some ad) ad cap (P.cellsOf e) (fun j => (w.cell? (ad.add j)).getD undef) (by simp; omega) hcm (fun _ => by simp; omega)
      (fun _ => rfl) (fun _ => trivial) hz (fun j x hj => by obtain ⟨u, hu, _⟩ := hcell j x hj; rw [hu]; rfl) (fun j x hj => by obtain ⟨u, hu, hr⟩ := hcell j x hj; rw [hu]; exact hr)
    rw [List.length_map, e1] at key
    exact .one key
  · cases h
/-- Cells one after the other. -/
theorem rd_cut {cs : List Value} (off n m : Nat) {a b : List PV} (h1 : Rd w a ((cs.drop off).take n)) (h2 : Rd w b ((cs.drop (off + n)).take m)) : Rd w (a ++ b) ((cs.drop off).take (n + m)) := by
  have : (cs.drop off).take (n + m) = (cs.drop off).take n ++ (cs.drop (off + n)).take m := by rw [List.take_add, List.drop_drop]
  rw [this]
  exact h1.append h2
end
end Go.Mach

/- Drawn regions in which some operations make objects, one after the other. -/
namespace Go.Mach
open Go
set_option linter.unusedVariables false
set_option linter.unusedSimpArgs false

section
variable {P : Program} {σ0 : Heap} {κ : St → Prop}
def OrdOp (P : Program) (σ0 : Heap) (st : St) (o : MOper) (v : PV) (ext : Heap) : Prop :=
  (CalmOp P st o v ∧ st.σ = σ0 ++ ext) ∨ (gd st o.grd = some true ∧ ∃ p, evalOp st o.op = .hp p v (σ0 ++ ext) ∧ p)
def wmix (P : Program) (σ0 : Heap) (κ : St → Prop) : List (Bool × MOper) → St → Prop
  | [], st => κ st
  | (false, o) :: os, st => ∃ v, (∀ ext, CalmOp P (st.withσ (σ0 ++ ext)) o v) ∧ wmix P σ0 κ os (st.putO o.dst v)
  | (true, o) :: os, st => ∃ v ext, OrdOp P σ0 st o v ext ∧ wmix P σ0 κ os ((st.withσ (σ0 ++ ext)).putO o.dst v)
theorem withσ_putO {st : St} {σ : Heap} {d : Option Nat} {v : PV} : (st.putO d v).withσ σ = (st.withσ σ).putO d v := by cases d <;> rfl
theorem withσ_self {st : St} {σ : Heap} (h : st.σ = σ) : st.withσ σ = st := by subst h; rfl
theorem withσ_twice {st : St} {σ σ' : Heap} : (st.withσ σ).withσ σ' = st.withσ σ' := rfl
theorem stable_congr {st st' : St} {o : MOper} {v : PV} (h : ∀ t, t ∈ o.reads → st.τ t = st'.τ t) (hc : ∀ ext, CalmOp P (st.withσ (σ0 ++ ext)) o v) : ∀ ext, CalmOp P (st'.withσ (σ0 ++ ext)) o v :=
  fun ext => calm_congr (st := st.withσ (σ0 ++ ext)) h rfl (hc ext)
theorem ord_congr {st st' : St} {o : MOper} {v : PV} {ext : Heap} (h : ∀ t, t ∈ o.reads → st.τ t = st'.τ t) (hσ : st.σ = st'.σ) (hc : OrdOp P σ0 st o v ext) : OrdOp P σ0 st' o v ext := by
  rcases hc with ⟨h1, h2⟩ | ⟨h1, p, h2, h3⟩
  · exact .inl ⟨calm_congr h hσ h1, hσ ▸ h2⟩
  · refine .inr ⟨?_, p, ?_, h3⟩
    · rw [← h1]; exact (gd_congr fun t ht => h t (by simp only [MOper.reads, List.mem_append]; exact .inr ht)).symm
    · rw [← h2]; exact (eval_congr (fun t ht => h t (by simp only [MOper.reads, List.mem_append]; exact .inl ht)) hσ).symm
theorem mix_free {o : MOper} {L2 : List (Bool × MOper)} : ∀ (L1 : List (Bool × MOper)) (st : St), (∀ a, a ∈ L1 → indep a.2 o = true) → wmix P σ0 κ (L1 ++ (false, o) :: L2) st →
    ∃ v, (∀ ext, CalmOp P (st.withσ (σ0 ++ ext)) o v) ∧ wmix P σ0 κ (L1 ++ L2) (st.putO o.dst v)
  | [], st, _, h => h
  | (false, a) :: L1, st, hi, h => by
    obtain ⟨va, ha, h⟩ := h
    obtain ⟨v, ho, h⟩ := mix_free L1 _ (fun a' ha' => hi a' (by simp [ha'])) h
    obtain ⟨i1, i2⟩ := indep_spec (hi (false, a) (by simp))
    refine ⟨v, stable_congr (fun t ht => putO_ne fun e => (i1 t e).1 ht) ho, va, stable_congr (fun t ht => (putO_ne fun e => i2 t e ht).symm) ha, ?_⟩
    rw [putO_comm fun t e e' => (i1 t e').2 e]
    exact h
  | (true, a) :: L1, st, hi, h => by
    obtain ⟨va, ext, ha, h⟩ := h
    obtain ⟨v, ho, h⟩ := mix_free L1 _ (fun a' ha' => hi a' (by simp [ha'])) h
    obtain ⟨i1, i2⟩ := indep_spec (hi (true, a) (by simp))
    refine ⟨v, stable_congr (st := (st.withσ (σ0 ++ ext)).putO a.dst va) (fun t ht => putO_ne (st := st.withσ (σ0 ++ ext)) fun e => (i1 t e).1 ht) ho, va, ext, ord_congr (fun t ht => (putO_ne fun e => i2 t e ht).symm) putO_σ.symm ha, ?_⟩
    rw [withσ_putO, putO_comm fun t e e' => (i1 t e').2 e]
    exact h
theorem mix_ord {o : MOper} {L2 : List (Bool × MOper)} : ∀ (L1 : List (Bool × MOper)) (st : St), (∀ a, a ∈ L1 → a.1 = false ∧ indep a.2 o = true) → wmix P σ0 κ (L1 ++ (true, o) :: L2) st →
    ∃ v ext, OrdOp P σ0 st o v ext ∧ wmix P σ0 κ (L1 ++ L2) ((st.withσ (σ0 ++ ext)).putO o.dst v)
  | [], st, _, h => h
  | (true, a) :: L1, st, hi, h => absurd (hi (true, a) (by simp)).1 (by simp)
  | (false, a) :: L1, st, hi, h => by
    obtain ⟨va, ha, h⟩ := h
    obtain ⟨v, ext, ho, h⟩ := mix_ord L1 _ (fun a' ha' => hi a' (by simp [ha'])) h
    obtain ⟨i1, i2⟩ := indep_spec (hi (false, a) (by simp)).2
    refine ⟨v, ext, ord_congr (fun t ht => putO_ne fun e => (i1 t e).1 ht) putO_σ ho, va, stable_congr (fun t ht => (putO_ne (st := st.withσ (σ0 ++ ext)) fun e => i2 t e ht).symm) ha, ?_⟩
    rw [putO_comm fun t e e' => (i1 t e').2 e, ← withσ_putO]
    exact h
end

/-- A drawn region: `lab` tells the operations that are done one after the other, whatever the draw. -/
theorem run_mix {P : Program} {k : K} {st : St} {ops : List (MOper × List Nat)} (lab : Nat → Bool) (hok : dOkL ops lab = true) (h : wmix P st.σ (Kdo P k .normal) (ops.zipIdx.map fun p => (lab p.2, p.1.1)) st) : Run P (.dreg ops) k st := by
  obtain ⟨σ0, hσ0⟩ : ∃ σ0, σ0 = st.σ := ⟨_, rfl⟩
  rw [← hσ0] at h
  refine run_any (lab := lab) (W := fun L s => (∃ ext, s.σ = σ0 ++ ext) ∧ wmix P σ0 (Kdo P k .normal) L s) (fun s h => h.2) (fun L1 o L2 s hi h => ?_) hok ⟨⟨[], by simp [hσ0]⟩, h⟩
  obtain ⟨⟨ext0, hs⟩, h⟩ := h
  obtain ⟨l, o⟩ := o
  cases l with
  | false =>
    obtain ⟨v, h1, h2⟩ := mix_free L1 s (fun a ha => by have := hi a ha; simp only [indL, Bool.and_eq_true] at this; exact this.1) h
    have h3 := h1 ext0
    rw [withσ_self hs] at h3
    exact calm_wop h3 ⟨⟨ext0, by rw [putO_σ]; exact hs⟩, h2⟩
  | true =>
    obtain ⟨v, ext, h1, h2⟩ := mix_ord L1 s (fun a ha => by
      have := hi a ha
      simp only [indL, Bool.and_eq_true, Bool.not_eq_true', Bool.and_true] at this
      exact ⟨this.2, this.1⟩) h
    rcases h1 with ⟨h1, h3⟩ | ⟨h1, p, h3, hp⟩
    · rw [withσ_self h3] at h2
      exact calm_wop h1 ⟨⟨ext, by rw [putO_σ]; exact h3⟩, h2⟩
    · refine .inl ?_
      unfold wop1
      rw [h1]
      simp only [h3]
      exact ⟨hp, ⟨ext, by rw [putO_σ]; rfl⟩, h2⟩
end Go.Mach

/- Drawn regions that make memory, walked. -/
namespace Go.Mach
open Go
set_option linter.unusedVariables false
set_option linter.unusedSimpArgs false

def dstIn (l : List Nat) (o : MOper) : Bool := match o.dst with
  | some t => l.contains t
  | none => false
def labD (ops : List (MOper × List Nat)) (l : List Nat) (i : Nat) : Bool := match ops[i]? with
  | some o => dstIn l o.1
  | none => false
section
variable {P : Program} {k : K} {st : St} {σ0 : Heap} {d : Option Nat} {op : MOp} {os : List (Bool × MOper)}
def Mix (P : Program) (σ0 : Heap) (os : List (Bool × MOper)) (k : K) (st : St) : Prop := wmix P σ0 (Kdo P k .normal) os st
theorem run_mixD {ops : List (MOper × List Nat)} (l : List Nat) (hok : dOkL ops (labD ops l) = true) (h : Mix P st.σ (ops.map fun o => (dstIn l o.1, o.1)) k st) : Run P (.dreg ops) k st := by
  refine run_mix (labD ops l) hok ?_
  have : (ops.zipIdx.map fun p => (labD ops l p.2, p.1.1)) = ops.map fun o => (dstIn l o.1, o.1) := by
    apply List.ext_getElem
    · simp
    · intro i h1 h2
      have hlt : i < ops.length := by simpa using h2
      simp [labD, hlt]
  rw [this]
  exact h
def FStp (P : Program) (σ0 : Heap) (e : Heap → Ev) (d : Option Nat) (os : List (Bool × MOper)) (k : K) (st : St) : Prop := ∃ v, (∀ ext, CalmE P (σ0 ++ ext) (e ext) v) ∧ Mix P σ0 os k (st.putO d v)
def FGrd (P : Program) (σ0 : Heap) (v : PV) (b : Bool) (d : Option Nat) (op : MOp) (os : List (Bool × MOper)) (k : K) (st : St) : Prop :=
  ∃ u, (∀ ext, CalmG P (st.withσ (σ0 ++ ext)) (match v with | .bool c => some (c == b) | .tup _ => some false | _ => none) op u) ∧ Mix P σ0 os k (st.putO d u)
def OStp (P : Program) (σ0 : Heap) (e : Ev) (d : Option Nat) (os : List (Bool × MOper)) (k : K) (st : St) : Prop :=
  ∃ v ext, ((CalmE P st.σ e v ∧ st.σ = σ0 ++ ext) ∨ ∃ p, e = .hp p v (σ0 ++ ext) ∧ p) ∧ Mix P σ0 os k ((st.withσ (σ0 ++ ext)).putO d v)
def OGrd (P : Program) (σ0 : Heap) (v : PV) (b : Bool) (d : Option Nat) (op : MOp) (os : List (Bool × MOper)) (k : K) (st : St) : Prop := match (match v with | .bool c => some (c == b) | .tup _ => some false | _ => none : Option Bool) with
  | some true => OStp P σ0 (evalOp st op) d os k st
  | some false => ∃ ext, st.σ = σ0 ++ ext ∧ Mix P σ0 os k (st.putO d (.tup []))
  | none => False
theorem mix_nil : Mix P σ0 [] k st = KX P k .normal st := rfl
theorem mix_fplain : Mix P σ0 ((false, ⟨d, op, none⟩) :: os) k st = FStp P σ0 (fun ext => evalOp (st.withσ (σ0 ++ ext)) op) d os k st := rfl
theorem mix_fgrd {t : Nat} {b : Bool} : Mix P σ0 ((false, ⟨d, op, some (t, b)⟩) :: os) k st = FGrd P σ0 (st.τ t) b d op os k st := rfl
theorem mix_oplain : Mix P σ0 ((true, ⟨d, op, none⟩) :: os) k st = OStp P σ0 (evalOp st op) d os k st := by
  apply propext
  refine ⟨?_, ?_⟩
  · rintro ⟨v, ext, h1 | ⟨_, h1⟩, h2⟩
    · exact ⟨v, ext, .inl h1, h2⟩
    · exact ⟨v, ext, .inr h1, h2⟩
  · rintro ⟨v, ext, h1 | h1, h2⟩
    · exact ⟨v, ext, .inl h1, h2⟩
    · exact ⟨v, ext, .inr ⟨rfl, h1⟩, h2⟩
theorem mix_ogrd {t : Nat} {b : Bool} : OGrd P σ0 (st.τ t) b d op os k st → Mix P σ0 ((true, ⟨d, op, some (t, b)⟩) :: os) k st := by
  intro h
  have hg : gd st (some (t, b)) = (match st.τ t with | .bool c => some (c == b) | .tup _ => some false | _ => none) := rfl
  unfold OGrd at h
  rw [← hg] at h
  split at h
  · rename_i h1
    obtain ⟨v, ext, h2 | h2, h3⟩ := h
    · refine ⟨v, ext, .inl ⟨?_, h2.2⟩, h3⟩
      unfold CalmOp CalmG
      simp only [h1]
      exact h2.1
    · exact ⟨v, ext, .inr ⟨h1, h2⟩, h3⟩
  · rename_i h1
    obtain ⟨ext, h2, h3⟩ := h
    refine ⟨.tup [], ext, .inl ⟨?_, h2⟩, ?_⟩
    · unfold CalmOp CalmG
      simp only [h1]
    · rw [withσ_self h2]; exact h3
  · exact h.elim
theorem fg_tt : FGrd P σ0 (.bool true) true d op os k st = FStp P σ0 (fun ext => evalOp (st.withσ (σ0 ++ ext)) op) d os k st := rfl
theorem fg_ff : FGrd P σ0 (.bool false) false d op os k st = FStp P σ0 (fun ext => evalOp (st.withσ (σ0 ++ ext)) op) d os k st := rfl
theorem fg_no : (∃ u : PV, (∀ _ : Heap, u = .tup []) ∧ Mix P σ0 os k (st.putO d u)) = Mix P σ0 os k (st.putO d (.tup [])) := by
  apply propext
  exact ⟨fun ⟨u, h, h2⟩ => by rw [← h []]; exact h2, fun h => ⟨_, fun _ => rfl, h⟩⟩
theorem fg_tf : FGrd P σ0 (.bool true) false d op os k st = Mix P σ0 os k (st.putO d (.tup [])) := fg_no
theorem fg_ft : FGrd P σ0 (.bool false) true d op os k st = Mix P σ0 os k (st.putO d (.tup [])) := fg_no
theorem fg_tup {l : List PV} {b : Bool} : FGrd P σ0 (.tup l) b d op os k st = Mix P σ0 os k (st.putO d (.tup [])) := fg_no
theorem fg_split {c b : Bool} (h1 : c = true → FGrd P σ0 (.bool true) b d op os k st) (h2 : c = false → FGrd P σ0 (.bool false) b d op os k st) : FGrd P σ0 (.bool c) b d op os k st := by
  cases c
  · exact h2 rfl
  · exact h1 rfl
theorem fstp_ok {v : PV} : FStp P σ0 (fun _ => .ok v) d os k st = Mix P σ0 os k (st.putO d v) := by
  apply propext
  exact ⟨fun ⟨u, h, h2⟩ => by have := h []; simp only [CalmE] at this; rw [← this]; exact h2, fun h => ⟨v, fun _ => rfl, h⟩⟩
theorem fstp_ob {p : Prop} {v : PV} : FStp P σ0 (fun _ => .ob p v) d os k st = (p ∧ Mix P σ0 os k (st.putO d v)) := by
  apply propext
  exact ⟨fun ⟨u, h, h2⟩ => by have := h []; simp only [CalmE] at this; exact ⟨this.1, by rw [← this.2]; exact h2⟩, fun ⟨h1, h⟩ => ⟨v, fun _ => ⟨h1, rfl⟩, h⟩⟩
theorem fstp_if {c : Prop} [Decidable c] {a b : Heap → Ev} : FStp P σ0 (fun ext => if c then a ext else b ext) d os k st = if c then FStp P σ0 a d os k st else FStp P σ0 b d os k st := by split <;> rfl
theorem fstp_ct {f : FuncId} {cs A : List PV} {y : PV} (h : Ct P f (A ++ cs) y) (hA : pureL (A ++ cs) = true) (hy : noOwnV y = true) (hk : Mix P σ0 os k (st.putO d y)) : FStp P σ0 (fun _ => .call (.fn f cs) A) d os k st := by
  refine ⟨y, fun ext st' κ hσ hκ => ?_, hk⟩
  refine call_ct false h hA ?_
  rw [took_plain hy, hσ]
  exact hκ
/-- A new list that is but read from now on. -/
theorem fstp_imm {e : Heap → Ev} {p : Prop} {es : List (List PV)} {sz ty n : Nat} (he : ∀ ext, e ext = .hp p (.ref (σ0 ++ ext).length n 0 n none) ((σ0 ++ ext) ++ [some ⟨es, sz, ty, true, false⟩])) (hn : es.length = n) (hpu : es.all pureL = true) (hp : p)
    (hk : Mix P σ0 os k (st.putO d (.imm es [] false))) : FStp P σ0 e d os k st := by
  refine ⟨.imm es [] false, fun ext => ?_, hk⟩
  rw [he]
  refine ⟨hp, ⟨es, sz, ty, true, false⟩, 3, rfl, ?_⟩
  have h1 : ((σ0 ++ ext) ++ [some (⟨es, sz, ty, true, false⟩ : AObj)])[(σ0 ++ ext).length]? = some (some ⟨es, sz, ty, true, false⟩) := by simp
  have h2 : snapV ((σ0 ++ ext) ++ [some ⟨es, sz, ty, true, false⟩]) (σ0 ++ ext).length 3 (.ref (σ0 ++ ext).length n 0 n none) = match ((σ0 ++ ext) ++ [some (⟨es, sz, ty, true, false⟩ : AObj)])[(σ0 ++ ext).length]? with
    | some (some ob) => if (σ0 ++ ext).length ≤ (σ0 ++ ext).length ∧ ob.es.length = n then (mapO (mapO fun y => if isOwn y then some (unown y) else snapV ((σ0 ++ ext) ++ [some ⟨es, sz, ty, true, false⟩]) (σ0 ++ ext).length 2 y) ob.es).map fun es => snapE es 0 n none else none
    | _ => none := rfl
  rw [h2, h1]
  simp only [Nat.le_refl, hn, and_self, if_true]
  rw [mapO_all fun e he => List.all_eq_true.1 hpu e he]
  subst hn
  simp [snapE, snapSp]
theorem ostp_hp {p : Prop} {v : PV} {σ' : Heap} (h : ∃ ext, σ' = σ0 ++ ext) (hp : p) (hk : Mix P σ0 os k ((st.withσ σ').putO d v)) : OStp P σ0 (.hp p v σ') d os k st := by
  obtain ⟨ext, rfl⟩ := h
  exact ⟨v, ext, .inr ⟨p, rfl, hp⟩, hk⟩
theorem ostp_ok {v : PV} (h : ∃ ext, st.σ = σ0 ++ ext) (hk : Mix P σ0 os k (st.putO d v)) : OStp P σ0 (.ok v) d os k st := by
  obtain ⟨ext, h⟩ := h
  exact ⟨v, ext, .inl ⟨rfl, h⟩, by rw [withσ_self h]; exact hk⟩
theorem og_tt : OGrd P σ0 (.bool true) true d op os k st = OStp P σ0 (evalOp st op) d os k st := rfl
theorem og_ff : OGrd P σ0 (.bool false) false d op os k st = OStp P σ0 (evalOp st op) d os k st := rfl
theorem og_tf (h : ∃ ext, st.σ = σ0 ++ ext) (hk : Mix P σ0 os k (st.putO d (.tup []))) : OGrd P σ0 (.bool true) false d op os k st := by obtain ⟨ext, h⟩ := h; exact ⟨ext, h, hk⟩
theorem og_ft (h : ∃ ext, st.σ = σ0 ++ ext) (hk : Mix P σ0 os k (st.putO d (.tup []))) : OGrd P σ0 (.bool false) true d op os k st := by obtain ⟨ext, h⟩ := h; exact ⟨ext, h, hk⟩
theorem og_tup {l : List PV} {b : Bool} (h : ∃ ext, st.σ = σ0 ++ ext) (hk : Mix P σ0 os k (st.putO d (.tup []))) : OGrd P σ0 (.tup l) b d op os k st := by obtain ⟨ext, h⟩ := h; exact ⟨ext, h, hk⟩
/-! #### Arguments, some of them whole lists of the caller's own -/
theorem snapW_nil {σ : Heap} : snapL σ 3 ([].map (frzV σ)) = some [] := rfl
theorem snapW_pure {σ : Heap} {x : PV} {xs ys : List PV} (hx : pureV x = true) (h : snapL σ 3 (xs.map (frzV σ)) = some ys) : snapL σ 3 ((x :: xs).map (frzV σ)) = some (x :: ys) := by
  have h1 : frzV σ x = x := by have := frzL_pure (σ := σ) (xs := [x]) (by simp [pureL, hx]); simpa using this
  simp only [List.map_cons, h1, snapL, mapO, snapV_pure hx]
  simp only [snapL] at h
  rw [h]
theorem snapW_ref {σ : Heap} {o n sz ty : Nat} {es : List (List PV)} {arr : Bool} {y : PV} {xs ys : List PV} (ho : σ[o]? = some (some ⟨es, sz, ty, arr, false⟩)) (hn : es.length = n) (hp : es.all pureL = true)
    (hy : y = .imm es [] false) (h : snapL σ 3 (xs.map (frzV σ)) = some ys) : snapL σ 3 ((.ref o n 0 n none :: xs).map (frzV σ)) = some (y :: ys) := by
  have h1 : frzV σ (.ref o n 0 n none) = .ref o n 0 n none := by simp [frzV, ho]
  have h3 := snapV_ref (ob := ⟨es, sz, ty, arr, false⟩) ho hn (List.all_eq_true.1 hp)
  subst hy
  simp only [List.map_cons, h1, snapL, mapO, h3]
  simp only [snapL] at h
  rw [h]
theorem ostp_snap {f : FuncId} {cs A A' : List PV} {y : PV} (n : Nat) (h : Ct P f A' y) (hA : snapL st.σ n ((A ++ cs).map (frzV st.σ)) = some A') (hσ : ∃ ext, st.σ = σ0 ++ ext) (hc : closedV y = true) (hy : noOwnV y = true) (hk : Mix P σ0 os k (st.putO d y)) : OStp P σ0 (.call (.fn f cs) A) d os k st := by
  obtain ⟨ext, hσ⟩ := hσ
  refine ⟨y, ext, .inl ⟨fun st' κ hs hκ => ?_, hσ⟩, by rw [withσ_self hσ]; exact hk⟩
  refine call_snap false n (by rw [hs]; exact hA) h hc ?_
  rw [took_plain hy, hs]
  exact hκ
end
end Go.Mach

/- Drawn regions in which some operations write objects, one after the other: the others are calm in all heaps that there are meanwhile. -/
namespace Go.Mach
open Go
set_option linter.unusedVariables false
set_option linter.unusedSimpArgs false

section
variable {P : Program} {X : Type} {hf : X → Heap} {κ : St → Prop}
def OrdOpH (P : Program) {X : Type} (hf : X → Heap) (st : St) (o : MOper) (v : PV) (ext : X) : Prop :=
  (CalmOp P st o v ∧ st.σ = hf ext) ∨ (gd st o.grd = some true ∧ ∃ p, evalOp st o.op = .hp p v (hf ext) ∧ p)
def wmixH (P : Program) {X : Type} (hf : X → Heap) (κ : St → Prop) : List (Bool × MOper) → St → Prop
  | [], st => κ st
  | (false, o) :: os, st => ∃ v, (∀ ext, CalmOp P (st.withσ (hf ext)) o v) ∧ wmixH P hf κ os (st.putO o.dst v)
  | (true, o) :: os, st => ∃ v ext, OrdOpH P hf st o v ext ∧ wmixH P hf κ os ((st.withσ (hf ext)).putO o.dst v)
theorem stable_congrH {st st' : St} {o : MOper} {v : PV} (h : ∀ t, t ∈ o.reads → st.τ t = st'.τ t) (hc : ∀ ext, CalmOp P (st.withσ (hf ext)) o v) : ∀ ext, CalmOp P (st'.withσ (hf ext)) o v :=
  fun ext => calm_congr (st := st.withσ (hf ext)) h rfl (hc ext)
theorem ord_congrH {st st' : St} {o : MOper} {v : PV} {ext : X} (h : ∀ t, t ∈ o.reads → st.τ t = st'.τ t) (hσ : st.σ = st'.σ) (hc : OrdOpH P hf st o v ext) : OrdOpH P hf st' o v ext := by
  rcases hc with ⟨h1, h2⟩ | ⟨h1, p, h2, h3⟩
  · exact .inl ⟨calm_congr h hσ h1, hσ ▸ h2⟩
  · refine .inr ⟨?_, p, ?_, h3⟩
    · rw [← h1]; exact (gd_congr fun t ht => h t (by simp only [MOper.reads, List.mem_append]; exact .inr ht)).symm
    · rw [← h2]; exact (eval_congr (fun t ht => h t (by simp only [MOper.reads, List.mem_append]; exact .inl ht)) hσ).symm
theorem mix_freeH {o : MOper} {L2 : List (Bool × MOper)} : ∀ (L1 : List (Bool × MOper)) (st : St), (∀ a, a ∈ L1 → indep a.2 o = true) → wmixH P hf κ (L1 ++ (false, o) :: L2) st →
    ∃ v, (∀ ext, CalmOp P (st.withσ (hf ext)) o v) ∧ wmixH P hf κ (L1 ++ L2) (st.putO o.dst v)
  | [], st, _, h => h
  | (false, a) :: L1, st, hi, h => by
    obtain ⟨va, ha, h⟩ := h
    obtain ⟨v, ho, h⟩ := mix_freeH L1 _ (fun a' ha' => hi a' (by simp [ha'])) h
    obtain ⟨i1, i2⟩ := indep_spec (hi (false, a) (by simp))
    refine ⟨v, stable_congrH (fun t ht => putO_ne fun e => (i1 t e).1 ht) ho, va, stable_congrH (fun t ht => (putO_ne fun e => i2 t e ht).symm) ha, ?_⟩
    rw [putO_comm fun t e e' => (i1 t e').2 e]
    exact h
  | (true, a) :: L1, st, hi, h => by
    obtain ⟨va, ext, ha, h⟩ := h
    obtain ⟨v, ho, h⟩ := mix_freeH L1 _ (fun a' ha' => hi a' (by simp [ha'])) h
    obtain ⟨i1, i2⟩ := indep_spec (hi (true, a) (by simp))
    refine ⟨v, stable_congrH (st := (st.withσ (hf ext)).putO a.dst va) (fun t ht => putO_ne (st := st.withσ (hf ext)) fun e => (i1 t e).1 ht) ho, va, ext, ord_congrH (fun t ht => (putO_ne fun e => i2 t e ht).symm) putO_σ.symm ha, ?_⟩
    rw [withσ_putO, putO_comm fun t e e' => (i1 t e').2 e]
    exact h
theorem mix_ordH {o : MOper} {L2 : List (Bool × MOper)} : ∀ (L1 : List (Bool × MOper)) (st : St), (∀ a, a ∈ L1 → a.1 = false ∧ indep a.2 o = true) → wmixH P hf κ (L1 ++ (true, o) :: L2) st →
    ∃ v ext, OrdOpH P hf st o v ext ∧ wmixH P hf κ (L1 ++ L2) ((st.withσ (hf ext)).putO o.dst v)
  | [], st, _, h => h
  | (true, a) :: L1, st, hi, h => absurd (hi (true, a) (by simp)).1 (by simp)
  | (false, a) :: L1, st, hi, h => by
    obtain ⟨va, ha, h⟩ := h
    obtain ⟨v, ext, ho, h⟩ := mix_ordH L1 _ (fun a' ha' => hi a' (by simp [ha'])) h
    obtain ⟨i1, i2⟩ := indep_spec (hi (false, a) (by simp)).2
    refine ⟨v, ext, ord_congrH (fun t ht => putO_ne fun e => (i1 t e).1 ht) putO_σ ho, va, stable_congrH (fun t ht => (putO_ne (st := st.withσ (hf ext)) fun e => i2 t e ht).symm) ha, ?_⟩
    rw [putO_comm fun t e e' => (i1 t e').2 e, ← withσ_putO]
    exact h
end

/-- A drawn region: `lab` tells the operations that are done one after the other, whatever the draw. -/
theorem run_mixH {P : Program} {k : K} {st : St} {ops : List (MOper × List Nat)} (lab : Nat → Bool) (hok : dOkL ops lab = true) {X : Type} (hf : X → Heap) (h0 : ∃ x, st.σ = hf x) (h : wmixH P hf (Kdo P k .normal) (ops.zipIdx.map fun p => (lab p.2, p.1.1)) st) : Run P (.dreg ops) k st := by
  refine run_any (lab := lab) (W := fun L s => (∃ ext, s.σ = hf ext) ∧ wmixH P hf (Kdo P k .normal) L s) (fun s h => h.2) (fun L1 o L2 s hi h => ?_) hok ⟨h0, h⟩
  obtain ⟨⟨ext0, hs⟩, h⟩ := h
  obtain ⟨l, o⟩ := o
  cases l with
  | false =>
    obtain ⟨v, h1, h2⟩ := mix_freeH L1 s (fun a ha => by have := hi a ha; simp only [indL, Bool.and_eq_true] at this; exact this.1) h
    have h3 := h1 ext0
    rw [withσ_self hs] at h3
    exact calm_wop h3 ⟨⟨ext0, by rw [putO_σ]; exact hs⟩, h2⟩
  | true =>
    obtain ⟨v, ext, h1, h2⟩ := mix_ordH L1 s (fun a ha => by
      have := hi a ha
      simp only [indL, Bool.and_eq_true, Bool.not_eq_true', Bool.and_true] at this
      exact ⟨this.2, this.1⟩) h
    rcases h1 with ⟨h1, h3⟩ | ⟨h1, p, h3, hp⟩
    · rw [withσ_self h3] at h2
      exact calm_wop h1 ⟨⟨ext, by rw [putO_σ]; exact h3⟩, h2⟩
    · refine .inl ?_
      unfold wop1
      rw [h1]
      simp only [h3]
      exact ⟨hp, ⟨ext, by rw [putO_σ]; rfl⟩, h2⟩
def dstInS (l : List Nat) (o : MOper) : Bool := match o.dst with
  | some t => l.contains t
  | none => true
def labS (ops : List (MOper × List Nat)) (l : List Nat) (i : Nat) : Bool := match ops[i]? with
  | some o => dstInS l o.1
  | none => false
section
variable {P : Program} {k : K} {st : St} {X : Type} {hf : X → Heap} {d : Option Nat} {op : MOp} {os : List (Bool × MOper)}
def MixH (P : Program) {X : Type} (hf : X → Heap) (os : List (Bool × MOper)) (k : K) (st : St) : Prop := wmixH P hf (Kdo P k .normal) os st
theorem run_mixS {ops : List (MOper × List Nat)} {X : Type} (hf : X → Heap) (l : List Nat) (h0 : ∃ x, st.σ = hf x) (hok : dOkL ops (labS ops l) = true) (h : MixH P hf (ops.map fun o => (dstInS l o.1, o.1)) k st) : Run P (.dreg ops) k st := by
  refine run_mixH (labS ops l) hok hf h0 ?_
  have : (ops.zipIdx.map fun p => (labS ops l p.2, p.1.1)) = ops.map fun o => (dstInS l o.1, o.1) := by
    apply List.ext_getElem
    · simp
    · intro i h1 h2
      have hlt : i < ops.length := by simpa using h2
      simp [labS, hlt]
  rw [this]
  exact h
def FStpH (P : Program) {X : Type} (hf : X → Heap) (e : X → Ev) (d : Option Nat) (os : List (Bool × MOper)) (k : K) (st : St) : Prop := ∃ v, (∀ ext, CalmE P (hf ext) (e ext) v) ∧ MixH P hf os k (st.putO d v)
def FGrdH (P : Program) {X : Type} (hf : X → Heap) (v : PV) (b : Bool) (d : Option Nat) (op : MOp) (os : List (Bool × MOper)) (k : K) (st : St) : Prop :=
  ∃ u, (∀ ext, CalmG P (st.withσ (hf ext)) (match v with | .bool c => some (c == b) | .tup _ => some false | _ => none) op u) ∧ MixH P hf os k (st.putO d u)
def OStpH (P : Program) {X : Type} (hf : X → Heap) (e : Ev) (d : Option Nat) (os : List (Bool × MOper)) (k : K) (st : St) : Prop :=
  ∃ v ext, ((CalmE P st.σ e v ∧ st.σ = hf ext) ∨ ∃ p, e = .hp p v (hf ext) ∧ p) ∧ MixH P hf os k ((st.withσ (hf ext)).putO d v)
def OGrdH (P : Program) {X : Type} (hf : X → Heap) (v : PV) (b : Bool) (d : Option Nat) (op : MOp) (os : List (Bool × MOper)) (k : K) (st : St) : Prop := match (match v with | .bool c => some (c == b) | .tup _ => some false | _ => none : Option Bool) with
  | some true => OStpH P hf (evalOp st op) d os k st
  | some false => ∃ ext, st.σ = hf ext ∧ MixH P hf os k (st.putO d (.tup []))
  | none => False
theorem mix_nilH : MixH P hf [] k st = KX P k .normal st := rfl
theorem mix_fplainH : MixH P hf ((false, ⟨d, op, none⟩) :: os) k st = FStpH P hf (fun ext => evalOp (st.withσ (hf ext)) op) d os k st := rfl
theorem mix_fgrdH {t : Nat} {b : Bool} : MixH P hf ((false, ⟨d, op, some (t, b)⟩) :: os) k st = FGrdH P hf (st.τ t) b d op os k st := rfl
theorem mix_oplainH : MixH P hf ((true, ⟨d, op, none⟩) :: os) k st = OStpH P hf (evalOp st op) d os k st := by
  apply propext
  refine ⟨?_, ?_⟩
  · rintro ⟨v, ext, h1 | ⟨_, h1⟩, h2⟩
    · exact ⟨v, ext, .inl h1, h2⟩
    · exact ⟨v, ext, .inr h1, h2⟩
  · rintro ⟨v, ext, h1 | h1, h2⟩
    · exact ⟨v, ext, .inl h1, h2⟩
    · exact ⟨v, ext, .inr ⟨rfl, h1⟩, h2⟩
theorem mix_ogrdH {t : Nat} {b : Bool} : OGrdH P hf (st.τ t) b d op os k st → MixH P hf ((true, ⟨d, op, some (t, b)⟩) :: os) k st := by
  intro h
  have hg : gd st (some (t, b)) = (match st.τ t with | .bool c => some (c == b) | .tup _ => some false | _ => none) := rfl
  unfold OGrdH at h
  rw [← hg] at h
  split at h
  · rename_i h1
    obtain ⟨v, ext, h2 | h2, h3⟩ := h
    · refine ⟨v, ext, .inl ⟨?_, h2.2⟩, h3⟩
      unfold CalmOp CalmG
      simp only [h1]
      exact h2.1
    · exact ⟨v, ext, .inr ⟨h1, h2⟩, h3⟩
  · rename_i h1
    obtain ⟨ext, h2, h3⟩ := h
    refine ⟨.tup [], ext, .inl ⟨?_, h2⟩, ?_⟩
    · unfold CalmOp CalmG
      simp only [h1]
    · rw [withσ_self h2]; exact h3
  · exact h.elim
theorem fg_ttH : FGrdH P hf (.bool true) true d op os k st = FStpH P hf (fun ext => evalOp (st.withσ (hf ext)) op) d os k st := rfl
theorem fg_ffH : FGrdH P hf (.bool false) false d op os k st = FStpH P hf (fun ext => evalOp (st.withσ (hf ext)) op) d os k st := rfl
theorem fg_noH [Inhabited X] : (∃ u : PV, (∀ _ : X, u = .tup []) ∧ MixH P hf os k (st.putO d u)) = MixH P hf os k (st.putO d (.tup [])) := by
  apply propext
  exact ⟨fun ⟨u, h, h2⟩ => by rw [← h default]; exact h2, fun h => ⟨_, fun _ => rfl, h⟩⟩
theorem fg_tfH [Inhabited X] : FGrdH P hf (.bool true) false d op os k st = MixH P hf os k (st.putO d (.tup [])) := fg_noH
theorem fg_ftH [Inhabited X] : FGrdH P hf (.bool false) true d op os k st = MixH P hf os k (st.putO d (.tup [])) := fg_noH
theorem fg_tupH [Inhabited X] {l : List PV} {b : Bool} : FGrdH P hf (.tup l) b d op os k st = MixH P hf os k (st.putO d (.tup [])) := fg_noH
theorem fg_splitH {c b : Bool} (h1 : c = true → FGrdH P hf (.bool true) b d op os k st) (h2 : c = false → FGrdH P hf (.bool false) b d op os k st) : FGrdH P hf (.bool c) b d op os k st := by
  cases c
  · exact h2 rfl
  · exact h1 rfl
theorem fstp_okH [Inhabited X] {v : PV} : FStpH P hf (fun _ => .ok v) d os k st = MixH P hf os k (st.putO d v) := by
  apply propext
  exact ⟨fun ⟨u, h, h2⟩ => by have := h default; simp only [CalmE] at this; rw [← this]; exact h2, fun h => ⟨v, fun _ => rfl, h⟩⟩
theorem fstp_obH [Inhabited X] {p : Prop} {v : PV} : FStpH P hf (fun _ => .ob p v) d os k st = (p ∧ MixH P hf os k (st.putO d v)) := by
  apply propext
  exact ⟨fun ⟨u, h, h2⟩ => by have := h default; simp only [CalmE] at this; exact ⟨this.1, by rw [← this.2]; exact h2⟩, fun ⟨h1, h⟩ => ⟨v, fun _ => ⟨h1, rfl⟩, h⟩⟩
theorem fstp_ifH {c : Prop} [Decidable c] {a b : X → Ev} : FStpH P hf (fun ext => if c then a ext else b ext) d os k st = if c then FStpH P hf a d os k st else FStpH P hf b d os k st := by split <;> rfl
theorem fstp_ctH {f : FuncId} {cs A : List PV} {y : PV} (h : Ct P f (A ++ cs) y) (hA : pureL (A ++ cs) = true) (hy : noOwnV y = true) (hk : MixH P hf os k (st.putO d y)) : FStpH P hf (fun _ => .call (.fn f cs) A) d os k st := by
  refine ⟨y, fun ext st' κ hσ hκ => ?_, hk⟩
  refine call_ct false h hA ?_
  rw [took_plain hy, hσ]
  exact hκ
/-- A new list that is but read from now on. -/
theorem fstp_immH {e : X → Ev} {p : Prop} {es : List (List PV)} {sz ty n : Nat} (he : ∀ ext, e ext = .hp p (.ref (hf ext).length n 0 n none) ((hf ext) ++ [some ⟨es, sz, ty, true, false⟩])) (hn : es.length = n) (hpu : es.all pureL = true) (hp : p)
    (hk : MixH P hf os k (st.putO d (.imm es [] false))) : FStpH P hf e d os k st := by
  refine ⟨.imm es [] false, fun ext => ?_, hk⟩
  rw [he]
  refine ⟨hp, ⟨es, sz, ty, true, false⟩, 3, rfl, ?_⟩
  have h1 : ((hf ext) ++ [some (⟨es, sz, ty, true, false⟩ : AObj)])[(hf ext).length]? = some (some ⟨es, sz, ty, true, false⟩) := by simp
  have h2 : snapV ((hf ext) ++ [some ⟨es, sz, ty, true, false⟩]) (hf ext).length 3 (.ref (hf ext).length n 0 n none) = match ((hf ext) ++ [some (⟨es, sz, ty, true, false⟩ : AObj)])[(hf ext).length]? with
    | some (some ob) => if (hf ext).length ≤ (hf ext).length ∧ ob.es.length = n then (mapO (mapO fun y => if isOwn y then some (unown y) else snapV ((hf ext) ++ [some ⟨es, sz, ty, true, false⟩]) (hf ext).length 2 y) ob.es).map fun es => snapE es 0 n none else none
    | _ => none := rfl
  rw [h2, h1]
  simp only [Nat.le_refl, hn, and_self, if_true]
  rw [mapO_all fun e he => List.all_eq_true.1 hpu e he]
  subst hn
  simp [snapE, snapSp]
theorem ostp_hpH {p : Prop} {v : PV} {σ' : Heap} (h : ∃ ext, σ' = hf ext) (hp : p) (hk : MixH P hf os k ((st.withσ σ').putO d v)) : OStpH P hf (.hp p v σ') d os k st := by
  obtain ⟨ext, rfl⟩ := h
  exact ⟨v, ext, .inr ⟨p, rfl, hp⟩, hk⟩
theorem ostp_okH {v : PV} (h : ∃ ext, st.σ = hf ext) (hk : MixH P hf os k (st.putO d v)) : OStpH P hf (.ok v) d os k st := by
  obtain ⟨ext, h⟩ := h
  exact ⟨v, ext, .inl ⟨rfl, h⟩, by rw [withσ_self h]; exact hk⟩
theorem og_ttH : OGrdH P hf (.bool true) true d op os k st = OStpH P hf (evalOp st op) d os k st := rfl
theorem og_ffH : OGrdH P hf (.bool false) false d op os k st = OStpH P hf (evalOp st op) d os k st := rfl
theorem og_tfH (h : ∃ ext, st.σ = hf ext) (hk : MixH P hf os k (st.putO d (.tup []))) : OGrdH P hf (.bool true) false d op os k st := by obtain ⟨ext, h⟩ := h; exact ⟨ext, h, hk⟩
theorem og_ftH (h : ∃ ext, st.σ = hf ext) (hk : MixH P hf os k (st.putO d (.tup []))) : OGrdH P hf (.bool false) true d op os k st := by obtain ⟨ext, h⟩ := h; exact ⟨ext, h, hk⟩
theorem og_tupH {l : List PV} {b : Bool} (h : ∃ ext, st.σ = hf ext) (hk : MixH P hf os k (st.putO d (.tup []))) : OGrdH P hf (.tup l) b d op os k st := by obtain ⟨ext, h⟩ := h; exact ⟨ext, h, hk⟩
theorem ostp_snapH {f : FuncId} {cs A A' : List PV} {y : PV} (n : Nat) (h : Ct P f A' y) (hA : snapL st.σ n ((A ++ cs).map (frzV st.σ)) = some A') (hσ : ∃ ext, st.σ = hf ext) (hc : closedV y = true) (hy : noOwnV y = true) (hk : MixH P hf os k (st.putO d y)) : OStpH P hf (.call (.fn f cs) A) d os k st := by
  obtain ⟨ext, hσ⟩ := hσ
  refine ⟨y, ext, .inl ⟨fun st' κ hs hκ => ?_, hσ⟩, by rw [withσ_self hσ]; exact hk⟩
  refine call_snap false n (by rw [hs]; exact hA) h hc ?_
  rw [took_plain hy, hs]
  exact hκ
end
/-- The end of a function that hands back a list of its own, to be read only. -/
theorem end_whole {t n o : Nat} {es : List (List PV)} {sz : Nat} {ty : TypeId} {arr frz : Bool} {Q : PV → Prop} {e : MExit} {st : St} (he : ∀ i, e ≠ .exit i) (ht : st.τ t = .ref o n 0 n none)
    (ho : st.σ[o]? = some (some ⟨es, sz, ty, arr, frz⟩)) (hn : es.length = n) (hp : ∀ e, e ∈ es → pureL e = true) (hq : Q (.imm es [] false)) : endP [.t t] Q e st :=
  end_snap 3 _ he (by rw [ht]; exact snapV_ref ho hn hp) hq
theorem strs_pure {l : List (List UInt8)} : ∀ e, e ∈ l.map (fun s => [PV.str s]) → pureL e = true := by
  intro e he
  obtain ⟨s, _, rfl⟩ := List.mem_map.1 he
  rfl
end Go.Mach

/- The walkers: what is done again and again in a walk, laid as the way in which an argument that is not told is found. -/
namespace Go.Mach
/-! Short words for the small language. -/
namespace Z
abbrev k (d : Nat) (o : MOp) : MOper := ⟨some d, o, none⟩
abbrev g (d : Nat) (o : MOp) (x : Nat) (y : Bool) : MOper := ⟨some d, o, some (x, y)⟩
abbrev n (o : MOp) : MOper := ⟨none, o, none⟩
abbrev m (d x : Nat) : MOper := ⟨some d, .mov (.t x), none⟩
abbrev t (x : Nat) : MX := .t x
abbrev i (x : Int) : MX := .c (.int .i64 x)
abbrev b (x : Bool) : MX := .c (.bool x)
abbrev s (x : List UInt8) : MX := .c (.str x)
abbrev c (f : Nat) (a : List MX) : MOp := .call (.c (.fn f [])) a
abbrev r (o : List MOper) : MC := .reg o
abbrev q (x y : MC) : MC := .seq x y
end Z
theorem hy0 : ∀ z : Bool, (z == z) = true := by decide
theorem wk0 {P : Prop} (hP : P := by
  repeat' first
    | ((first | refine gv_split (fun h => ?_) (fun h => ?_) | refine cnd_split (fun h => ?_) (fun h => ?_) | refine cgv_split (fun h => ?_) (fun h => ?_)) <;> (try (have hp := h; simp at hp)) <;> simp -implicitDefEqProofs [-List.map_take, -List.map_drop, go_sem, h, hy])
    | (refine And.intro (by first | omega | (simp only [maxLen]; omega) | (simp_all; done) | (simp_all; omega)) ?_; try simp -implicitDefEqProofs [-List.map_take, -List.map_drop, go_sem, hy])
    | (refine run_dreg' (by decide) ?_; simp -implicitDefEqProofs [-List.map_take, -List.map_drop, go_sem, hy])
    | ((first | refine end_tup _ (by simp) (by simp [go_sem]; rfl) (by simp [go_sem]) ?_); first | (simp [go_sem, *]; done) | grind | (simp [go_sem, hdf]; grind) | (simp_all [go_sem]; done) | (simp_all [go_sem]; omega))) : P := hP
theorem wk0n {P : Prop} (hP : P := by
  repeat' first
    | ((first | refine gv_split (fun h => ?_) (fun h => ?_) | refine cnd_split (fun h => ?_) (fun h => ?_) | refine cgv_split (fun h => ?_) (fun h => ?_)) <;> (try (have hp := h; simp at hp)) <;> simp -implicitDefEqProofs [-List.map_take, -List.map_drop, go_sem, h, hy])
    | (refine And.intro (by first | omega | (simp only [maxLen]; omega) | (simp_all; done) | (simp_all; omega)) ?_; try simp -implicitDefEqProofs [-List.map_take, -List.map_drop, go_sem, hy])
    | (refine run_dreg' (by decide) ?_; simp -implicitDefEqProofs [-List.map_take, -List.map_drop, go_sem, hy])
    | ((first | refine kx_next () hlt0 (gh_auto (by simp [go_sem, eL, wrap_succ hlt0 hm0, hy])) ?_ | refine end_tup _ (by simp) (by simp [go_sem]; rfl) (by simp [go_sem]) ?_); first | (simp [go_sem, *]; done) | grind | (simp [go_sem, hdf]; grind) | (simp_all [go_sem]; done) | (simp_all [go_sem]; omega))) : P := hP
theorem wk1 {P : Prop} (hP : P := by
  repeat' first
    | ((first | refine gv_split (fun h => ?_) (fun h => ?_) | refine cnd_split (fun h => ?_) (fun h => ?_) | refine cgv_split (fun h => ?_) (fun h => ?_)) <;> (try (have hp := h; simp at hp)) <;> simp -implicitDefEqProofs [-List.map_take, -List.map_drop, go_sem, h, hy])
    | (refine And.intro (by first | omega | (simp only [maxLen]; omega) | (simp_all; done) | (simp_all; omega)) ?_; try simp -implicitDefEqProofs [-List.map_take, -List.map_drop, go_sem, hy])
    | ((first | refine stp_ct c1 (by simp [go_sem, hy]) ?_ ?_ | refine cstp_ct c1 (by simp [go_sem, hy]) ?_ ?_ | refine stp_ct c2 (by simp [go_sem, hy]) ?_ ?_ | refine cstp_ct c2 (by simp [go_sem, hy]) ?_ ?_ | refine stp_ct c3 (by simp [go_sem, hy]) ?_ ?_ | refine cstp_ct c3 (by simp [go_sem, hy]) ?_ ?_ | refine stp_ct c4 (by simp [go_sem, hy]) ?_ ?_ | refine cstp_ct c4 (by simp [go_sem, hy]) ?_ ?_ | refine stp_ct c5 (by simp [go_sem, hy]) ?_ ?_ | refine cstp_ct c5 (by simp [go_sem, hy]) ?_ ?_ | refine stp_ct c6 (by simp [go_sem, hy]) ?_ ?_ | refine cstp_ct c6 (by simp [go_sem, hy]) ?_ ?_ | refine stp_ct c7 (by simp [go_sem, hy]) ?_ ?_ | refine cstp_ct c7 (by simp [go_sem, hy]) ?_ ?_ | refine stp_ct c8 (by simp [go_sem, hy]) ?_ ?_ | refine cstp_ct c8 (by simp [go_sem, hy]) ?_ ?_ | refine stp_ct c9 (by simp [go_sem, hy]) ?_ ?_ | refine cstp_ct c9 (by simp [go_sem, hy]) ?_ ?_ | refine stp_ct c10 (by simp [go_sem, hy]) ?_ ?_ | refine cstp_ct c10 (by simp [go_sem, hy]) ?_ ?_ | refine stp_ct c11 (by simp [go_sem, hy]) ?_ ?_ | refine cstp_ct c11 (by simp [go_sem, hy]) ?_ ?_ | refine stp_ct c12 (by simp [go_sem, hy]) ?_ ?_ | refine cstp_ct c12 (by simp [go_sem, hy]) ?_ ?_ | refine stp_ct (d1 _) (by simp [go_sem, hy]) ?_ ?_ | refine cstp_ct (d1 _) (by simp [go_sem, hy]) ?_ ?_ | refine stp_ct (d2 _) (by simp [go_sem, hy]) ?_ ?_ | refine cstp_ct (d2 _) (by simp [go_sem, hy]) ?_ ?_ | refine stp_ct (d3 _) (by simp [go_sem, hy]) ?_ ?_ | refine cstp_ct (d3 _) (by simp [go_sem, hy]) ?_ ?_ | refine stp_ct (d4 _) (by simp [go_sem, hy]) ?_ ?_ | refine cstp_ct (d4 _) (by simp [go_sem, hy]) ?_ ?_ | refine stp_ct (d5 _) (by simp [go_sem, hy]) ?_ ?_ | refine cstp_ct (d5 _) (by simp [go_sem, hy]) ?_ ?_ | refine stp_ct (d6 _) (by simp [go_sem, hy]) ?_ ?_ | refine cstp_ct (d6 _) (by simp [go_sem, hy]) ?_ ?_ | refine stp_ct (d7 _) (by simp [go_sem, hy]) ?_ ?_ | refine cstp_ct (d7 _) (by simp [go_sem, hy]) ?_ ?_ | refine stp_ct (d8 _) (by simp [go_sem, hy]) ?_ ?_ | refine cstp_ct (d8 _) (by simp [go_sem, hy]) ?_ ?_ | refine stp_ct (f1 _ _) (by simp [go_sem, hy]) ?_ ?_ | refine cstp_ct (f1 _ _) (by simp [go_sem, hy]) ?_ ?_ | refine stp_ct (f2 _ _) (by simp [go_sem, hy]) ?_ ?_ | refine cstp_ct (f2 _ _) (by simp [go_sem, hy]) ?_ ?_ | refine stp_ct (f3 _ _) (by simp [go_sem, hy]) ?_ ?_ | refine cstp_ct (f3 _ _) (by simp [go_sem, hy]) ?_ ?_); (simp [go_sem]); simp -implicitDefEqProofs [-List.map_take, -List.map_drop, go_sem, hy])
    | (refine run_dreg' (by decide) ?_; simp -implicitDefEqProofs [-List.map_take, -List.map_drop, go_sem, hy])
    | ((first | refine end_tup _ (by simp) (by simp [go_sem]; rfl) (by simp [go_sem]) ?_); first | (simp [go_sem, *]; done) | grind | (simp [go_sem, hdf]; grind) | (simp_all [go_sem]; done) | (simp_all [go_sem]; omega))) : P := hP
theorem wk1n {P : Prop} (hP : P := by
  repeat' first
    | ((first | refine gv_split (fun h => ?_) (fun h => ?_) | refine cnd_split (fun h => ?_) (fun h => ?_) | refine cgv_split (fun h => ?_) (fun h => ?_)) <;> (try (have hp := h; simp at hp)) <;> simp -implicitDefEqProofs [-List.map_take, -List.map_drop, go_sem, h, hy])
    | (refine And.intro (by first | omega | (simp only [maxLen]; omega) | (simp_all; done) | (simp_all; omega)) ?_; try simp -implicitDefEqProofs [-List.map_take, -List.map_drop, go_sem, hy])
    | ((first | refine stp_ct c1 (by simp [go_sem, hy]) ?_ ?_ | refine cstp_ct c1 (by simp [go_sem, hy]) ?_ ?_ | refine stp_ct c2 (by simp [go_sem, hy]) ?_ ?_ | refine cstp_ct c2 (by simp [go_sem, hy]) ?_ ?_ | refine stp_ct c3 (by simp [go_sem, hy]) ?_ ?_ | refine cstp_ct c3 (by simp [go_sem, hy]) ?_ ?_ | refine stp_ct c4 (by simp [go_sem, hy]) ?_ ?_ | refine cstp_ct c4 (by simp [go_sem, hy]) ?_ ?_ | refine stp_ct c5 (by simp [go_sem, hy]) ?_ ?_ | refine cstp_ct c5 (by simp [go_sem, hy]) ?_ ?_ | refine stp_ct c6 (by simp [go_sem, hy]) ?_ ?_ | refine cstp_ct c6 (by simp [go_sem, hy]) ?_ ?_ | refine stp_ct c7 (by simp [go_sem, hy]) ?_ ?_ | refine cstp_ct c7 (by simp [go_sem, hy]) ?_ ?_ | refine stp_ct c8 (by simp [go_sem, hy]) ?_ ?_ | refine cstp_ct c8 (by simp [go_sem, hy]) ?_ ?_ | refine stp_ct c9 (by simp [go_sem, hy]) ?_ ?_ | refine cstp_ct c9 (by simp [go_sem, hy]) ?_ ?_ | refine stp_ct c10 (by simp [go_sem, hy]) ?_ ?_ | refine cstp_ct c10 (by simp [go_sem, hy]) ?_ ?_ | refine stp_ct c11 (by simp [go_sem, hy]) ?_ ?_ | refine cstp_ct c11 (by simp [go_sem, hy]) ?_ ?_ | refine stp_ct c12 (by simp [go_sem, hy]) ?_ ?_ | refine cstp_ct c12 (by simp [go_sem, hy]) ?_ ?_ | refine stp_ct (d1 _) (by simp [go_sem, hy]) ?_ ?_ | refine cstp_ct (d1 _) (by simp [go_sem, hy]) ?_ ?_ | refine stp_ct (d2 _) (by simp [go_sem, hy]) ?_ ?_ | refine cstp_ct (d2 _) (by simp [go_sem, hy]) ?_ ?_ | refine stp_ct (d3 _) (by simp [go_sem, hy]) ?_ ?_ | refine cstp_ct (d3 _) (by simp [go_sem, hy]) ?_ ?_ | refine stp_ct (d4 _) (by simp [go_sem, hy]) ?_ ?_ | refine cstp_ct (d4 _) (by simp [go_sem, hy]) ?_ ?_ | refine stp_ct (d5 _) (by simp [go_sem, hy]) ?_ ?_ | refine cstp_ct (d5 _) (by simp [go_sem, hy]) ?_ ?_ | refine stp_ct (d6 _) (by simp [go_sem, hy]) ?_ ?_ | refine cstp_ct (d6 _) (by simp [go_sem, hy]) ?_ ?_ | refine stp_ct (d7 _) (by simp [go_sem, hy]) ?_ ?_ | refine cstp_ct (d7 _) (by simp [go_sem, hy]) ?_ ?_ | refine stp_ct (d8 _) (by simp [go_sem, hy]) ?_ ?_ | refine cstp_ct (d8 _) (by simp [go_sem, hy]) ?_ ?_ | refine stp_ct (f1 _ _) (by simp [go_sem, hy]) ?_ ?_ | refine cstp_ct (f1 _ _) (by simp [go_sem, hy]) ?_ ?_ | refine stp_ct (f2 _ _) (by simp [go_sem, hy]) ?_ ?_ | refine cstp_ct (f2 _ _) (by simp [go_sem, hy]) ?_ ?_ | refine stp_ct (f3 _ _) (by simp [go_sem, hy]) ?_ ?_ | refine cstp_ct (f3 _ _) (by simp [go_sem, hy]) ?_ ?_); (simp [go_sem]); simp -implicitDefEqProofs [-List.map_take, -List.map_drop, go_sem, hy])
    | (refine run_dreg' (by decide) ?_; simp -implicitDefEqProofs [-List.map_take, -List.map_drop, go_sem, hy])
    | ((first | refine kx_next () hlt0 (gh_auto (by simp [go_sem, eL, wrap_succ hlt0 hm0, hy])) ?_ | refine end_tup _ (by simp) (by simp [go_sem]; rfl) (by simp [go_sem]) ?_); first | (simp [go_sem, *]; done) | grind | (simp [go_sem, hdf]; grind) | (simp_all [go_sem]; done) | (simp_all [go_sem]; omega))) : P := hP
theorem wk2 {P : Prop} (hP : P := by
  repeat' first
    | ((first | refine gv_split (fun h => ?_) (fun h => ?_) | refine cnd_split (fun h => ?_) (fun h => ?_) | refine cgv_split (fun h => ?_) (fun h => ?_)) <;> (try (have hp := h; simp at hp)) <;> simp -implicitDefEqProofs [-List.map_take, -List.map_drop, go_sem, h, hy])
    | (refine And.intro (by first | omega | (simp only [maxLen]; omega) | (simp_all; done) | (simp_all; omega)) ?_; try simp -implicitDefEqProofs [-List.map_take, -List.map_drop, go_sem, hy])
    | ((first | refine stp_ct c1 (by simp [go_sem, hy]) ?_ ?_ | refine cstp_ct c1 (by simp [go_sem, hy]) ?_ ?_ | refine stp_ct c2 (by simp [go_sem, hy]) ?_ ?_ | refine cstp_ct c2 (by simp [go_sem, hy]) ?_ ?_ | refine stp_ct c3 (by simp [go_sem, hy]) ?_ ?_ | refine cstp_ct c3 (by simp [go_sem, hy]) ?_ ?_ | refine stp_ct c4 (by simp [go_sem, hy]) ?_ ?_ | refine cstp_ct c4 (by simp [go_sem, hy]) ?_ ?_ | refine stp_ct c5 (by simp [go_sem, hy]) ?_ ?_ | refine cstp_ct c5 (by simp [go_sem, hy]) ?_ ?_ | refine stp_ct c6 (by simp [go_sem, hy]) ?_ ?_ | refine cstp_ct c6 (by simp [go_sem, hy]) ?_ ?_ | refine stp_ct c7 (by simp [go_sem, hy]) ?_ ?_ | refine cstp_ct c7 (by simp [go_sem, hy]) ?_ ?_ | refine stp_ct c8 (by simp [go_sem, hy]) ?_ ?_ | refine cstp_ct c8 (by simp [go_sem, hy]) ?_ ?_ | refine stp_ct c9 (by simp [go_sem, hy]) ?_ ?_ | refine cstp_ct c9 (by simp [go_sem, hy]) ?_ ?_ | refine stp_ct c10 (by simp [go_sem, hy]) ?_ ?_ | refine cstp_ct c10 (by simp [go_sem, hy]) ?_ ?_ | refine stp_ct c11 (by simp [go_sem, hy]) ?_ ?_ | refine cstp_ct c11 (by simp [go_sem, hy]) ?_ ?_ | refine stp_ct c12 (by simp [go_sem, hy]) ?_ ?_ | refine cstp_ct c12 (by simp [go_sem, hy]) ?_ ?_ | refine stp_ct (d1 _) (by simp [go_sem, hy]) ?_ ?_ | refine cstp_ct (d1 _) (by simp [go_sem, hy]) ?_ ?_ | refine stp_ct (d2 _) (by simp [go_sem, hy]) ?_ ?_ | refine cstp_ct (d2 _) (by simp [go_sem, hy]) ?_ ?_ | refine stp_ct (d3 _) (by simp [go_sem, hy]) ?_ ?_ | refine cstp_ct (d3 _) (by simp [go_sem, hy]) ?_ ?_ | refine stp_ct (d4 _) (by simp [go_sem, hy]) ?_ ?_ | refine cstp_ct (d4 _) (by simp [go_sem, hy]) ?_ ?_ | refine stp_ct (d5 _) (by simp [go_sem, hy]) ?_ ?_ | refine cstp_ct (d5 _) (by simp [go_sem, hy]) ?_ ?_ | refine stp_ct (d6 _) (by simp [go_sem, hy]) ?_ ?_ | refine cstp_ct (d6 _) (by simp [go_sem, hy]) ?_ ?_ | refine stp_ct (d7 _) (by simp [go_sem, hy]) ?_ ?_ | refine cstp_ct (d7 _) (by simp [go_sem, hy]) ?_ ?_ | refine stp_ct (d8 _) (by simp [go_sem, hy]) ?_ ?_ | refine cstp_ct (d8 _) (by simp [go_sem, hy]) ?_ ?_ | refine stp_ct (f1 _ _) (by simp [go_sem, hy]) ?_ ?_ | refine cstp_ct (f1 _ _) (by simp [go_sem, hy]) ?_ ?_ | refine stp_ct (f2 _ _) (by simp [go_sem, hy]) ?_ ?_ | refine cstp_ct (f2 _ _) (by simp [go_sem, hy]) ?_ ?_ | refine stp_ct (f3 _ _) (by simp [go_sem, hy]) ?_ ?_ | refine cstp_ct (f3 _ _) (by simp [go_sem, hy]) ?_ ?_); (simp [go_sem]); simp -implicitDefEqProofs [-List.map_take, -List.map_drop, go_sem, hy])
    | ((first | refine cstp_snap 3 s1 (snap_whole (by first | rfl | (simp [go_sem]; rfl)) (by simp) (by simp [go_sem]) (by simp [go_sem])) ?_ ?_ ?_ | refine stp_snap 3 s1 (snap_whole (by first | rfl | (simp [go_sem]; rfl)) (by simp) (by simp [go_sem]) (by simp [go_sem])) ?_ ?_ ?_ | refine cstp_snap 3 s2 (snap_whole (by first | rfl | (simp [go_sem]; rfl)) (by simp) (by simp [go_sem]) (by simp [go_sem])) ?_ ?_ ?_ | refine stp_snap 3 s2 (snap_whole (by first | rfl | (simp [go_sem]; rfl)) (by simp) (by simp [go_sem]) (by simp [go_sem])) ?_ ?_ ?_ | refine cstp_snap 3 s3 (snap_whole (by first | rfl | (simp [go_sem]; rfl)) (by simp) (by simp [go_sem]) (by simp [go_sem])) ?_ ?_ ?_ | refine stp_snap 3 s3 (snap_whole (by first | rfl | (simp [go_sem]; rfl)) (by simp) (by simp [go_sem]) (by simp [go_sem])) ?_ ?_ ?_ | refine cstp_snap 3 s4 (snap_whole (by first | rfl | (simp [go_sem]; rfl)) (by simp) (by simp [go_sem]) (by simp [go_sem])) ?_ ?_ ?_ | refine stp_snap 3 s4 (snap_whole (by first | rfl | (simp [go_sem]; rfl)) (by simp) (by simp [go_sem]) (by simp [go_sem])) ?_ ?_ ?_ | refine stp_snap 3 s1 (snap_clo (by simp [go_sem]) (by simp [go_sem]; rfl) rfl rfl (by simp [go_sem])) ?_ ?_ ?_ | refine stp_snap 3 s2 (snap_clo (by simp [go_sem]) (by simp [go_sem]; rfl) rfl rfl (by simp [go_sem])) ?_ ?_ ?_ | refine stp_snap 3 s3 (snap_clo (by simp [go_sem]) (by simp [go_sem]; rfl) rfl rfl (by simp [go_sem])) ?_ ?_ ?_ | refine stp_snap 3 s4 (snap_clo (by simp [go_sem]) (by simp [go_sem]; rfl) rfl rfl (by simp [go_sem])) ?_ ?_ ?_); (simp [closedV]); (simp [go_sem]); simp -implicitDefEqProofs [-List.map_take, -List.map_drop, go_sem, hy])
    | (refine run_dreg' (by decide) ?_; simp -implicitDefEqProofs [-List.map_take, -List.map_drop, go_sem, hy])
    | ((first | refine end_tup _ (by simp) (by simp [go_sem]; rfl) (by simp [go_sem]) ?_); first | (simp [go_sem, *]; done) | grind | (simp [go_sem, hdf]; grind) | (simp_all [go_sem]; done) | (simp_all [go_sem]; omega))) : P := hP
theorem wk2n {P : Prop} (hP : P := by
  repeat' first
    | ((first | refine gv_split (fun h => ?_) (fun h => ?_) | refine cnd_split (fun h => ?_) (fun h => ?_) | refine cgv_split (fun h => ?_) (fun h => ?_)) <;> (try (have hp := h; simp at hp)) <;> simp -implicitDefEqProofs [-List.map_take, -List.map_drop, go_sem, h, hy])
    | (refine And.intro (by first | omega | (simp only [maxLen]; omega) | (simp_all; done) | (simp_all; omega)) ?_; try simp -implicitDefEqProofs [-List.map_take, -List.map_drop, go_sem, hy])
    | ((first | refine stp_ct c1 (by simp [go_sem, hy]) ?_ ?_ | refine cstp_ct c1 (by simp [go_sem, hy]) ?_ ?_ | refine stp_ct c2 (by simp [go_sem, hy]) ?_ ?_ | refine cstp_ct c2 (by simp [go_sem, hy]) ?_ ?_ | refine stp_ct c3 (by simp [go_sem, hy]) ?_ ?_ | refine cstp_ct c3 (by simp [go_sem, hy]) ?_ ?_ | refine stp_ct c4 (by simp [go_sem, hy]) ?_ ?_ | refine cstp_ct c4 (by simp [go_sem, hy]) ?_ ?_ | refine stp_ct c5 (by simp [go_sem, hy]) ?_ ?_ | refine cstp_ct c5 (by simp [go_sem, hy]) ?_ ?_ | refine stp_ct c6 (by simp [go_sem, hy]) ?_ ?_ | refine cstp_ct c6 (by simp [go_sem, hy]) ?_ ?_ | refine stp_ct c7 (by simp [go_sem, hy]) ?_ ?_ | refine cstp_ct c7 (by simp [go_sem, hy]) ?_ ?_ | refine stp_ct c8 (by simp [go_sem, hy]) ?_ ?_ | refine cstp_ct c8 (by simp [go_sem, hy]) ?_ ?_ | refine stp_ct c9 (by simp [go_sem, hy]) ?_ ?_ | refine cstp_ct c9 (by simp [go_sem, hy]) ?_ ?_ | refine stp_ct c10 (by simp [go_sem, hy]) ?_ ?_ | refine cstp_ct c10 (by simp [go_sem, hy]) ?_ ?_ | refine stp_ct c11 (by simp [go_sem, hy]) ?_ ?_ | refine cstp_ct c11 (by simp [go_sem, hy]) ?_ ?_ | refine stp_ct c12 (by simp [go_sem, hy]) ?_ ?_ | refine cstp_ct c12 (by simp [go_sem, hy]) ?_ ?_ | refine stp_ct (d1 _) (by simp [go_sem, hy]) ?_ ?_ | refine cstp_ct (d1 _) (by simp [go_sem, hy]) ?_ ?_ | refine stp_ct (d2 _) (by simp [go_sem, hy]) ?_ ?_ | refine cstp_ct (d2 _) (by simp [go_sem, hy]) ?_ ?_ | refine stp_ct (d3 _) (by simp [go_sem, hy]) ?_ ?_ | refine cstp_ct (d3 _) (by simp [go_sem, hy]) ?_ ?_ | refine stp_ct (d4 _) (by simp [go_sem, hy]) ?_ ?_ | refine cstp_ct (d4 _) (by simp [go_sem, hy]) ?_ ?_ | refine stp_ct (d5 _) (by simp [go_sem, hy]) ?_ ?_ | refine cstp_ct (d5 _) (by simp [go_sem, hy]) ?_ ?_ | refine stp_ct (d6 _) (by simp [go_sem, hy]) ?_ ?_ | refine cstp_ct (d6 _) (by simp [go_sem, hy]) ?_ ?_ | refine stp_ct (d7 _) (by simp [go_sem, hy]) ?_ ?_ | refine cstp_ct (d7 _) (by simp [go_sem, hy]) ?_ ?_ | refine stp_ct (d8 _) (by simp [go_sem, hy]) ?_ ?_ | refine cstp_ct (d8 _) (by simp [go_sem, hy]) ?_ ?_ | refine stp_ct (f1 _ _) (by simp [go_sem, hy]) ?_ ?_ | refine cstp_ct (f1 _ _) (by simp [go_sem, hy]) ?_ ?_ | refine stp_ct (f2 _ _) (by simp [go_sem, hy]) ?_ ?_ | refine cstp_ct (f2 _ _) (by simp [go_sem, hy]) ?_ ?_ | refine stp_ct (f3 _ _) (by simp [go_sem, hy]) ?_ ?_ | refine cstp_ct (f3 _ _) (by simp [go_sem, hy]) ?_ ?_); (simp [go_sem]); simp -implicitDefEqProofs [-List.map_take, -List.map_drop, go_sem, hy])
    | ((first | refine cstp_snap 3 s1 (snap_whole (by first | rfl | (simp [go_sem]; rfl)) (by simp) (by simp [go_sem]) (by simp [go_sem])) ?_ ?_ ?_ | refine stp_snap 3 s1 (snap_whole (by first | rfl | (simp [go_sem]; rfl)) (by simp) (by simp [go_sem]) (by simp [go_sem])) ?_ ?_ ?_ | refine cstp_snap 3 s2 (snap_whole (by first | rfl | (simp [go_sem]; rfl)) (by simp) (by simp [go_sem]) (by simp [go_sem])) ?_ ?_ ?_ | refine stp_snap 3 s2 (snap_whole (by first | rfl | (simp [go_sem]; rfl)) (by simp) (by simp [go_sem]) (by simp [go_sem])) ?_ ?_ ?_ | refine cstp_snap 3 s3 (snap_whole (by first | rfl | (simp [go_sem]; rfl)) (by simp) (by simp [go_sem]) (by simp [go_sem])) ?_ ?_ ?_ | refine stp_snap 3 s3 (snap_whole (by first | rfl | (simp [go_sem]; rfl)) (by simp) (by simp [go_sem]) (by simp [go_sem])) ?_ ?_ ?_ | refine cstp_snap 3 s4 (snap_whole (by first | rfl | (simp [go_sem]; rfl)) (by simp) (by simp [go_sem]) (by simp [go_sem])) ?_ ?_ ?_ | refine stp_snap 3 s4 (snap_whole (by first | rfl | (simp [go_sem]; rfl)) (by simp) (by simp [go_sem]) (by simp [go_sem])) ?_ ?_ ?_ | refine stp_snap 3 s1 (snap_clo (by simp [go_sem]) (by simp [go_sem]; rfl) rfl rfl (by simp [go_sem])) ?_ ?_ ?_ | refine stp_snap 3 s2 (snap_clo (by simp [go_sem]) (by simp [go_sem]; rfl) rfl rfl (by simp [go_sem])) ?_ ?_ ?_ | refine stp_snap 3 s3 (snap_clo (by simp [go_sem]) (by simp [go_sem]; rfl) rfl rfl (by simp [go_sem])) ?_ ?_ ?_ | refine stp_snap 3 s4 (snap_clo (by simp [go_sem]) (by simp [go_sem]; rfl) rfl rfl (by simp [go_sem])) ?_ ?_ ?_); (simp [closedV]); (simp [go_sem]); simp -implicitDefEqProofs [-List.map_take, -List.map_drop, go_sem, hy])
    | (refine run_dreg' (by decide) ?_; simp -implicitDefEqProofs [-List.map_take, -List.map_drop, go_sem, hy])
    | ((first | refine kx_next () hlt0 (gh_auto (by simp [go_sem, eL, wrap_succ hlt0 hm0, hy])) ?_ | refine end_tup _ (by simp) (by simp [go_sem]; rfl) (by simp [go_sem]) ?_); first | (simp [go_sem, *]; done) | grind | (simp [go_sem, hdf]; grind) | (simp_all [go_sem]; done) | (simp_all [go_sem]; omega))) : P := hP
end Go.Mach
