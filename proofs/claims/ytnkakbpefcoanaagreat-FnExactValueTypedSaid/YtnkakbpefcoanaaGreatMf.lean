import Derived.Test.YtnkakbpefcoanaaGreatMe
/- Code and functions. -/
namespace Go.Mach
open Go
set_option linter.unusedVariables false
set_option linter.unusedSimpArgs false

section code
variable {P : Program} {w0 : World} {σ0 : Heap} {ι0 : Place} {X : Nat → Prop} {N : Nat}

def SameX : Exit → MExit → Prop
  | .normal, .normal => True
  | .exit i, .exit j => i = j
  | .ret, .ret => True
  | _, _ => False
/-- What holds at an exit of the pure run holds in memory. -/
def Lift (P : Program) (w0 : World) (σ0 : Heap) (ι0 : Place) (X : Nat → Prop) (N : Nat) (Q : MExit → St → Prop) (e : Exit) (a : Act) (w : World) : Prop :=
  ∃ me st ι, SameX e me ∧ SR P w0 σ0 ι0 X N st a w ι ∧ Q me st

theorem SR.drew {st : St} {a : Act} {w : World} {ι : Place} (h : SR P w0 σ0 ι0 X N st a w ι) : SR P w0 σ0 ι0 X N st a { w with drawn := w.drawn + 1 } ι := by
  have hk : Kept (fun _ => False) w { w with drawn := w.drawn + 1 } := ⟨rfl, rfl, rfl, Nat.le_refl _, fun _ _ _ => rfl, fun b c t fr h => ⟨c, h, rfl⟩, fun _ _ h => h.elim⟩
  have hk' : Kept (Own st.σ ι) w { w with drawn := w.drawn + 1 } := hk.weak fun b _ ho => h.hr.own_cells ho
  exact ⟨h.hr.kept hk, fun t => (h.tm t).mono hk' (Evo.refl _ _ _), h.df, h.sz, h.kept.trans hk fun _ h => h.elim, h.evo, h.g.kept hk fun _ h => h.elim, h.low, h.xs, h.bs⟩

/-- What the proof may do between two rounds. -/
theorem SR.gh (h0 : HR w0 σ0 ι0 X) {st st1 : St} {a : Act} {w : World} {ι : Place} (h : SR P w0 σ0 ι0 X N st a w ι) (hg : Gh st st1) : ∃ ι', SR P w0 σ0 ι0 X N st1 a w ι' := by
  obtain ⟨hb, gs, σ1, hgs, hcut, ht⟩ := hg
  rw [h.bs] at hcut
  obtain ⟨ι', g1, g2, g3⟩ := h.hr.gops hgs
  refine ⟨ι', HR.cut h0 g1 hcut, fun t => ?_, h.df, h.sz, h.kept, ⟨hcut.2.1, fun o ho ob' hob => ?_, fun b hb => h.evo.own b (g3 b (cut_own hcut hb))⟩, h.g, fun b hb => h.low b (g3 b (cut_own hcut hb)), h.xs, hb.trans h.bs⟩
  · rcases ht t with h1 | ⟨h1, h2⟩
    · rw [h1]; exact .undef _
    · rw [h1]; exact ((h.tm t).sub g2).cut hcut h2
  · obtain ⟨ob1, h1, b1, b2, b3, b4, b5⟩ := g2.obj o (Nat.lt_of_lt_of_le ho h.evo.len) ob' (cut_get hcut hob)
    obtain ⟨ob, h0', c1, c2, c3, c4, c5⟩ := h.evo.obj o ho ob1 h1
    exact ⟨ob, h0', b1.trans c1, b2.trans c2, by omega, fun e => b4.trans (c4 (by omega)), fun h => c5 (b5 h)⟩

/-- A new object that is but read from now on. -/
theorem SR.imm (h0 : HR w0 σ0 ι0 X) {st : St} {a a1 : Act} {w w1 : World} {ι ι1 : Place} (hs : SR P w0 σ0 ι0 X N st a w ι) {ob : AObj} {d : Option Nat} {v iv : PV} {n : Nat}
    (h : SR P w0 σ0 ι0 X N ((st.withσ (st.σ ++ [some ob])).putO d v) a1 w1 ι1) (hsn : snapV (st.σ ++ [some ob]) st.σ.length n v = some iv) : SR P w0 σ0 ι0 X N (st.putO d iv) a1 w1 ι1 := by
  have e1 : ((st.withσ (st.σ ++ [some ob])).putO d v).σ = st.σ ++ [some ob] := by cases d <;> rfl
  have e2 : (st.putO d iv).σ = st.σ := by cases d <;> rfl
  have e3 : (st.putO d iv).base = ((st.withσ (st.σ ++ [some ob])).putO d v).base := by cases d <;> rfl
  have hr := h.hr
  rw [e1] at hr
  have hcut : CutTo σ0 (st.σ ++ [some ob]) st.σ.length st.σ := by
    refine ⟨rfl, hs.evo.len, by simp, fun o ho => ?_⟩
    rw [List.getElem?_append_left ho]
    cases hx : st.σ[o]? with
    | none => rw [List.getElem?_eq_none_iff] at hx; omega
    | some x => cases x with
      | none => exact .inl rfl
      | some ob1 =>
        refine .inr (.inr ⟨ob1, rfl, rfl, List.all_eq_true.2 fun e he => List.all_eq_true.2 fun x hxe => ?_⟩)
        obtain ⟨j, hj, hjx⟩ := List.getElem_of_mem (List.mem_flatten_of_mem he hxe)
        obtain ⟨cur, _, _, _, _, _, c6⟩ := hs.hr.obj o ob1 hx
        obtain ⟨u, _, hu⟩ := c6 j x (by rw [← hjx]; exact List.getElem?_eq_getElem hj)
        exact bd_of_vr hu.1
  have hev := h.evo
  rw [e1] at hev
  have hlow := h.low
  rw [e1] at hlow
  refine ⟨by rw [e2]; exact HR.cut h0 hr hcut, fun t => ?_, h.df, h.sz, h.kept, by rw [e2]; exact ⟨hcut.2.1, fun o ho ob' hob => hev.obj o ho ob' (cut_get hcut hob), fun b hb => hev.own b (cut_own hcut hb)⟩, h.g, by rw [e2]; exact fun b hb => hlow b (cut_own hcut hb), h.xs, e3.trans h.bs⟩
  have ht := h.tm t
  rw [e1] at ht
  rw [e2]
  by_cases hd : d = some t
  · subst hd
    have ea : (st.putO (some t) iv).τ t = iv := by simp [St.putO, St.put]
    have eb : ((st.withσ (st.σ ++ [some ob])).putO (some t) v).τ t = v := by simp [St.putO, St.put]
    rw [eb] at ht
    rw [ea]
    have := snap_ok hr n v iv _ hsn ht
    refine .im _ _ (this.mono fun b _ hb => ⟨⟨fun ho => hb.1 ?_, hb.2⟩, rfl⟩)
    rwa [List.take_left]
  · have ea : (st.putO d iv).τ t = st.τ t := by
      cases d with
      | none => rfl
      | some d => simp [St.putO, St.put]; intro e; exact absurd (by rw [e]) hd
    have eb : ((st.withσ (st.σ ++ [some ob])).putO d v).τ t = st.τ t := by
      cases d with
      | none => rfl
      | some d => simp [St.putO, St.put, St.withσ]; intro e; exact absurd (by rw [e]) hd
    rw [eb] at ht
    rw [ea]
    exact ht.cut hcut (bd_of_vr (hs.tm t))

theorem trO_mapM {α β : Type} {f : α → Option β} : ∀ {l : List α} {m : List β}, l.mapM f = some m → l.length = m.length ∧ ∀ (i : Nat) (x : α), l[i]? = some x → ∃ y, m[i]? = some y ∧ f x = some y
  | [], m, h => by simp at h; subst h; simp
  | x :: l, m, h => by
    simp only [List.mapM_cons, Option.bind_eq_bind, Option.pure_def, Option.bind_eq_some_iff, Option.some.injEq] at h
    obtain ⟨y, hy, m', hm, rfl⟩ := h
    obtain ⟨h1, h2⟩ := trO_mapM hm
    refine ⟨by simp [h1], fun i z hz => ?_⟩
    cases i with
    | zero => simp at hz; subst hz; exact ⟨y, rfl, hy⟩
    | succ i => simpa using h2 i z (by simpa using hz)

def trD (P : Program) (ops : Array Oper) (o : Oper) : Option (MOper × List Nat) := do pure (← trOper P ops o, (o.after.toList.filter (Region.binds .any)).map (fun e : Edge => e.on))

theorem rdy_eq {ops : Array Oper} {ms : List (MOper × List Nat)} (hm : ops.toList.mapM (trD P ops) = some ms) (done : List Bool) : Region.ready .any ops done.toArray = rdy ms done := by
  obtain ⟨h1, h2⟩ := trO_mapM hm
  unfold Region.ready rdy
  have : ops.size = ms.length := by rw [← h1]; simp
  rw [this]
  apply List.filter_congr
  intro i hi
  have hlt : i < ops.size := by rw [this]; simpa using hi
  have hgd : ∀ (j : Nat) (d : Bool), done.toArray.getD j d = done.getD j d := by intro j d; simp [Array.getD_eq_getD_getElem?, List.getD_eq_getElem?_getD]
  rw [hgd]
  congr 1
  have ho : ops[i]? = some ops[i] := Array.getElem?_eq_getElem hlt
  obtain ⟨y, hy, hf⟩ := h2 i ops[i] (by simp [hlt])
  rw [ho, hy]
  simp only [trD, Option.bind_eq_bind, Option.pure_def, Option.bind_eq_some_iff, Option.some.injEq] at hf
  obtain ⟨mo, _, rfl⟩ := hf
  simp only [Option.map_some, Option.getD_some]
  rw [← Array.all_toList]
  rw [List.all_map, List.all_filter]
  congr 1
  funext e
  simp only [Function.comp, hgd]

theorem any_sound (h0 : HR w0 σ0 ι0 X) {ops : Array Oper} {ms : List (MOper × List Nat)} (hm : ops.toList.mapM (trD P ops) = some ms) (hfit : (ms.all fun o => fitO N o.1) = true) {Q : Exit → Act → World → Prop} {k : St → Prop} (hQ : ∀ st a w ι, SR P w0 σ0 ι0 X N st a w ι → k st → Q .normal a w) :
    ∀ (n : Nat) (done : List Bool) (st : St) (a : Act) (w : World) (ι : Place), SR P w0 σ0 ι0 X N st a w ι → wany P ms k n done st → wpAny P .any ops Q n done.toArray a w
  | 0, done, st, a, w, ι, hs, h => by
    refine ⟨?_, hQ st a w ι hs h.2⟩
    rw [rdy_eq hm]; exact h.1
  | n + 1, done, st, a, w, ι, hs, h => by
    refine ⟨fun hr => hQ st a w ι hs (h.1 (by rw [← rdy_eq hm]; exact hr)), fun i hi => ?_⟩
    rw [rdy_eq hm] at hi
    obtain ⟨h1, h2⟩ := trO_mapM hm
    unfold wpOp
    have hlt : i < ms.length := by
      unfold rdy at hi
      have := (List.mem_filter.1 hi).1
      simpa using this
    have hlt' : i < ops.size := by have : ops.toList.length = ms.length := h1; simp at this; omega
    have ho : ops[i]? = some ops[i] := Array.getElem?_eq_getElem hlt'
    rw [ho]
    obtain ⟨y, hy, hf⟩ := h2 i ops[i] (by simp [hlt'])
    simp only [trD, Option.bind_eq_bind, Option.pure_def, Option.bind_eq_some_iff, Option.some.injEq] at hf
    obtain ⟨mo, hmo, rfl⟩ := hf
    have hfi := List.all_eq_true.1 hfit _ (List.mem_of_getElem? hy)
    have := h.2 i _ hi hy
    have hset : done.toArray.setIfInBounds i true = (done.set i true).toArray := by simp
    rw [hset]
    rcases this with this | ⟨hg, p, v, σ', iv, hev, hp, ⟨ob, m, rfl, hsn⟩, hk⟩
    · exact op_sound (k := wany P ms k n (done.set i true)) (fun st a w ι h1 h2 => any_sound h0 hm hfit hQ n _ st a w ι h1 h2) hmo hfi hs this
    · have h1 : wop1 P mo (fun st1 => st1 = (st.withσ (st.σ ++ [some ob])).putO mo.dst v) st := by
        unfold wop1
        rw [hg]
        simp only [hev]
        exact ⟨hp, trivial⟩
      exact op_sound (k := fun st1 => st1 = (st.withσ (st.σ ++ [some ob])).putO mo.dst v) (fun st1 a1 w1 ι1 h1 h2 => any_sound h0 hm hfit hQ n _ _ a1 w1 ι1 (hs.imm h0 (by rw [h2] at h1; exact h1) hsn) hk) hmo hfi hs h1

theorem code_sound (hmix : P.follows .mixedOrders = true) (h0 : HR w0 σ0 ι0 X) : ∀ (c : Code) (mc : MC), trC P c = some mc → fitC N mc = true → ∀ (Q : MExit → St → Prop) (st : St) (a : Act) (w : World) (ι : Place),
    SR P w0 σ0 ι0 X N st a w ι → awp P mc Q st → c.wp P (Lift P w0 σ0 ι0 X N Q) a w
  | .skip, mc, hm, _, Q, st, a, w, ι, hs, h => by
    simp [trC] at hm; subst hm
    exact wp_skip ⟨.normal, st, ι, trivial, hs, h⟩
  | .region id ops false, mc, hm, hf, Q, st, a, w, ι, hs, h => by
    simp only [trC, Option.map_eq_some_iff] at hm
    obtain ⟨ms, hms, rfl⟩ := hm
    exact wp_region_list (ops_sound (fun st a w ι h1 h2 => ⟨.normal, st, ι, trivial, h1, h2⟩) _ _ st a w ι hms hf hs h)
  | .region id ops true, mc, hm, hf, Q, st, a, w, ι, hs, h => by
    simp only [trC, Option.map_eq_some_iff] at hm
    obtain ⟨ms, hms, rfl⟩ := hm
    have hlen : ops.size = ms.length := by have := (trO_mapM hms).1; simpa using this
    refine wp_region_any hmix ?_
    have := any_sound h0 (k := Q .normal) (Q := Lift P w0 σ0 ι0 X N Q) hms hf (fun st a w ι h1 h2 => ⟨.normal, st, ι, trivial, h1, h2⟩) ms.length (List.replicate ms.length false) st a _ ι hs.drew h
    rw [hlen]
    simpa using this
  | .seq x y, mc, hm, hf, Q, st, a, w, ι, hs, h => by
    simp only [trC, Option.bind_eq_bind, Option.pure_def, Option.bind_eq_some_iff, Option.some.injEq] at hm
    obtain ⟨mx, hx, my, hy, rfl⟩ := hm
    simp only [fitC, Bool.and_eq_true] at hf
    refine wp_seq (wp_mono (code_sound hmix h0 x mx hx hf.1 _ st a w ι hs h) ?_)
    rintro e a' w' ⟨me, st', ι', he, hs', hq⟩
    cases e <;> cases me <;> simp only [SameX] at he
    · exact code_sound hmix h0 y my hy hf.2 Q st' a' w' ι' hs' hq
    · subst he; exact ⟨.exit _, st', ι', rfl, hs', hq⟩
    · exact ⟨.ret, st', ι', trivial, hs', hq⟩
  | .cond x c d, mc, hm, hf, Q, st, a, w, ι, hs, h => by
    simp only [trC, Option.bind_eq_bind, Option.pure_def, Option.bind_eq_some_iff, Option.some.injEq] at hm
    obtain ⟨mx, hx, mc', hc, md, hd, rfl⟩ := hm
    simp only [fitC, Bool.and_eq_true] at hf
    have hv := hs.get hx
    simp only [awp] at h
    split at h
    · rename_i hg
      rw [hg] at hv
      exact wp_cond_true hv.of_bool (code_sound hmix h0 c mc' hc hf.1 Q st a w ι hs h)
    · rename_i hg
      rw [hg] at hv
      exact wp_cond_false hv.of_bool (code_sound hmix h0 d md hd hf.2 Q st a w ι hs h)
    · exact h.elim
  | .block id c, mc, hm, hf, Q, st, a, w, ι, hs, h => by
    simp only [trC, Option.map_eq_some_iff] at hm
    obtain ⟨mc', hc, rfl⟩ := hm
    refine wp_block (wp_mono (code_sound hmix h0 c mc' hc hf _ st a w ι hs h) ?_)
    rintro e a' w' ⟨me, st', ι', he, hs', hq⟩
    cases e <;> cases me <;> simp only [SameX] at he
    · exact ⟨.normal, st', ι', trivial, hs', hq⟩
    · subst he
      simp only [Exit.inBlock]
      simp only at hq
      split
      · rename_i hid; rw [if_pos hid] at hq; exact ⟨.normal, st', ι', trivial, hs', hq⟩
      · rename_i hid; rw [if_neg hid] at hq; exact ⟨.exit _, st', ι', rfl, hs', hq⟩
    · exact ⟨.ret, st', ι', trivial, hs', hq⟩
  | .loop c, mc, hm, hf, Q, st, a, w, ι, hs, h => by
    simp only [trC, Option.map_eq_some_iff] at hm
    obtain ⟨mc', hc, rfl⟩ := hm
    obtain ⟨I, n, ⟨st1, hgs, hI⟩, hround⟩ := h
    obtain ⟨ι1, hs1⟩ := hs.gh h0 hgs
    refine wp_loop_ghost (fun n a w => ∃ st ι, SR P w0 σ0 ι0 X N st a w ι ∧ I n st) n ⟨_, ι1, hs1, hI⟩ ?_
    rintro n a' w' ⟨st', ι', hs', hI'⟩
    refine wp_mono (code_sound hmix h0 c mc' hc hf _ st' a' w' ι' hs' (hround n st' hI')) ?_
    rintro e a2 w2 ⟨me, st2, ι2, he, hs2, hq⟩
    cases e <;> cases me <;> simp only [SameX] at he
    · obtain ⟨st3, n', hgs2, hlt, hI2⟩ := hq
      obtain ⟨ι3, hs3⟩ := hs2.gh h0 hgs2
      exact ⟨n', hlt, _, ι3, hs3, hI2⟩
    · subst he; exact ⟨.exit _, st2, ι2, rfl, hs2, hq⟩
    · exact ⟨.ret, st2, ι2, trivial, hs2, hq⟩
  | .exit id, mc, hm, _, Q, st, a, w, ι, hs, h => by
    simp [trC] at hm; subst hm
    exact wp_exit ⟨.exit id, st, ι, rfl, hs, h⟩
  | .ret, mc, hm, _, Q, st, a, w, ι, hs, h => by
    simp [trC] at hm; subst hm
    exact wp_ret ⟨.ret, st, ι, trivial, hs, h⟩
  | .rangeFunc .., mc, hm, _, Q, st, a, w, ι, hs, h => by simp [trC] at hm
  | .scope _, mc, hm, _, Q, st, a, w, ι, hs, h => by simp [trC] at hm
  | .label _, mc, hm, _, Q, st, a, w, ι, hs, h => by simp [trC] at hm
  | .goto _, mc, hm, _, Q, st, a, w, ι, hs, h => by simp [trC] at hm
  | .refuse _, mc, hm, _, Q, st, a, w, ι, hs, h => by simp [trC] at hm
end code
end Go.Mach

/- Functions. -/
namespace Go.Mach
open Go
set_option linter.unusedVariables false
set_option linter.unusedSimpArgs false

section take
variable {w : World}
theorem RV.plain {σ : Heap} {ι : Place} {X : Nat → Prop} {x : PV} {v : Value} (hn : noOwnV x = true) (h : VR w σ ι X x v) : RV w σ ι X x v (fun _ => False) := .vr x v _ hn h fun _ h => h
mutual
theorem pure_noOwn : ∀ (x : PV), pureV x = true → noOwnV x = true
  | .agg cs, h => by simp only [noOwnV]; exact pureL_noOwn cs (by simpa [pureV] using h)
  | .tup cs, h => by simp only [noOwnV]; exact pureL_noOwn cs (by simpa [pureV] using h)
  | .fn _ cs, h => by simp only [noOwnV]; exact pureL_noOwn cs (by simpa [pureV] using h)
  | .own .., h => by simp [pureV] at h
  | .bool _, _ => rfl
  | .int _ _, _ => rfl
  | .str _, _ => rfl
  | .nilp, _ => rfl
  | .iptr _, _ => rfl
  | .ptr .., h => by simp [pureV] at h
  | .imm .., _ => rfl
  | .ref .., h => by simp [pureV] at h
  | .nilfn, _ => rfl
  | .nilif, _ => rfl
  | .someif, _ => rfl
  | .undef, h => by simp [pureV] at h
theorem pureL_noOwn : ∀ (xs : List PV), pureL xs = true → noOwnL xs = true
  | [], _ => rfl
  | x :: xs, h => by
    simp only [pureL, Bool.and_eq_true] at h
    simp only [noOwnL, Bool.and_eq_true]
    exact ⟨pure_noOwn x h.1, pureL_noOwn xs h.2⟩
end
/-- What is taken out of the heap to be handed back. -/
def Taken (w : World) (σ : Heap) (ι : Place) (X : Nat → Prop) (σ2 : Heap) (S : Nat → Prop) : Prop :=
  HR w σ2 ι (fun b => X b ∨ S b) ∧ Sub w σ ι X σ2 ι (fun b => X b ∨ S b) ∧ (∀ b, Own σ2 ι b → Own σ ι b) ∧ (∀ b, S b → Own σ ι b) ∧ σ2.length = σ.length
theorem taken_none {σ : Heap} {ι : Place} {X : Nat → Prop} (hh : HR w σ ι X) : Taken w σ ι X σ (fun _ => False) := by
  have : (fun b => X b ∨ False) = X := by funext b; simp
  unfold Taken
  rw [this]
  exact ⟨hh, Sub.refl _ _ _ _, fun b h => h, fun b h => h.elim, rfl⟩
theorem take_plain {m : Nat} {σ : Heap} {ι : Place} {X : Nat → Prop} {x y : PV} {v : Value} {σ2 : Heap} (hh : HR w σ ι X) (hx : VR w σ ι X x v) (h : (if pureV x then some (x, σ) else none) = some (y, σ2)) :
    ∃ S, Taken w σ ι X σ2 S ∧ RV w σ2 ι (fun b => X b ∨ S b) y v S ∧ bdV m y = true := by
  split at h
  · rename_i hp
    cases h
    refine ⟨fun _ => False, taken_none hh, ?_, bd_pure x hp⟩
    have : (fun b => X b ∨ False) = X := by funext b; simp
    rw [this]
    exact .plain (pure_noOwn x hp) hx
  · cases h
mutual
theorem take_ok {m : Nat} : ∀ (x : PV) (σ : Heap) (ι : Place) (X : Nat → Prop) (v : Value) (y : PV) (σ2 : Heap), HR w σ ι X → VR w σ ι X x v → takeV m σ x = some (y, σ2) →
    ∃ S, Taken w σ ι X σ2 S ∧ RV w σ2 ι (fun b => X b ∨ S b) y v S ∧ bdV m y = true
  | .ref o ep lo len cap, σ, ι, X, v, y, σ2, hh, hx, h => by
    simp only [takeV] at h
    split at h
    · rename_i hlt
      cases h
      refine ⟨fun _ => False, taken_none hh, ?_, by simpa [bdV] using hlt⟩
      have : (fun b => X b ∨ False) = X := by funext b; simp
      rw [this]
      exact .plain rfl hx
    · split at h
      · rename_i ob hob
        split at h
        · rename_i hw
          cases h
          have hf : ob.frz = false := by
            simp only [wholeB, Bool.and_eq_true, Bool.not_eq_true'] at hw
            exact hw.1.1.1.2
          obtain ⟨a1, a2, a3⟩ := hh.take hob hf
          refine ⟨_, ⟨a1, a2, a3, ?_, by simp⟩, .tr _ _ _ rfl (hh.tree hx hob hw fun b hb => ?_), rfl⟩
          · rintro b (h | ⟨j, h⟩)
            · exact .inl ⟨o, ob, hob, hf, h⟩
            · exact .inr ⟨o, j, h⟩
          · refine ⟨fun ho => hb.1 (a3 b ho), ?_⟩
            rintro (h | h | ⟨j, h⟩)
            · exact hb.2 h
            · exact hb.1 (.inl ⟨o, ob, hob, hf, h⟩)
            · exact hb.1 (.inr ⟨o, j, h⟩)
        · cases h
      · cases h
  | .ptr o ep i off, σ, ι, X, v, y, σ2, hh, hx, h => by
    simp only [takeV] at h
    split at h
    · rename_i hlt
      cases h
      refine ⟨fun _ => False, taken_none hh, ?_, by simpa [bdV] using hlt⟩
      have : (fun b => X b ∨ False) = X := by funext b; simp
      rw [this]
      exact .plain rfl hx
    · cases h
  | .agg cs, σ, ι, X, v, y, σ2, hh, hx, h => by
    simp only [takeV, Option.map_eq_some_iff] at h
    obtain ⟨⟨ys, σ3⟩, h1, h2⟩ := h
    cases h2
    obtain ⟨us, rfl, hus⟩ := hx.of_agg
    obtain ⟨T, g1, g2, g3, g4, g5⟩ := takeL_ok cs σ ι X us ys _ hh hus h1
    exact ⟨_, g1, .agg ys us _ T g2 g3 (fun b => Iff.rfl) g4, g5⟩
  | .tup cs, σ, ι, X, v, y, σ2, hh, hx, h => by
    simp only [takeV, Option.map_eq_some_iff] at h
    obtain ⟨⟨ys, σ3⟩, h1, h2⟩ := h
    cases h2
    obtain ⟨us, rfl, hus⟩ := hx.of_tup
    obtain ⟨T, g1, g2, g3, g4, g5⟩ := takeL_ok cs σ ι X us ys _ hh hus h1
    exact ⟨_, g1, .tup ys us _ T g2 g3 (fun b => Iff.rfl) g4, g5⟩
  | .bool _, σ, ι, X, v, y, σ2, hh, hx, h => take_plain hh hx h
  | .int _ _, σ, ι, X, v, y, σ2, hh, hx, h => take_plain hh hx h
  | .str _, σ, ι, X, v, y, σ2, hh, hx, h => take_plain hh hx h
  | .nilp, σ, ι, X, v, y, σ2, hh, hx, h => take_plain hh hx h
  | .iptr _, σ, ι, X, v, y, σ2, hh, hx, h => take_plain hh hx h
  | .imm .., σ, ι, X, v, y, σ2, hh, hx, h => take_plain hh hx h
  | .own .., σ, ι, X, v, y, σ2, hh, hx, h => take_plain hh hx h
  | .fn .., σ, ι, X, v, y, σ2, hh, hx, h => take_plain hh hx h
  | .nilfn, σ, ι, X, v, y, σ2, hh, hx, h => take_plain hh hx h
  | .nilif, σ, ι, X, v, y, σ2, hh, hx, h => take_plain hh hx h
  | .someif, σ, ι, X, v, y, σ2, hh, hx, h => take_plain hh hx h
  | .undef, σ, ι, X, v, y, σ2, hh, hx, h => take_plain hh hx h
theorem takeL_ok {m : Nat} : ∀ (xs : List PV) (σ : Heap) (ι : Place) (X : Nat → Prop) (vs : List Value) (ys : List PV) (σ2 : Heap), HR w σ ι X → VRs w σ ι X xs vs → takeL m σ xs = some (ys, σ2) →
    ∃ T : Nat → Nat → Prop, Taken w σ ι X σ2 (fun b => ∃ j, j < ys.length ∧ T j b) ∧ ys.length = vs.length ∧
      (∀ (j : Nat) (x : PV) (v : Value), ys[j]? = some x → vs[j]? = some v → RV w σ2 ι (fun b => X b ∨ ∃ j, j < ys.length ∧ T j b) x v (T j)) ∧
      (∀ (j j' b : Nat), j < ys.length → j' < ys.length → T j b → T j' b → j = j') ∧ bdL m ys = true
  | [], σ, ι, X, vs, ys, σ2, hh, hx, h => by
    simp [takeL] at h
    obtain ⟨rfl, rfl⟩ := h
    have : vs = [] := List.eq_nil_of_length_eq_zero (by simpa using hx.1.symm)
    subst this
    refine ⟨fun _ _ => False, ?_, rfl, by simp, by simp, rfl⟩
    have : (fun b : Nat => ∃ j : Nat, j < ([] : List PV).length ∧ False) = fun _ => False := by funext b; simp
    rw [this]
    exact taken_none hh
  | x :: xs, σ, ι, X, [], ys, σ2, hh, hx, h => by have := hx.1; simp at this
  | x :: xs, σ, ι, X, v :: vs, ys, σ2, hh, hx, h => by
    simp only [takeL] at h
    split at h
    · rename_i y σ1 h1
      simp only [Option.map_eq_some_iff] at h
      obtain ⟨⟨ys', σ3⟩, h2, h3⟩ := h
      cases h3
      obtain ⟨hx1, hx2⟩ := hx.of_cons
      obtain ⟨S, ⟨t1, t2, t3, t4, t5⟩, hr, hb⟩ := take_ok x σ ι X v y σ1 hh hx1 h1
      obtain ⟨T, ⟨u1, u2, u3, u4, u5⟩, hl, hrs, hd, hbs⟩ := takeL_ok xs σ1 ι _ vs ys' _ t1 (hx2.sub t2) h2
      -- the trees together
      let T' : Nat → Nat → Prop := fun j => match j with | 0 => S | j + 1 => T j
      have hX : (fun b => (X b ∨ S b) ∨ ∃ j, j < ys'.length ∧ T j b) = fun b => X b ∨ ∃ j, j < (y :: ys').length ∧ T' j b := by
        funext b
        apply propext
        constructor
        · rintro ((h | h) | ⟨j, hj, h⟩)
          · exact .inl h
          · exact .inr ⟨0, by simp, h⟩
          · exact .inr ⟨j + 1, by simpa using hj, h⟩
        · rintro (h | ⟨j, hj, h⟩)
          · exact .inl (.inl h)
          · cases j with
            | zero => exact .inl (.inr h)
            | succ j => exact .inr ⟨j, by simpa using hj, h⟩
      rw [hX] at u1 u2 hrs
      have hSt : ∀ b j, S b → j < ys'.length → T j b → False := by
        intro b j hs hj ht
        have := u4 b ⟨j, hj, ht⟩
        rcases this with ⟨o, ob, ho, _, rfl⟩ | ⟨o, j', h⟩
        · exact t1.out o ob ho (.inr hs)
        · exact t1.tx o j' b h (.inr hs)
      refine ⟨T', ⟨u1, t2.trans u2, fun b h => t3 b (u3 b h), ?_, u5.trans t5⟩, by simp [hl], ?_, ?_, by simp only [bdL, Bool.and_eq_true]; exact ⟨hb, hbs⟩⟩
      · rintro b ⟨j, hj, h⟩
        cases j with
        | zero => exact t4 b h
        | succ j => exact t3 b (u4 b ⟨j, by simpa using hj, h⟩)
      · intro j z u hz hu
        cases j with
        | zero => simp at hz hu; subst hz; subst hu; exact hr.sub u2
        | succ j => exact hrs j z u (by simpa using hz) (by simpa using hu)
      · intro j j' b hj hj' h h'
        cases j with
        | zero => cases j' with
          | zero => rfl
          | succ j' => exact (hSt b j' h (by simpa using hj') h').elim
        | succ j => cases j' with
          | zero => exact (hSt b j h' (by simpa using hj) h).elim
          | succ j' => rw [hd j j' b (by simpa using hj) (by simpa using hj') h h']
    · cases h
end
end take

section func
variable {P : Program}

/-- A result that lies in a cell is read. -/
theorem cell_read {w : World} {σ : Heap} {ι : Place} {X : Nat → Prop} {t : TypeId} {sz : Nat} {ag : Bool} {x v : PV} {u : Value} (hag : agT P t = some ag) (hsz : szT P t = some sz) (hh : HR w σ ι X) (hx : VR w σ ι X x u) (hl : loadV σ ag sz x = .ok v) :
    ∃ u', (do loadVar t (← asAddr u)).run P w = .ok u' w ∧ VR w σ ι X v u' := by
  have fin : ∀ {a : Addr} {l : List PV} {vs : List Value}, VRs w σ ι X l vs → (∀ (j : Nat) (v : Value), vs[j]? = some v → w.cell? (a.add j) = some v) → loadC ag sz l = .ok v → u = .pointer (some a) → ∃ u', (do loadVar t (← asAddr u)).run P w = .ok u' w ∧ VR w σ ι X v u' := by
    intro a l vs hv hc hlc hu
    subst hu
    unfold loadC at hlc
    cases ag with
    | true =>
      simp only [if_true] at hlc
      split at hlc
      · rename_i hle
        cases hlc
        have hr := run_loadT hag hsz (by rw [← hv.1]; exact hle) (by simp) hc
        have ht := hv.take sz
        exact ⟨_, by simp [asAddr, hr], .agg _ _ ht.1 ht.2⟩
      · cases hlc
    | false =>
      simp only [Bool.false_eq_true, if_false] at hlc
      cases l with
      | nil => cases hlc
      | cons y l =>
        cases hlc
        cases vs with
        | nil => have := hv.1; simp at this
        | cons v0 vs' =>
          have h2 : a.add 0 = a := by simp [Addr.add]
          have h3 := hc 0 v0 rfl
          rw [h2] at h3
          have hagg : (isAgg t).run P w = .ok false w := by
            simp only [agT, Option.map_eq_some_iff] at hag
            obtain ⟨d, hd, hag⟩ := hag
            unfold isAgg
            rw [Sem.run_bind, run_underlying hd w]
            cases d <;> simp_all
          exact ⟨v0, by simp [asAddr, loadVar, hagg, load, Sem.run, h3], hv.of_cons.1⟩
  cases x with
  | iptr l =>
    have h1 := hx.of_iptr
    cases h1 with
    | iptr _ a vs h2 h3 h4 =>
      refine fin (a := a) (l := l) (vs := (List.range l.length).map vs) ⟨by simp, fun j x v hx hv => ?_⟩ (fun j v hv => ?_) hl rfl
      · have hj := (List.getElem?_eq_some_iff.1 hx).1
        simp [List.getElem?_range hj] at hv
        subst hv
        exact .im _ _ (h4 j x hx)
      · simp only [List.getElem?_map, Option.map_eq_some_iff] at hv
        obtain ⟨j', hj', rfl⟩ := hv
        have hlt : j < l.length := by
          rcases Nat.lt_or_ge j l.length with h | h
          · exact h
          · rw [List.getElem?_eq_none (by simp; omega)] at hj'; cases hj'
        have : j' = j := by rw [List.getElem?_range hlt] at hj'; cases hj'; rfl
        subst this
        exact h3 j' _ (List.getElem?_eq_getElem hlt)
  | ptr o ep i off =>
    obtain ⟨ho, _, hp⟩ := hx.of_ptr
    simp only [loadV] at hl
    split at hl
    · rename_i ob hob
      split at hl
      · rename_i e he
        split at hl
        · unfold hpOf at hl
          split at hl <;> cases hl
        · simp only [plainV, hob] at hl
          split at hl
          · rename_i hep
            rw [he] at hl
            simp only at hl
            obtain ⟨vs, h1, h2⟩ := hh.cells hob he off
            obtain ⟨_, hu⟩ := (hp ob hob).2 hep
            exact fin h1 h2 hl hu
          · cases hl
      · cases hl
    · cases hl
  | _ => simp [loadV] at hl

/-- What the program must be for all this. -/
structure Fit (P : Program) (f : FuncId) (fn : Func) (mf : MF) : Prop where
  mix : P.follows .mixedOrders = true
  hfn : P.funcs[f]? = some fn
  tr : trF P fn = some mf
  fit : fitC mf.n mf.body = true
  nm : (fn.name == "runtime.NumGoroutine") = false
  rs : (mf.rs.all fun _ => true) = true

theorem Fit.ent {f : FuncId} {fn : Func} {mf : MF} (h : Fit P f fn mf) : Ent P f := by
  refine ⟨fn, h.hfn, ?_, h.nm⟩
  have := h.tr
  simp only [trF, Option.bind_eq_bind, Option.pure_def, Option.bind_eq_some_iff] at this
  obtain ⟨_, _, c, hc, _⟩ := this
  simp [hc]

/-- What a function's end must bring. -/
def Fin (w : World) (σ : Heap) (ι : Place) (X : Nat → Prop) (Q : PV → Heap → Prop) (v : Value) (w' : World) : Prop :=
  ∃ ι' y σ' S, Q y σ' ∧ HR w' σ' ι' (fun b => X b ∨ S b) ∧ RV w' σ' ι' (fun b => X b ∨ S b) y v S ∧ (∀ b, S b → Own σ ι b ∨ w.heap.size ≤ b) ∧ Kept (Own σ ι) w w' ∧ Evo w σ ι σ' ι'

theorem cs_of_end {f : FuncId} {fn : Func} {mf : MF} (hF : Fit P f fn mf) {A : List PV} {σ : Heap} {Q : PV → Heap → Prop} {K : MExit → St → Prop} (hn : A.length ≤ mf.n)
    (hK0 : ∀ i st, ¬ K (.exit i) st) (hK : ∀ e st, K e st → ∃ xs, resL st mf.rs = some xs ∧ ∀ (w : World) (ι : Place) (X : Nat → Prop) (a : Act) (w' : World) (ι' : Place) (v : Value), HR w σ ι X → SR P w σ ι X mf.n st a w' ι' → VR w' st.σ ι' X (ret1 xs) v → Fin w σ ι X Q v w')
    {w : World} {ι : Place} {X : Nat → Prop} {vs : List Value} (hh : HR w σ ι X) (hg : G P w) (hX : ∀ b, X b → b < w.heap.size) (hl : ∀ b, Own σ ι b → P.low ≤ b) (hv : VRs w σ ι X A vs)
    (h : Run P mf.body (.done K) (entry A σ)) : Calls P f vs.toArray w fun e w' => ∃ v, e = .returned v ∧ Fin w σ ι X Q v w' := by
  have htr := hF.tr
  simp only [trF, Option.bind_eq_bind, Option.pure_def, Option.bind_eq_some_iff, Option.some.injEq] at htr
  obtain ⟨rs, hrs, c, hb, mc, hc, rfl⟩ := htr
  refine calls_of_wp hF.hfn hb ?_
  have hs : SR P w σ ι X fn.ntmps (entry A σ) { tmps := vs.toArray ++ Array.replicate (fn.ntmps - vs.toArray.size) undef, defers := [] } w ι := by
    refine ⟨hh, fun t => ?_, rfl, ?_, Kept.refl fun b _ ho => hh.own_cells ho, Evo.refl _ _ _, hg, hl, hX, rfl⟩
    · rw [entry_τ, entry_σ]
      by_cases ht : t < A.length
      · have ht' : t < vs.length := by rw [← hv.1]; exact ht
        have h1 : A.getD t (.tup []) = A[t] := by simp [List.getD_eq_getElem?_getD, ht]
        have h2 : (vs.toArray ++ Array.replicate (fn.ntmps - vs.toArray.size) undef).getD t undef = vs[t] := by
          simp [Array.getD_eq_getD_getElem?, Array.getElem?_append, ht']
        rw [h1, h2]
        exact hv.2 t _ _ (List.getElem?_eq_getElem ht) (List.getElem?_eq_getElem ht')
      · have ht' : ¬ t < vs.length := by rw [← hv.1]; exact ht
        have h1 : A.getD t (.tup []) = .tup [] := by simp [List.getD_eq_getElem?_getD, ht]
        have h2 : (vs.toArray ++ Array.replicate (fn.ntmps - vs.toArray.size) undef).getD t undef = undef := by
          simp only [Array.getD_eq_getD_getElem?, Array.getElem?_append, List.size_toArray, ht', if_false, Array.getElem?_replicate]
          split <;> rfl
        rw [h1, h2]
        exact .im _ _ (.tup [] [] rfl (by simp))
    · have := hv.1
      simp only [] at hn
      simp; omega
  refine Code.wp_mono (Q := Lift P w σ ι X fn.ntmps K) ?_ (code_sound hF.mix hh c mc hc hF.fit _ _ _ w ι hs h)
  rintro e a w' ⟨me, st, ι', he, hs', hq⟩
  have hfin : K me st → a.defers = [] ∧ ∃ v, (results fn a.tmps).run P w' = .ok v w' ∧ ∃ u, Ending.returned v = .returned u ∧ Fin w σ ι X Q u w' := by
    intro hq
    refine ⟨hs'.df, ?_⟩
    obtain ⟨xs, hres, hdone⟩ := hK me st hq
    have hgen : ∀ (l : List ResultVar) (rs : List MR) (xs : List PV), (l.mapM fun | .tmp t => some (MR.t t) | .cell a t => do pure (.cell a (← szT P t) (← agT P t))) = some rs → resL st rs = some xs →
        ∃ us : List Value, (l.mapM (m := Sem) fun | .tmp t => pure (a.tmps.getD t undef) | .cell x t => do loadVar t (← asAddr (a.tmps.getD x undef))).run P w' = .ok us w' ∧ VRs w' st.σ ι' X xs us := by
      intro l
      induction l with
      | nil =>
        intro rs xs h1 h3
        simp at h1; subst h1
        simp [resL] at h3; subst h3
        exact ⟨[], rfl, VRs.nil⟩
      | cons rv l ih =>
        intro rs xs h1 h3
        simp only [List.mapM_cons, Option.bind_eq_bind, Option.pure_def, Option.bind_eq_some_iff, Option.some.injEq] at h1
        obtain ⟨m, hm, ms, hms, rfl⟩ := h1
        cases rv with
        | cell x t =>
          simp only [Option.bind_eq_bind, Option.pure_def, Option.bind_eq_some_iff, Option.some.injEq] at hm
          obtain ⟨sz, hsz, ag, hag, rfl⟩ := hm
          simp only [resL, resV] at h3
          split at h3
          · rename_i v vs h4 h5
            cases h3
            split at h4
            · rename_i v' hl
              cases h4
              obtain ⟨us, g1, g2⟩ := ih ms vs hms h5
              obtain ⟨u', g3, g4⟩ := cell_read hag hsz hs'.hr (hs'.tm x) hl
              refine ⟨u' :: us, ?_, VRs.cons g4 g2⟩
              rw [List.mapM_cons]
              simp only [Sem.run_bind] at g3 ⊢
              rw [g3]
              simp only [Result.andThen_ok]
              rw [g1]
              rfl
            · cases h4
          · cases h3
        | tmp t =>
          simp only [Option.some.injEq] at hm
          subst hm
          simp only [resL, resV] at h3
          split at h3
          · rename_i v vs h4 h5
            cases h3
            cases h4
            obtain ⟨us, g1, g2⟩ := ih ms vs hms h5
            refine ⟨a.tmps.getD t undef :: us, ?_, VRs.cons (hs'.tm t) g2⟩
            rw [List.mapM_cons]
            simp only [Sem.run_bind, Sem.run_pure, Result.andThen_ok]
            rw [g1]
            rfl
          · cases h3
    obtain ⟨us, g1, g2⟩ := hgen fn.results.toList rs xs hrs hres
    have hrun : ∃ v, (results fn a.tmps).run P w' = .ok v w' ∧ VR w' st.σ ι' X (ret1 xs) v := by
      unfold results
      rw [Array.mapM_eq_mapM_toList]
      simp only [Sem.run_bind, Sem.run_map]
      refine ⟨_, by erw [g1]; rfl, ?_⟩
      rcases xs with _ | ⟨x, _ | ⟨y, xs⟩⟩
      · have : us = [] := List.eq_nil_of_length_eq_zero (by simpa using g2.1.symm)
        subst this
        exact .tup [] [] rfl (by simp)
      · obtain ⟨u, rfl⟩ : ∃ u, us = [u] := by
          have := g2.1
          match us, this with
          | [u], _ => exact ⟨u, rfl⟩
        exact g2.2 0 x u rfl rfl
      · have hne : ¬ us.length = 1 := by have := g2.1; simp at this; omega
        simp only [List.size_toArray, hne, dif_neg, not_false_eq_true]
        exact .tup _ us g2.1 g2.2
    obtain ⟨v, hv1, hv2⟩ := hrun
    exact ⟨v, hv1, v, rfl, hdone w ι X a w' ι' v hh hs' hv2⟩
  cases e <;> cases me <;> simp only [SameX] at he
  · exact hfin hq
  · exact (hK0 _ _ hq).elim
  · exact hfin hq

/-- A function that works on its caller's objects. -/
theorem endS_fin {A : List PV} {σ : Heap} {Q : PV → Heap → Prop} {rs : List MR} {N : Nat} {e : MExit} {st : St} (h : endS σ rs Q e st) : ∃ xs, resL st rs = some xs ∧
    ∀ (w : World) (ι : Place) (X : Nat → Prop) (a : Act) (w' : World) (ι' : Place) (v : Value), HR w σ ι X → SR P w σ ι X N st a w' ι' → VR w' st.σ ι' X (ret1 xs) v → Fin w σ ι X Q v w' := by
  have key : ∃ vs gs σ1 r σ', resL st rs = some vs ∧ gops gs st.σ = some σ1 ∧ takeV σ'.length σ1 (ret1 vs) = some r ∧ CutTo σ r.2 σ'.length σ' ∧ Q r.1 σ' := by
    cases e with
    | exit i => exact h.elim
    | normal => exact h
    | ret => exact h
  · obtain ⟨xs, gs, σ1, ⟨y, σ2⟩, σ', hres, hgs, htk, hcut, hq⟩ := key
    refine ⟨xs, hres, fun w ι X a w' ι' v hh hs hv => ?_⟩
    obtain ⟨ι1, g1, g2, g3⟩ := hs.hr.gops hgs
    obtain ⟨S, ⟨t1, t2, t3, t4, t5⟩, hr, hb⟩ := take_ok (ret1 xs) σ1 ι1 X v y σ2 g1 (hv.sub g2) htk
    refine ⟨ι1, y, σ', S, hq, hh.cut t1 hcut, hr.cut hcut hb, fun b hb => hs.evo.own b (g3 b (t4 b hb)), hs.kept, ⟨hcut.2.1, fun o ho ob' hob => ?_, fun b hb => hs.evo.own b (g3 b (t3 b (cut_own hcut hb)))⟩⟩
    have h2 := cut_get hcut hob
    have hsub := g2.trans t2
    obtain ⟨ob1, h1, b1, b2, b3, b4, b5⟩ := hsub.obj o (Nat.lt_of_lt_of_le ho hs.evo.len) ob' h2
    obtain ⟨ob, h0, c1, c2, c3, c4, c5⟩ := hs.evo.obj o ho ob1 h1
    exact ⟨ob, h0, b1.trans c1, b2.trans c2, by omega, fun e => b4.trans (c4 (by omega)), fun h => c5 (b5 h)⟩
/-- A function that only reads, and hands back what is to be read only. -/
theorem endP_fin {Q : PV → Prop} {rs : List MR} {N : Nat} {e : MExit} {st : St} (h : endP rs Q e st) : ∃ xs, resL st rs = some xs ∧
    ∀ (w : World) (ι : Place) (X : Nat → Prop) (a : Act) (w' : World) (ι' : Place) (v : Value), HR w [] ι X → SR P w [] ι X N st a w' ι' → VR w' st.σ ι' X (ret1 xs) v → Fin w [] ι X (fun y σ' => σ' = [] ∧ Q y) v w' := by
  have key : ∃ vs d r, resL st rs = some vs ∧ snapV st.σ 0 d (ret1 vs) = some r ∧ Q r := by
    cases e with
    | exit i => exact h.elim
    | normal => exact h
    | ret => exact h
  · obtain ⟨xs, d, r, hres, hsn, hq⟩ := key
    refine ⟨xs, hres, fun w ι X a w' ι' v hh hs hv => ?_⟩
    have hir := snap_ok hs.hr d _ r v hsn hv
    have hX : (fun b => X b ∨ False) = X := by funext b; simp
    refine ⟨ι', r, [], fun _ => False, ⟨rfl, hq⟩, HR.nil _ _ _, ?_, fun b h => h.elim, hs.kept, ⟨Nat.le_refl _, fun o ho => absurd ho (Nat.not_lt_zero o), fun b hb => absurd hb (own_nil _ _)⟩⟩
    rw [hX]
    exact .plain (pure_noOwn r (ir_pure r v hir)) (.im _ _ (hir.mono fun b _ hn => ⟨⟨own_nil _ _, hn.2⟩, rfl⟩))
end func
end Go.Mach

/- The rules of functions; lengths. -/
namespace Go.Mach
open Go
set_option linter.unusedVariables false
set_option linter.unusedSimpArgs false

mutual
/-- Every length is one that memory can hold. -/
def deepV : PV → Prop
  | .str s => s.length ≤ maxLen
  | .iptr l => deepL l
  | .imm es sp _ => es.length + sp.length ≤ maxLen ∧ deepLL es ∧ deepLL sp ∧ ∃ sz, ∀ e, e ∈ es ++ sp → e.length = sz
  | .fn _ cs => deepL cs
  | .own es _ _ _ _ => es.length ≤ maxLen ∧ deepLL es
  | .agg cs => deepL cs
  | .tup cs => deepL cs
  | _ => True
def deepL : List PV → Prop
  | [] => True
  | x :: xs => deepV x ∧ deepL xs
def deepLL : List (List PV) → Prop
  | [] => True
  | x :: xs => deepL x ∧ deepLL xs
end
theorem deepL_of {xs : List PV} (h : ∀ x, x ∈ xs → deepV x) : deepL xs := by
  induction xs with
  | nil => trivial
  | cons x xs ih => exact ⟨h x (by simp), ih fun y hy => h y (by simp [hy])⟩
theorem deepLL_of {xs : List (List PV)} (h : ∀ x, x ∈ xs.flatten → deepV x) : deepLL xs := by
  induction xs with
  | nil => trivial
  | cons x xs ih => exact ⟨deepL_of fun y hy => h y (by simp [hy]), ih fun y hy => h y (by simp only [List.flatten_cons, List.mem_append]; exact .inr hy)⟩
theorem deepL_mem {xs : List PV} (h : deepL xs) {x : PV} (hx : x ∈ xs) : deepV x := by
  induction xs with
  | nil => cases hx
  | cons y ys ih =>
    cases hx with
    | head => exact h.1
    | tail _ hx => exact ih h.2 hx
theorem deepLL_mem {xs : List (List PV)} (h : deepLL xs) {x : List PV} (hx : x ∈ xs) : deepL x := by
  induction xs with
  | nil => cases hx
  | cons y ys ih =>
    cases hx with
    | head => exact h.1
    | tail _ hx => exact ih h.2 hx
theorem deep_of_ir {w : World} {B : Nat → Prop} {x : PV} {v : Value} (h : IR w B x v) : deepV x := by
  have key : ∀ (cs : List PV) (vs : List Value), cs.length = vs.length → (∀ (j : Nat) (x : PV) (v : Value), cs[j]? = some x → vs[j]? = some v → deepV x) → deepL cs := by
    intro cs vs hl ih
    refine deepL_of fun x hx => ?_
    obtain ⟨j, hj, rfl⟩ := List.getElem_of_mem hx
    exact ih j _ (vs[j]'(by omega)) (List.getElem?_eq_getElem hj) (List.getElem?_eq_getElem (by omega))
  have get : ∀ (l : List PV), (∀ (j : Nat) (x : PV), l[j]? = some x → deepV x) → ∀ x, x ∈ l → deepV x := by
    intro l h x hx
    obtain ⟨j, hj, rfl⟩ := List.getElem_of_mem hx
    exact h j _ (List.getElem?_eq_getElem hj)
  induction h with
  | bool b => trivial
  | int k n => trivial
  | str s hs => exact hs
  | nilp => trivial
  | iptr l a vs ho hc hr ih => exact deepL_of (get _ ih)
  | imm es sp lim A a c sz vs hc1 hc2 hl hA ho hz hc hr ih =>
    have h1 := get _ ih
    rw [List.flatten_append] at h1
    exact ⟨by omega, deepLL_of fun x hx => h1 x (by simp only [List.mem_append]; exact .inl hx), deepLL_of fun x hx => h1 x (by simp only [List.mem_append]; exact .inr hx), sz, hz⟩
  | fn f cs vs hl hr ih => exact key cs vs hl ih
  | nilfn => trivial
  | agg cs vs hl hr ih => exact key cs vs hl ih
  | tup cs vs hl hr ih => exact key cs vs hl ih
  | nilif => trivial
  | someif t v => trivial
theorem noOwnL_mem : ∀ {xs : List PV}, noOwnL xs = true → ∀ {x : PV}, x ∈ xs → noOwnV x = true
  | [], _, x, hx => by cases hx
  | y :: ys, h, x, hx => by
    simp only [noOwnL, Bool.and_eq_true] at h
    rcases List.mem_cons.1 hx with rfl | hx
    · exact h.1
    · exact noOwnL_mem h.2 hx
theorem deep_of_vr {w : World} {σ : Heap} {ι : Place} {X : Nat → Prop} {x : PV} {v : Value} (h : VR w σ ι X x v) : noOwnV x = true → deepV x := by
  have key : ∀ (cs : List PV) (vs : List Value), cs.length = vs.length → (∀ (j : Nat) (x : PV) (v : Value), cs[j]? = some x → vs[j]? = some v → noOwnV x = true → deepV x) → noOwnL cs = true → deepL cs := by
    intro cs vs hl ih hn
    refine deepL_of fun x hx => ?_
    have hnx := noOwnL_mem hn hx
    obtain ⟨j, hj, rfl⟩ := List.getElem_of_mem hx
    exact ih j _ (vs[j]'(by omega)) (List.getElem?_eq_getElem hj) (List.getElem?_eq_getElem (by omega)) hnx
  induction h with
  | im x v h => exact fun _ => deep_of_ir h
  | ptr o ep i off v ho hs h => exact fun _ => trivial
  | ref o ep lo len cap v ho hs h => exact fun _ => trivial
  | fn f cs vs hl hr ih => exact fun hn => key cs vs hl ih hn
  | agg cs vs hl hr ih => exact fun hn => key cs vs hl ih hn
  | tup cs vs hl hr ih => exact fun hn => key cs vs hl ih hn
  | undef v => exact fun _ => trivial
  | own es n sz ty lim v => intro hn; simp [noOwnV] at hn
theorem deep_of_tr {w : World} {B : Nat → Prop} {x : PV} {v : Value} {S : Nat → Prop} (h : TR w B x v S) : deepV x := by
  induction h with
  | im x v S hx h hS => exact deep_of_ir h
  | own es n sz ty lim A b c m cur S T vs hb hcs hcm hm hn hc hl hl' hA hz hv hr hS hT hd ih =>
    refine ⟨by omega, deepLL_of fun x hx => ?_⟩
    obtain ⟨j, hj, rfl⟩ := List.getElem_of_mem hx
    exact ih j _ (List.getElem?_eq_getElem hj)
theorem deep_of_vrs {w : World} {σ : Heap} {ι : Place} {X : Nat → Prop} {xs : List PV} {vs : List Value} (h : VRs w σ ι X xs vs) (hn : noOwnL xs = true) : deepL xs := by
  refine deepL_of fun x hx => ?_
  have hnx := noOwnL_mem hn hx
  obtain ⟨j, hj, rfl⟩ := List.getElem_of_mem hx
  exact deep_of_vr (h.2 j _ (vs[j]'(by have := h.1; omega)) (List.getElem?_eq_getElem hj) (List.getElem?_eq_getElem (by have := h.1; omega))) hnx
/-- What cells hold. -/
def deepC (x : PV) : Prop := isOwn x = true ∨ noOwnV x = true
/-- .. in the objects too. -/
def deepH (σ : Heap) : Prop := ∀ (o : Nat) (ob : AObj), σ[o]? = some (some ob) → ob.es.length ≤ maxLen ∧ (∀ e, e ∈ ob.es → e.length = ob.sz) ∧ ∀ x, x ∈ ob.es.flatten → deepC x → deepV x
theorem deep_of_hr {w : World} {σ : Heap} {ι : Place} {X : Nat → Prop} (h : HR w σ ι X) : deepH σ := by
  intro o ob ho
  obtain ⟨cur, c1, c2, c3, c4, c5, c6⟩ := h.obj o ob ho
  refine ⟨by omega, c5, fun x hx hc => ?_⟩
  obtain ⟨j, hj, rfl⟩ := List.getElem_of_mem hx
  obtain ⟨v, _, hr⟩ := c6 j _ (List.getElem?_eq_getElem hj)
  cases hox : isOwn (ob.es.flatten[j]) with
  | true => exact deep_of_tr (hr.2 hox)
  | false => exact deep_of_vr hr.1 (hc.resolve_left (by rw [hox]; simp))

section
variable {P : Program} {f : FuncId} {fn : Func} {mf : MF}
theorem callP_mono {fv : PV} {A : List PV} {st : St} {k k' : PV → Heap → Prop} (hk : ∀ r σ, k r σ → k' r σ) (h : CallP P fv A st k) : CallP P fv A st k' := by
  cases fv with
  | fn f cs =>
    obtain ⟨gs, σ1, Q, h1, h2, h3⟩ := h
    exact ⟨gs, σ1, Q, h1, h2, fun r σ' hq => hk _ _ (h3 r σ' hq)⟩
  | _ => exact h
theorem wop1_mono {o : MOper} {k k' : St → Prop} (hk : ∀ st, k st → k' st) {st : St} (h : wop1 P o k st) : wop1 P o k' st := by
  unfold wop1 at h ⊢
  split
  · rename_i hg; rw [hg] at h; exact h
  · rename_i hg; rw [hg] at h; exact hk _ h
  · rename_i hg
    rw [hg] at h
    simp only at h
    split <;> rename_i he <;> rw [he] at h
    · exact hk _ h
    · exact ⟨h.1, hk _ h.2⟩
    · exact ⟨h.1, hk _ h.2⟩
    · exact callP_mono (fun r σ => hk _) h
    · exact h
theorem wop2_mono {o : MOper} {k k' : St → Prop} (hk : ∀ st, k st → k' st) {st : St} (h : wop2 P o k st) : wop2 P o k' st := by
  rcases h with h | ⟨hg, p, v, σ', iv, h1, h2, h3, h4⟩
  · exact .inl (wop1_mono hk h)
  · exact .inr ⟨hg, p, v, σ', iv, h1, h2, h3, hk _ h4⟩
theorem wops_mono : ∀ (os : List MOper) {k k' : St → Prop}, (∀ st, k st → k' st) → ∀ {st : St}, wops P os k st → wops P os k' st
  | [], k, k', hk, st, h => hk _ h
  | o :: os, k, k', hk, st, h => wop1_mono (k := wops P os k) (fun st h => wops_mono os hk h) h
theorem wany_mono {ops : List (MOper × List Nat)} : ∀ (n : Nat) {k k' : St → Prop}, (∀ st, k st → k' st) → ∀ {done : List Bool} {st : St}, wany P ops k n done st → wany P ops k' n done st
  | 0, k, k', hk, done, st, h => ⟨h.1, hk _ h.2⟩
  | n + 1, k, k', hk, done, st, h => ⟨fun hr => hk _ (h.1 hr), fun i o hi ho => wop2_mono (fun st h => wany_mono n hk h) (h.2 i o hi ho)⟩
theorem awp_mono : ∀ (c : MC) {Q Q' : MExit → St → Prop}, (∀ e st, Q e st → Q' e st) → ∀ {st : St}, awp P c Q st → awp P c Q' st
  | .skip, Q, Q', hq, st, h => hq _ _ h
  | .reg ops, Q, Q', hq, st, h => wops_mono ops (fun st => hq _ st) h
  | .dreg ops, Q, Q', hq, st, h => wany_mono _ (fun st => hq _ st) h
  | .seq a b, Q, Q', hq, st, h => awp_mono a (fun e st h => by
      cases e with
      | normal => exact awp_mono b hq h
      | exit i => exact hq _ _ h
      | ret => exact hq _ _ h) h
  | .cond x a b, Q, Q', hq, st, h => by
    simp only [awp] at h ⊢
    split
    · rename_i hg; rw [hg] at h; exact awp_mono a hq h
    · rename_i hg; rw [hg] at h; exact awp_mono b hq h
    · rename_i h1 h2
      split at h
      · exact (h1 ‹_›).elim
      · exact (h2 ‹_›).elim
      · exact h
  | .blk id c, Q, Q', hq, st, h => awp_mono c (fun e st h => by
      cases e with
      | normal => exact hq _ _ h
      | exit i =>
        simp only at h ⊢
        split
        · rename_i hi; rw [if_pos hi] at h; exact hq _ _ h
        · rename_i hi; rw [if_neg hi] at h; exact hq _ _ h
      | ret => exact hq _ _ h) h
  | .loop c, Q, Q', hq, st, h => by
    obtain ⟨I, n, h1, h2⟩ := h
    exact ⟨I, n, h1, fun n st hI => awp_mono c (fun e st h => by
      cases e with
      | normal => exact h
      | exit i => exact hq _ _ h
      | ret => exact hq _ _ h) (h2 n st hI)⟩
  | .exit id, Q, Q', hq, st, h => hq _ _ h
  | .ret, Q, Q', hq, st, h => hq _ _ h

/-- The rule of functions that work on their callers' objects. -/
theorem cs_of_run (hF : Fit P f fn mf) {A : List PV} {σ : Heap} {Q : PV → Heap → Prop} (hn : A.length ≤ mf.n) (hA : noOwnL A = true)
    (h : deepL A → deepH σ → Run P mf.body (.done (endS σ mf.rs Q)) (entry A σ)) : Cs P f A σ Q := by
  refine ⟨hF.ent, fun w ι X vs hh hg hX hl hv => ?_⟩
  refine (cs_of_end hF (K := endS σ mf.rs Q) hn (fun i st h => h) (fun e st h => endS_fin (A := A) (N := mf.n) h) hh hg hX hl hv (h (deep_of_vrs hv hA) (deep_of_hr hh))).mono ?_
  rintro e w' ⟨v, rfl, ι', y, σ', S, hq, h1, h2, h3, h4, h5⟩
  exact ⟨v, ι', y, σ', S, hq, rfl, h1, h2, h3, h4, h5⟩
/-- The rule of functions that only read, and hand back what is to be read only. -/
theorem cp_of_run (hF : Fit P f fn mf) {A : List PV} {Q : PV → Prop} (hn : A.length ≤ mf.n) (hA : noOwnL A = true)
    (h : deepL A → Run P mf.body (.done (endP mf.rs Q)) (entry A [])) : Co P f A Q := by
  refine ⟨hF.ent, fun w ι X vs hh hg hX hl hv => ?_⟩
  refine (cs_of_end hF (Q := fun y σ' => σ' = [] ∧ Q y) (K := endP mf.rs Q) hn (fun i st h => h) (fun e st h => ?_) hh hg hX hl hv (h (deep_of_vrs hv hA))).mono ?_
  · obtain ⟨xs, h1, h2⟩ := endP_fin (P := P) (N := mf.n) h
    exact ⟨xs, h1, h2⟩
  · rintro e w' ⟨v, rfl, ι', y, σ', S, hq, h1, h2, h3, h4, h5⟩
    exact ⟨v, ι', y, σ', S, hq, rfl, h1, h2, h3, h4, h5⟩
theorem endS_of_endO {rs : List MR} {Q : PV → Prop} {e : MExit} {st : St} (h : endO rs Q e st) : endS [] rs (fun y σ' => σ' = [] ∧ Q y) e st := by
  cases e with
  | exit id => exact h.elim
  | normal =>
    obtain ⟨vs, gs, σ1, r, h1, h2, h3, h4⟩ := h
    exact ⟨vs, gs, σ1, r, [], h1, h2, h3, ⟨rfl, Nat.le_refl _, Nat.zero_le _, fun o ho => absurd ho (Nat.not_lt_zero o)⟩, rfl, h4⟩
  | ret =>
    obtain ⟨vs, gs, σ1, r, h1, h2, h3, h4⟩ := h
    exact ⟨vs, gs, σ1, r, [], h1, h2, h3, ⟨rfl, Nat.le_refl _, Nat.zero_le _, fun o ho => absurd ho (Nat.not_lt_zero o)⟩, rfl, h4⟩
/-- The rule of functions that only read, and hand back trees. -/
theorem co_of_run (hF : Fit P f fn mf) {A : List PV} {Q : PV → Prop} (hn : A.length ≤ mf.n) (hA : noOwnL A = true)
    (h : deepL A → Run P mf.body (.done (endO mf.rs Q)) (entry A [])) : Co P f A Q :=
  cs_of_run hF hn hA fun h1 _ => awp_mono mf.body (fun e st => endS_of_endO) (h h1)
end
end Go.Mach

/- Tools for walks. -/
namespace Go.Mach
open Go
set_option linter.unusedVariables false
set_option linter.unusedSimpArgs false

section
variable {P : Program} {k : K} {st : St}
theorem frzV_pure {σ : Heap} {x : PV} (h : pureV x = true) : frzV σ x = x := by cases x <;> first | rfl | (simp [pureV] at h)
theorem frzL_pure {σ : Heap} : ∀ {xs : List PV}, pureL xs = true → xs.map (frzV σ) = xs
  | [], _ => rfl
  | x :: xs, h => by
    simp only [pureL, Bool.and_eq_true] at h
    rw [List.map_cons, frzV_pure h.1, frzL_pure h.2]
theorem stp_call {f : PV} {A : List PV} {d : Option Nat} {os : List MOper} : Stp P (.call f A) d os k st = CallP P f A st fun r σ => Ops P os k ((st.withσ σ).putO d r) := rfl
/-- A call with pure arguments, of a function of which all is told. -/
theorem call_ct (own : Bool) {f : FuncId} {cs A : List PV} {y : PV} {κ : PV → Heap → Prop} (h : Ct P f (A ++ cs) y) (hA : pureL (A ++ cs) = true) (hk : κ (took own st.σ y).1 (took own st.σ y).2) : CallP P (.fn f cs) A st κ := by
  refine ⟨[], st.σ, _, rfl, .pure own (fun y' => y' = y) (by rw [frzL_pure hA]; exact hA) (by rw [frzL_pure hA]; exact h), ?_⟩
  rintro r σ' ⟨y', rfl, he⟩
  obtain ⟨rfl, rfl⟩ := Prod.mk.inj he
  exact hk
/-- .. of which the result is told in part. -/
theorem call_co (own : Bool) {f : FuncId} {cs A : List PV} {Q : PV → Prop} {κ : PV → Heap → Prop} (h : Co P f (A ++ cs) Q) (hA : pureL (A ++ cs) = true) (hk : ∀ y, Q y → κ (took own st.σ y).1 (took own st.σ y).2) : CallP P (.fn f cs) A st κ := by
  refine ⟨[], st.σ, _, rfl, .pure own Q (by rw [frzL_pure hA]; exact hA) (by rw [frzL_pure hA]; exact h), ?_⟩
  rintro r σ' ⟨y', hy, he⟩
  obtain ⟨rfl, rfl⟩ := Prod.mk.inj he
  exact hk y' hy
theorem took_plain {own : Bool} {σ : Heap} {y : PV} (h : noOwnV y = true) : took own σ y = (y, σ) := by
  cases own
  · show (unown y, σ) = _; rw [unown_noOwn y h]
  · show unfV σ y = _; rw [unf_noOwn y σ h]
theorem ct_mono {f : FuncId} {A : List PV} {Q Q' : PV → Prop} (h : Co P f A Q) (hq : ∀ y, Q y → Q' y) : Co P f A Q' := by
  refine ⟨h.1, fun w ι X vs h1 h2 h3 h4 h5 => (h.2 w ι X vs h1 h2 h3 h4 h5).mono ?_⟩
  rintro e w' ⟨v, ι', y, σ', S, ⟨h6, h7⟩, h8⟩
  exact ⟨v, ι', y, σ', S, ⟨h6, hq y h7⟩, h8⟩

/-! #### Splits -/
theorem cnd_split {c : Bool} {a b : MC} (h1 : c = true → Run P a k st) (h2 : c = false → Run P b k st) : Cnd P (.bool c) a b k st := by
  cases c
  · exact h2 rfl
  · exact h1 rfl
theorem grd_split {c : Bool} {d : Option Nat} {op : MOp} {os : List MOper} (h1 : c = true → Grd P (some true) d op os k st) (h2 : c = false → Grd P (some false) d op os k st) : Grd P (some c) d op os k st := by
  cases c
  · exact h2 rfl
  · exact h1 rfl
theorem gd_some {t : Nat} {b c : Bool} (h : st.τ t = .bool c) : gd st (some (t, b)) = some (c == b) := by simp [gd, h]
theorem gd_skip {t : Nat} {b : Bool} (h : st.τ t = .tup []) : gd st (some (t, b)) = some false := by simp [gd, h]

/-! #### Ends -/
theorem end_pure {n : Nat} {Q : PV → Prop} {e : MExit} (he : ∀ i, e ≠ .exit i) (hp : pureV (st.τ n) = true) (hq : Q (st.τ n)) : endP [.t n] Q e st := by
  have h : ∃ vs d r, resL st [.t n] = some vs ∧ snapV st.σ 0 d (ret1 vs) = some r ∧ Q r := ⟨[st.τ n], 0, st.τ n, rfl, by simp [ret1, snapV, hp], hq⟩
  cases e with
  | exit i => exact absurd rfl (he i)
  | normal => exact h
  | ret => exact h

/-! #### Forgetting between rounds -/
/-- Temporaries as a list. -/
def lk : List (Nat × PV) → Nat → PV
  | [], _ => .undef
  | (n, v) :: r, t => if t = n then v else lk r t
theorem gh_canon {l : List (Nat × PV)} {σ' : Heap} (hc : CutTo st.base st.σ σ'.length σ') (hl : ∀ p, p ∈ l → st.τ p.1 = p.2 ∧ bdV σ'.length p.2 = true) : Gh st ⟨lk l, σ', st.base⟩ := by
  refine ⟨rfl, [], st.σ, rfl, hc, fun t => ?_⟩
  have : ∀ (l : List (Nat × PV)), (∀ p, p ∈ l → st.τ p.1 = p.2 ∧ bdV σ'.length p.2 = true) → lk l t = .undef ∨ (lk l t = st.τ t ∧ bdV σ'.length (st.τ t) = true) := by
    intro l
    induction l with
    | nil => intro _; exact .inl rfl
    | cons p r ih =>
      intro hl
      obtain ⟨n, v⟩ := p
      simp only [lk]
      split
      · rename_i e
        subst e
        obtain ⟨h1, h2⟩ := hl (t, v) (by simp)
        simp only at h1 h2
        exact .inr ⟨h1.symm, by rw [h1]; exact h2⟩
      · exact ih fun q hq => hl q (by simp [hq])
  exact this l hl
/-- The first objects, unchanged. -/
theorem cut_take {σ1 σ' : Heap} (h1 : σ' = σ1.take σ'.length) (h2 : ∀ (o : Nat) (ob : AObj), σ'[o]? = some (some ob) → (ob.es.all fun e => e.all (bdV σ'.length)) = true) (h3 : σ'.length ≤ σ1.length) : CutTo [] σ1 σ'.length σ' := by
  refine ⟨rfl, Nat.zero_le _, h3, fun o ho => ?_⟩
  have hg : σ'[o]? = σ1[o]? := by rw [h1, List.getElem?_take, if_pos ho]
  cases hx : σ'[o]? with
  | none => rw [List.getElem?_eq_none_iff] at hx; omega
  | some x => cases x with
    | none => exact .inl rfl
    | some ob => exact .inr (.inr ⟨ob, by rw [← hg, hx], rfl, h2 o ob hx⟩)
theorem cut_nil {σ1 : Heap} : CutTo [] σ1 0 [] := ⟨rfl, Nat.le_refl _, Nat.zero_le _, fun o ho => absurd ho (Nat.not_lt_zero o)⟩
end
end Go.Mach
