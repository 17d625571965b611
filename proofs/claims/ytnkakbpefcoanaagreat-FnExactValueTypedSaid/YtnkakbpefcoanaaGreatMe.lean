import Derived.Test.YtnkakbpefcoanaaGreatMd
import Derived.Deep.LoopGhost
/- Every translated operation. -/
namespace Go.Mach
open Go
set_option linter.unusedVariables false
set_option linter.unusedSimpArgs false

section ops
variable {P : Program} {w0 : World} {σ0 : Heap} {ι0 : Place} {X : Nat → Prop} {N : Nat} {st : St} {a : Act} {w : World} {ι : Place}

theorem SR.opt (h : SR P w0 σ0 ι0 X N st a w ι) {lo : Option Operand} {l : Option MX} (hl : trO lo = some l) : OptR w st.σ ι X (l.map st.get) (lo.map a.eval) := by
  cases lo with
  | none => simp [trO] at hl; subst hl; exact .inl ⟨rfl, rfl⟩
  | some x =>
    simp only [trO, Option.map_eq_some_iff] at hl
    obtain ⟨m, hm, rfl⟩ := hl
    exact .inr ⟨_, _, rfl, rfl, h.get hm⟩
theorem trO_some {lo : Option Operand} {l : Option MX} (hl : trO lo = some l) : l.isSome = lo.isSome := by
  cases lo with
  | none => simp [trO] at hl; subst hl; rfl
  | some x =>
    simp only [trO, Option.map_eq_some_iff] at hl
    obtain ⟨m, hm, rfl⟩ := hl
    rfl

theorem parts_ok (h : SR P w0 σ0 ι0 X N st a w ι) {fs : Array Field} : ∀ {ps : List (Nat × Operand)} {ms : List (Nat × Nat × MX)}, trParts P fs ps = some ms →
    ∃ qs : List (Nat × Nat × Nat × PV), qs.map (·.2) = ms.map (fun p => (p.1, p.2.1, st.get p.2.2)) ∧ qs.length = ps.length ∧ ∀ (j : Nat) (q : Nat × Nat × Nat × PV) (v : Nat × Value), qs[j]? = some q → (ps.map fun p => (p.1, a.eval p.2))[j]? = some v →
      q.1 = v.1 ∧ (∃ f : Field, fs[q.1]? = some f ∧ f.offset = q.2.1 ∧ szT P f.type = some q.2.2.1) ∧ VR w st.σ ι X q.2.2.2 v.2
  | [], ms, hm => by simp [trParts] at hm; subst hm; exact ⟨[], rfl, rfl, by simp⟩
  | (i, x) :: ps, ms, hm => by
    simp only [trParts] at hm
    split at hm
    · cases hm
    · rename_i f hf
      split at hm
      · rename_i sz m ms' h1 h2 h3
        cases hm
        obtain ⟨qs, g1, g2, g3⟩ := parts_ok h h3
        refine ⟨(i, f.offset, sz, st.get m) :: qs, by simp [g1], by simp [g2], fun j q v hq hv => ?_⟩
        cases j with
        | zero => simp at hq hv; subst hq; subst hv; exact ⟨rfl, ⟨f, hf, rfl, h1⟩, h.get h2⟩
        | succ j => exact g3 j q v (by simpa using hq) (by simpa using hv)
      · cases hm
theorem bparts_ok (h : SR P w0 σ0 ι0 X N st a w ι) : ∀ {ps : List (Nat × Operand)} {ms : List (Nat × MX)}, trBParts ps = some ms →
    ms.length = ps.length ∧ ∀ (j : Nat) (q : Nat × PV) (v : Nat × Value), (ms.map fun p => (p.1, st.get p.2))[j]? = some q → (ps.map fun p => (p.1, a.eval p.2))[j]? = some v → q.1 = v.1 ∧ VR w st.σ ι X q.2 v.2
  | [], ms, hm => by simp [trBParts] at hm; subst hm; exact ⟨rfl, by simp⟩
  | (i, x) :: ps, ms, hm => by
    simp only [trBParts] at hm
    split at hm
    · rename_i m ms' h1 h2
      cases hm
      obtain ⟨g2, g3⟩ := bparts_ok h h2
      refine ⟨by simp [g2], fun j q v hq hv => ?_⟩
      cases j with
      | zero => simp at hq hv; subst hq; subst hv; exact ⟨rfl, h.get h1⟩
      | succ j => exact g3 j q v (by simpa using hq) (by simpa using hv)
    · cases hm
theorem map_arr {α β : Type} (f : α → β) (xs : Array α) : (xs.toList.map f).toArray = xs.map f := by rw [← Array.toList_map]

theorem op_ok (h : SR P w0 σ0 ι0 X N st a w ι) {o : Oper} {mo : MOp} (ht : trOp P o = some mo) : EvOk P X (execOp a.eval o) w st.σ ι (evalOp st mo) := by
  obtain ⟨dst, op, type, pos, after, guard⟩ := o
  unfold trOp at ht
  cases op
  case move x =>
    simp only [Option.map_eq_some_iff] at ht
    obtain ⟨m, hm, rfl⟩ := ht
    exact Did.val h.hr (by simp [execOp]) (h.get hm)
  case assign x =>
    simp only [Option.map_eq_some_iff] at ht
    obtain ⟨m, hm, rfl⟩ := ht
    exact Did.val h.hr (by simp [execOp]) (h.get hm)
  case pick c x y =>
    simp only [Option.bind_eq_bind, Option.bind_eq_some_iff, Option.pure_def, Option.some.injEq] at ht
    obtain ⟨mc, hc, mx, hx, my, hy, rfl⟩ := ht
    exact op_pick h.hr (h.get hc) (h.get hx) (h.get hy) rfl
  case alloc t =>
    simp only [Option.map_eq_some_iff] at ht
    obtain ⟨z, hz, rfl⟩ := ht
    exact op_alloc hz h.hr h.xs rfl
  case box t x =>
    simp only [Option.map_eq_some_iff] at ht
    obtain ⟨m, hm, rfl⟩ := ht
    exact op_box h.hr h.xs (h.get hm) rfl
  case build t ps =>
    simp only at ht
    split at ht
    · rename_i fs hfs
      simp only [Option.bind_eq_bind, Option.bind_eq_some_iff] at ht
      obtain ⟨z, hz, parts, hparts, hif⟩ := ht
      split at hif
      · rename_i hall
        cases hif
        obtain ⟨qs, g1, g2, g3⟩ := parts_ok h hparts
        show EvOk P X _ w st.σ ι (buildV z (parts.map fun p => (p.1, p.2.1, st.get p.2.2)))
        rw [← g1]
        refine op_build (vs := ps.toList.map fun p => (p.1, a.eval p.2)) hfs hz (fun f hf => by simpa using List.all_eq_true.1 hall f hf) (by simp [g2]) g3 h.hr ?_
        rw [map_arr]; rfl
      · cases hif
    · cases ht
  case buildSlice t n ps =>
    simp only at ht
    split at ht
    · rename_i e he
      simp only [Option.bind_eq_bind, Option.bind_eq_some_iff] at ht
      obtain ⟨z, hz, sz, hsz, parts, hparts, hif⟩ := ht
      split at hif
      · rename_i hc
        cases hif
        simp only [Bool.and_eq_true, decide_eq_true_eq, beq_iff_eq] at hc
        obtain ⟨g1, g2⟩ := bparts_ok h hparts
        show EvOk P X _ w st.σ ι (bslV st.σ e sz n z (parts.map fun p => (p.1, st.get p.2)))
        refine op_bsl (vs := ps.toList.map fun p => (p.1, a.eval p.2)) t he hz hsz hc.1.1 hc.1.2 hc.2 (by simp [g1]) g2 h.hr h.xs ?_
        rw [map_arr]; rfl
      · cases hif
    · cases ht
  case load t x =>
    simp only [Option.bind_eq_bind, Option.bind_eq_some_iff, Option.pure_def, Option.some.injEq] at ht
    obtain ⟨ag, hag, sz, hsz, m, hm, rfl⟩ := ht
    exact op_load hag hsz h.hr (h.get hm) rfl
  case store t x v =>
    simp only [Option.bind_eq_bind, Option.bind_eq_some_iff, Option.pure_def, Option.some.injEq] at ht
    obtain ⟨sz, hsz, m, hm, mv, hmv, rfl⟩ := ht
    exact op_store t hsz h.hr (h.get hm) (h.get hmv) rfl
  case nilCheck x =>
    simp only [Option.map_eq_some_iff] at ht
    obtain ⟨m, hm, rfl⟩ := ht
    refine op_nilc h.hr (h.get hm) fun v hv hsh => ?_
    rcases hsh with ⟨b, rfl⟩ | ⟨f, cs, rfl⟩ <;> simp [execOp, hv]
  case binOp bop t x y t' =>
    simp only [Option.bind_eq_bind, Option.bind_eq_some_iff] at ht
    obtain ⟨mx, hx, my, hy, ht⟩ := ht
    split at ht
    · split at ht
      · cases ht
      · rename_i hsh
        cases ht
        exact op_bin t x y h.hr (h.get hx) (h.get hy) ⟨fun e => hsh (by rw [e]; rfl), fun e => hsh (by rw [e]; rfl)⟩ rfl
    · cases ht; exact op_seq (ne := false) t x y h.hr (h.get hx) (h.get hy) rfl
    · cases ht; exact op_seq (ne := true) t x y h.hr (h.get hx) (h.get hy) rfl
    · cases ht; exact op_cat t x y h.hr (h.get hx) (h.get hy) rfl
    · rename_i hu; cases ht; exact op_beq (ne := false) t hu x y h.hr (h.get hx) (h.get hy) rfl
    · rename_i hu; cases ht; exact op_beq (ne := true) t hu x y h.hr (h.get hx) (h.get hy) rfl
    · rename_i fs hu
      split at ht
      · rename_i hc
        simp only [Option.map_eq_some_iff] at ht
        obtain ⟨ks, hks, rfl⟩ := ht
        simp only [Bool.and_eq_true, Bool.not_eq_true'] at hc
        exact op_eqa (ne := false) t fs ks hu hks hc.1 hc.2 x y h.hr (h.get hx) (h.get hy) rfl
      · cases ht
    · rename_i fs hu
      split at ht
      · rename_i hc
        simp only [Option.map_eq_some_iff] at ht
        obtain ⟨ks, hks, rfl⟩ := ht
        simp only [Bool.and_eq_true, Bool.not_eq_true'] at hc
        exact op_eqa (ne := true) t fs ks hu hks hc.1 hc.2 x y h.hr (h.get hx) (h.get hy) rfl
      · cases ht
    · rename_i ms hu
      split at ht
      · cases ht; exact op_eqn (ne := false) t ms hu x h.hr (h.get hx) rfl
      · cases ht
    · rename_i ms hu
      split at ht
      · cases ht; exact op_eqn (ne := true) t ms hu x h.hr (h.get hx) rfl
      · cases ht
    · cases ht
  case unOp uop t x =>
    cases uop <;> simp only [Option.map_eq_some_iff] at ht <;> try (cases ht; done)
    · obtain ⟨m, hm, rfl⟩ := ht
      exact op_neg h.hr (h.get hm) rfl
    · obtain ⟨m, hm, rfl⟩ := ht
      exact op_not h.hr (h.get hm) rfl
  case convert s d x =>
    simp only at ht
    split at ht
    · rename_i k' k h1 h2
      simp only [Option.map_eq_some_iff] at ht
      obtain ⟨m, hm, rfl⟩ := ht
      exact op_cnvi s d k' h1 h2 h.hr (h.get hm) rfl
    · rename_i h1 h2
      simp only [Option.map_eq_some_iff] at ht
      obtain ⟨m, hm, rfl⟩ := ht
      have hx := h.get hm
      show EvOk P X _ w st.σ ι (cnvsV (st.get m))
      cases hm' : st.get m <;> try exact True.intro
      rename_i l
      rw [hm'] at hx
      have hr : (convert s d (.string ⟨l.toArray⟩)).run P w = .ok (.string ⟨l.toArray⟩) w := by simp [convert, run_underlying h1, run_underlying h2]
      refine Did.val (u := .string ⟨l.toArray⟩) h.hr ?_ (.im _ _ (.str l hx.of_str.2))
      simp [execOp, hx.of_str.1, hr]
    · cases ht
  case makeFunc fn first caps =>
    cases fn <;> simp only at ht <;> try (cases ht; done)
    rename_i f
    split at ht
    · rename_i hfe
      simp only [Option.bind_eq_bind, Option.bind_eq_some_iff, Option.pure_def, Option.some.injEq] at ht
      obtain ⟨ms, hms, rfl⟩ := ht
      have hf0 : first = #[] := by simpa using hfe
      subst hf0
      refine op_mkf (us := caps.toList.map a.eval) h.hr (h.gets hms) ?_
      rw [map_arr]; simp [execOp]
    · cases ht
  case makeSlice t l c =>
    simp only at ht
    split at ht
    · rename_i e he
      simp only [Option.bind_eq_bind, Option.bind_eq_some_iff] at ht
      obtain ⟨z, hz, i, hi, hif⟩ := ht
      split at hif
      · rename_i hc
        simp only [Option.bind_eq_some_iff, Option.pure_def, Option.some.injEq] at hif
        obtain ⟨ml, hl, mc, hmc, rfl⟩ := hif
        simp only [Bool.and_eq_true, decide_eq_true_eq] at hc
        exact op_mks t he hz hi hc.1.1 hc.1.2 hc.2 h.hr h.xs (h.get hl) (h.get hmc) rfl
      · cases hif
    · cases ht
  case slice t x lo hi mx =>
    simp only [Option.bind_eq_bind, Option.bind_eq_some_iff] at ht
    obtain ⟨m, hm, l, hl, hh, hhi, mm, hmm, ht⟩ := ht
    split at ht
    · rename_i hu
      split at ht
      · rename_i hn
        cases ht
        have : mx = none := by simpa using hn
        subst this
        exact op_sls t hu h.hr (h.get hm) (h.opt hl) (h.opt hhi) rfl
      · cases ht
    · rename_i e hu
      simp only [Option.bind_eq_some_iff] at ht
      obtain ⟨sz, hsz, hif⟩ := ht
      split at hif
      · cases hif
      · rename_i hc
        cases hif
        refine op_sl t e hu hsz h.hr (h.get hm) (h.opt hl) (h.opt hhi) (h.opt hmm) (fun hs => ?_) rfl
        have h1 := trO_some hmm
        have h2 := trO_some hhi
        simp only [Option.isSome_map] at hs ⊢
        rw [h2]
        rw [h1] at hs
        cases hi with
        | none => simp [hs] at hc
        | some _ => rfl
    · cases ht
  case fieldAddr s x f =>
    simp only at ht
    split at ht
    · rename_i fs hfs
      simp only [Option.bind_eq_bind, Option.bind_eq_some_iff] at ht
      obtain ⟨fd, hfd, sz, hsz, hif⟩ := ht
      split at hif
      · cases hif
      · rename_i h0
        simp only [Option.bind_eq_some_iff, Option.pure_def, Option.some.injEq] at hif
        obtain ⟨m, hm, rfl⟩ := hif
        exact op_fadr s fs fd sz hfs hfd rfl hsz h0 h.hr (h.get hm) rfl
    · cases ht
  case field s x f =>
    simp only at ht
    split at ht
    · rename_i fs hfs
      simp only [Option.bind_eq_bind, Option.bind_eq_some_iff, Option.pure_def, Option.some.injEq] at ht
      obtain ⟨fd, hfd, ag, hag, sz, hsz, m, hm, rfl⟩ := ht
      exact op_fld s fs fd hfs hfd rfl hag hsz h.hr (h.get hm) rfl
    · cases ht
  case indexAddr t x i =>
    simp only at ht
    split at ht
    · rename_i e he
      simp only [Option.bind_eq_bind, Option.bind_eq_some_iff] at ht
      obtain ⟨sz, hsz, hif⟩ := ht
      split at hif
      · cases hif
      · simp only [Option.bind_eq_some_iff, Option.pure_def, Option.some.injEq] at hif
        obtain ⟨m, hm, mi, hmi, rfl⟩ := hif
        exact op_iadr t e he hsz h.hr (h.get hm) (h.get hmi) rfl
    · cases ht
  case index t x i =>
    simp only at ht
    split at ht
    · rename_i he
      simp only [Option.bind_eq_bind, Option.bind_eq_some_iff, Option.pure_def, Option.some.injEq] at ht
      obtain ⟨m, hm, mi, hmi, rfl⟩ := ht
      exact op_idx t he h.hr (h.get hm) (h.get hmi) rfl
    · cases ht
  case extract t ix =>
    simp only [Option.map_eq_some_iff] at ht
    obtain ⟨m, hm, rfl⟩ := ht
    exact op_ext h.hr (h.get hm) rfl
  case call c =>
    obtain ⟨callee, args, argTypes⟩ := c
    simp only at ht
    cases callee with
    | value f =>
      simp only [Option.bind_eq_bind, Option.bind_eq_some_iff, Option.pure_def, Option.some.injEq] at ht
      obtain ⟨mf, hmf, ms, hms, rfl⟩ := ht
      exact True.intro
    | invoke r m => cases ht
    | builtin b =>
      have hargs : ∀ {x : Operand}, args.toList = [x] → args = #[x] := fun h => by rw [← h]
      have hargs2 : ∀ {x y : Operand}, args.toList = [x, y] → args = #[x, y] := fun h => by rw [← h]
      have htys : ∀ {x : TypeId}, argTypes.toList = [x] → argTypes = #[x] := fun h => by rw [← h]
      have htys2 : ∀ {x y : TypeId}, argTypes.toList = [x, y] → argTypes = #[x, y] := fun h => by rw [← h]
      cases b <;> simp only at ht <;> try (cases ht; done)
      case append =>
        split at ht
        · rename_i t u x y h1 h2
          split at ht
          · rename_i e e' h3 h4
            simp only [Option.bind_eq_bind, Option.bind_eq_some_iff] at ht
            obtain ⟨i, hi, z, hz, hif⟩ := ht
            split at hif
            · rename_i hc
              simp only [Option.bind_eq_some_iff, Option.pure_def, Option.some.injEq] at hif
              obtain ⟨mx, hx, my, hy, rfl⟩ := hif
              simp only [Bool.and_eq_true, decide_eq_true_eq] at hc
              obtain ⟨⟨⟨rfl, hc1⟩, hc2⟩, hc3⟩ := hc
              rw [htys2 h1, hargs2 h2]
              exact op_app t type e i z h3 hi hz hc1 hc2 hc3 h.hr h.xs (h.get hx) (h.get hy) (by simp [execOp, resolve, invoke, builtin])
            · cases hif
          · cases ht
        · cases ht
      case len =>
        split at ht
        · rename_i t x h1 h2
          rw [htys h1, hargs h2]
          split at ht
          · rename_i hu
            simp only [Option.map_eq_some_iff] at ht
            obtain ⟨m, hm, rfl⟩ := ht
            exact op_lens t type hu h.hr (h.get hm) (by simp [execOp, resolve, invoke, builtin])
          · rename_i e hu
            simp only [Option.map_eq_some_iff] at ht
            obtain ⟨m, hm, rfl⟩ := ht
            exact op_lenl t e type hu h.hr (h.get hm) (by simp [execOp, resolve, invoke, builtin])
          · cases ht
        · cases ht
      case max =>
        split at ht
        · rename_i x y h2
          rw [hargs2 h2]
          simp only [Option.bind_eq_bind, Option.bind_eq_some_iff, Option.pure_def, Option.some.injEq] at ht
          obtain ⟨mx, hx, my, hy, rfl⟩ := ht
          exact op_mm (mx := true) argTypes type h.hr (h.get hx) (h.get hy) (by simp [execOp, resolve, invoke, builtin])
        · cases ht
      case min =>
        split at ht
        · rename_i x y h2
          rw [hargs2 h2]
          simp only [Option.bind_eq_bind, Option.bind_eq_some_iff, Option.pure_def, Option.some.injEq] at ht
          obtain ⟨mx, hx, my, hy, rfl⟩ := ht
          exact op_mm (mx := false) argTypes type h.hr (h.get hx) (h.get hy) (by simp [execOp, resolve, invoke, builtin])
        · cases ht
  all_goals (simp at ht)
end ops
end Go.Mach

/- Reading out, handing back. -/
namespace Go.Mach
open Go
set_option linter.unusedVariables false
set_option linter.unusedSimpArgs false

theorem mapO_ok {f : PV → Option PV} {R : PV → Value → Prop} {S : PV → Value → Prop} (hf : ∀ (x y : PV) (v : Value), f x = some y → R x v → S y v) :
    ∀ (xs ys : List PV) (vs : List Value), mapO f xs = some ys → (xs.length = vs.length ∧ ∀ (j : Nat) (x : PV) (v : Value), xs[j]? = some x → vs[j]? = some v → R x v) →
      (ys.length = vs.length ∧ ∀ (j : Nat) (x : PV) (v : Value), ys[j]? = some x → vs[j]? = some v → S x v)
  | [], ys, vs, h, hv => by
    simp [mapO] at h; subst h
    have : vs = [] := List.eq_nil_of_length_eq_zero (by simpa using hv.1.symm)
    subst this
    exact ⟨rfl, by simp⟩
  | x :: xs, ys, [], h, hv => by have := hv.1; simp at this
  | x :: xs, ys, v :: vs, h, hv => by
    simp only [mapO] at h
    split at h
    · rename_i y ys' h1 h2
      cases h
      have a1 := hf x y v h1 (hv.2 0 x v rfl rfl)
      obtain ⟨b1, b2⟩ := mapO_ok hf xs ys' vs h2 ⟨by have := hv.1; simpa using this, fun j x v hx hv' => hv.2 (j + 1) x v (by simpa using hx) (by simpa using hv')⟩
      refine ⟨by simp [b1], fun j z u hz hu => ?_⟩
      cases j with
      | zero => simp at hz hu; subst hz; subst hu; exact a1
      | succ j => exact b2 j z u (by simpa using hz) (by simpa using hu)
    · cases h
theorem mapO_get {α β : Type} {f : α → Option β} : ∀ {l : List α} {m : List β}, mapO f l = some m → l.length = m.length ∧ ∀ (i : Nat) (y : β), m[i]? = some y → ∃ x, l[i]? = some x ∧ f x = some y
  | [], m, h => by simp [mapO] at h; subst h; simp
  | x :: l, m, h => by
    simp only [mapO] at h
    split at h
    · rename_i y ys h1 h2
      cases h
      obtain ⟨g1, g2⟩ := mapO_get h2
      refine ⟨by simp [g1], fun i z hz => ?_⟩
      cases i with
      | zero => simp at hz; subst hz; exact ⟨x, rfl, h1⟩
      | succ i => simpa using g2 i z (by simpa using hz)
    · cases h
theorem mapO_flat {f : PV → Option PV} : ∀ {l m : List (List PV)}, mapO (mapO f) l = some m → ∀ (i : Nat) (y : PV), m.flatten[i]? = some y → ∃ x, l.flatten[i]? = some x ∧ f x = some y
  | [], m, h, i, y, hy => by simp [mapO] at h; subst h; simp at hy
  | e :: l, m, h, i, y, hy => by
    simp only [mapO] at h
    split at h
    · rename_i e' ys h1 h2
      cases h
      obtain ⟨g1, g2⟩ := mapO_get h1
      simp only [List.flatten_cons] at hy ⊢
      by_cases hi : i < e'.length
      · rw [List.getElem?_append_left hi] at hy
        rw [List.getElem?_append_left (by omega)]
        exact g2 i y hy
      · rw [List.getElem?_append_right (by omega)] at hy
        rw [List.getElem?_append_right (by omega), g1]
        exact mapO_flat h2 _ y hy
    · cases h

section snap
variable {X : Nat → Prop} {w : World} {ι : Place} {σ : Heap}
theorem tb_take {m o j b : Nat} (h : Tb (σ.take m) ι o j b) : o < m ∧ Tb σ ι o j b := by
  obtain ⟨ob, x, h1, h2⟩ := h
  rw [List.getElem?_take] at h1
  split at h1
  · exact ⟨by assumption, ob, x, h1, h2⟩
  · cases h1
theorem own_take {m b : Nat} (h : Own (σ.take m) ι b) : (∃ o ob, o < m ∧ σ[o]? = some (some ob) ∧ ob.frz = false ∧ (ι o).1 = b) ∨ ∃ o j, o < m ∧ Tb σ ι o j b := by
  rcases h with ⟨o, ob, h1, h2, h3⟩ | ⟨o, j, h⟩
  · rw [List.getElem?_take] at h1
    split at h1
    · exact .inl ⟨o, ob, by assumption, h1, h2, h3⟩
    · cases h1
  · obtain ⟨h1, h2⟩ := tb_take h
    exact .inr ⟨o, j, h1, h2⟩
theorem own_of_take {m b : Nat} (h : Own (σ.take m) ι b) : Own σ ι b := by
  rcases own_take h with ⟨o, ob, _, h1, h2, h3⟩ | ⟨o, j, _, h⟩
  · exact .inl ⟨o, ob, h1, h2, h3⟩
  · exact .inr ⟨o, j, h⟩
/-- Memory that the objects below `m` do not write. -/
def Off (σ : Heap) (ι : Place) (X : Nat → Prop) (m b : Nat) : Prop := ¬ Own (σ.take m) ι b ∧ ¬ X b
theorem off_of {m b : Nat} (h : ¬ Own σ ι b ∧ ¬ X b) : Off σ ι X m b := ⟨fun ho => h.1 (own_of_take ho), h.2⟩
theorem HR.off (hh : HR w σ ι X) {m o : Nat} {ob : AObj} (ho : σ[o]? = some (some ob)) (hm : m ≤ o) : Off σ ι X m (ι o).1 := ⟨fun hw => by
  rcases own_take hw with ⟨o', ob', h0, h1, h2, h3⟩ | ⟨o', j, h0, h1⟩
  · have := hh.inj o' o ob' ob h1 ho h2 h3
    omega
  · exact hh.tob o' j _ h1 o ob ho rfl, hh.out o ob ho⟩
theorem HR.off2 (hh : HR w σ ι X) {m o j b : Nat} (ho : Tb σ ι o j b) (hm : m ≤ o) : Off σ ι X m b := ⟨fun hw => by
  rcases own_take hw with ⟨o', ob', h0, h1, h2, h3⟩ | ⟨o', j', h0, h1⟩
  · exact hh.tob o j b ho o' ob' h1 h3
  · have := (hh.tin o o' j j' b ho h1).1
    omega, hh.tx o j b ho⟩
/-- What a cell holds, read out. -/
theorem HR.cellS (hh : HR w σ ι X) {m n o j : Nat} {ob : AObj} {y x : PV} {u : Value} (ho : σ[o]? = some (some ob)) (hm : m ≤ o) (hy : ob.es.flatten[j]? = some y) (ih : ∀ (x y : PV) (v : Value), snapV σ m n x = some y → VR w σ ι X x v → IR w (Off σ ι X m) y v)
    (h : (if isOwn y then some (unown y) else snapV σ m n y) = some x) (hr : CR w σ ι X o j y u) : IR w (Off σ ι X m) x u := by
  cases hoy : isOwn y with
  | true =>
    simp only [hoy, if_true, Option.some.injEq] at h
    subst h
    exact (hr.2 hoy).unown (fun b hb hn => off_of hn) fun b hb => hh.off2 ⟨ob, y, ho, hy, hoy, hb⟩ hm
  | false =>
    simp only [hoy] at h
    exact ih y x u h hr.1
theorem snap_ok (hh : HR w σ ι X) {m : Nat} : ∀ (n : Nat) (x y : PV) (v : Value), snapV σ m n x = some y → VR w σ ι X x v → IR w (Off σ ι X m) y v
  | 0, x, y, v, h, hx => by
    simp only [snapV] at h
    split at h
    · rename_i hp; cases h; exact (pure_ir x v hp hx).mono fun b _ hn => ⟨off_of hn, rfl⟩
    · cases h
  | n + 1, x, y, v, h, hx => by
    simp only [snapV] at h
    split at h
    · rename_i hp; cases h; exact (pure_ir x v hp hx).mono fun b _ hn => ⟨off_of hn, rfl⟩
    · cases x with
      | ref o ep lo len cap =>
        simp only at h
        split at h
        · rename_i ob hob
          split at h
          · rename_i hc
            simp only [Option.map_eq_some_iff] at h
            obtain ⟨es, hes, rfl⟩ := h
            obtain ⟨cur, c1, c2, c3, c4, c5, c6⟩ := hh.obj o ob hob
            obtain ⟨g1, g2⟩ := mapO_get hes
            refine hh.snap hx hob hc.2 g1.symm (fun e he => ?_) (hh.off hob hc.1) fun j x hj => ?_
            · obtain ⟨i, hi, rfl⟩ := List.getElem_of_mem he
              obtain ⟨e0, h1, h2⟩ := g2 i _ (List.getElem?_eq_getElem hi)
              rw [← (mapO_get h2).1]; exact c5 e0 (List.mem_of_getElem? h1)
            · obtain ⟨y, hy, hyx⟩ := mapO_flat hes j x hj
              exact ⟨y, hy, fun u hu => hh.cellS hob hc.1 hy (snap_ok hh n) hyx hu⟩
          · cases h
        · cases h
      | ptr o ep i off =>
        simp only at h
        split at h
        · rename_i ob hob
          split at h
          · rename_i hep
            split at h
            · rename_i e he
              simp only [Option.map_eq_some_iff] at h
              obtain ⟨l, hl, rfl⟩ := h
              obtain ⟨_, _, h2⟩ := hx.of_ptr
              obtain ⟨_, h4⟩ := h2 ob hob
              obtain ⟨_, rfl⟩ := h4 hep.2
              obtain ⟨cur, c1, c2, c3, c4, c5, c6⟩ := hh.obj o ob hob
              obtain ⟨g1, g2⟩ := mapO_get hl
              have hcell : ∀ (j : Nat) (x : PV), l[j]? = some x → ∃ u, cur[i * ob.sz + j]? = some u ∧ IR w (Off σ ι X m) x u := by
                intro j x hj
                obtain ⟨y, hy, hyx⟩ := g2 j x hj
                have hfl := flat_get c5 he hy
                obtain ⟨u, hu, hr⟩ := c6 _ y hfl
                exact ⟨u, hu, hh.cellS hob hep.1 hfl (snap_ok hh n) hyx hr⟩
              have hb : IR w (Off σ ι X m) (.iptr l) (.pointer (some ⟨(ι o).1, i * ob.sz, none⟩)) := by
                refine .iptr l _ (fun j => cur.getD (i * ob.sz + j) undef) (fun _ => hh.off hob hep.1) (fun j x hj => ?_) (fun j x hj => ?_)
                · obtain ⟨u, hu, _⟩ := hcell j x hj
                  rw [Addr.add_mid, cell_of_row w _ _ cur ob.ty (0, 0) c1, hu]
                  simp [Array.getD_eq_getD_getElem?, hu]
                · obtain ⟨u, hu, hr⟩ := hcell j x hj
                  simpa [Array.getD_eq_getD_getElem?, hu] using hr
              have := hb.iptr_drop off
              rwa [Addr.add_mid] at this
            · cases h
          · cases h
        · cases h
      | agg cs =>
        simp only [Option.map_eq_some_iff] at h
        obtain ⟨l, hl, rfl⟩ := h
        obtain ⟨us, rfl, g⟩ := hx.of_agg
        obtain ⟨s1, s2⟩ := mapO_ok (R := VR w σ ι X) (S := IR w (Off σ ι X m)) (snap_ok hh n) cs l us hl g
        exact .agg l us s1 s2
      | tup cs =>
        simp only [Option.map_eq_some_iff] at h
        obtain ⟨l, hl, rfl⟩ := h
        obtain ⟨us, rfl, g⟩ := hx.of_tup
        obtain ⟨s1, s2⟩ := mapO_ok (R := VR w σ ι X) (S := IR w (Off σ ι X m)) (snap_ok hh n) cs l us hl g
        exact .tup l us s1 s2
      | fn f cs =>
        simp only [Option.map_eq_some_iff] at h
        obtain ⟨l, hl, rfl⟩ := h
        obtain ⟨us, rfl, g⟩ := hx.of_fn
        obtain ⟨s1, s2⟩ := mapO_ok (R := VR w σ ι X) (S := IR w (Off σ ι X m)) (snap_ok hh n) cs l us hl g
        exact .fn f l us s1 s2
      | _ => simp at h
theorem snaps_ok (hh : HR w σ ι X) (n : Nat) (xs ys : List PV) (vs : List Value) (h : snapL σ n xs = some ys) (hv : VRs w σ ι X xs vs) : IRs w (Off σ ι X 0) ys vs :=
  mapO_ok (R := VR w σ ι X) (S := IR w (Off σ ι X 0)) (snap_ok hh n) xs ys vs h hv
/-- What frozen objects hold. -/
theorem frzV_ok (hh : HR w σ ι X) {x : PV} {v : Value} (hx : VR w σ ι X x v) : VR w σ ι X (frzV σ x) v := by
  cases x with
  | ref o ep lo len cap =>
    simp only [frzV]
    split
    · rename_i ob hob
      split
      · rename_i hc
        obtain ⟨hf, hep, hp⟩ := hc
        have hno : ¬ Own σ ι (ι o).1 := by
          rintro (⟨p, q, hq, hqf, hqe⟩ | ⟨p, j, h⟩)
          · have := hh.inj p o q ob hq hob hqf hqe
            subst this
            rw [hob] at hq; cases hq
            rw [hf] at hqf; cases hqf
          · exact hh.tob p j _ h o ob hob rfl
        refine .im _ _ (hh.snap hx hob hep rfl (fun e he => ?_) ⟨hno, hh.out o ob hob⟩ fun j y hj => ⟨y, hj, fun u hu => pure_ir y u ?_ hu.1⟩)
        · obtain ⟨cur, c1, c2, c3, c4, c5, c6⟩ := hh.obj o ob hob
          exact c5 e he
        · obtain ⟨e, he, hye⟩ := List.mem_flatten.1 (List.mem_of_getElem? hj)
          have h9 : pureL e = true := List.all_eq_true.1 hp e he
          have : ∀ (l : List PV), pureL l = true → ∀ x, x ∈ l → pureV x = true := by
            intro l
            induction l with
            | nil => simp
            | cons y ys ih =>
              intro h x hx
              simp [pureL] at h
              rcases List.mem_cons.1 hx with rfl | hx
              · exact h.1
              · exact ih h.2 x hx
          exact this e h9 y hye
      · exact hx
    · exact hx
  | _ => exact hx
theorem frzL_ok (hh : HR w σ ι X) {xs : List PV} {vs : List Value} (hx : VRs w σ ι X xs vs) : VRs w σ ι X (xs.map (frzV σ)) vs := by
  refine ⟨by simp [hx.1], fun j x v h hv => ?_⟩
  rw [List.getElem?_map, Option.map_eq_some_iff] at h
  obtain ⟨y, hy, rfl⟩ := h
  exact frzV_ok hh (hx.2 j y v hy hv)
end snap

section took
variable {X X' : Nat → Prop} {w w' : World} {ι ι' : Place} {σ σ' : Heap}
theorem RV.sub {y : PV} {v : Value} {S : Nat → Prop} (h : RV w σ ι X y v S) (hs : Sub w σ ι X σ' ι' X') : RV w σ' ι' X' y v S := by
  induction h with
  | vr x v S hx h hS => exact .vr x v S hx (h.sub hs) hS
  | tr x v S hx h => exact .tr x v S hx (h.sub hs)
  | agg cs vs S T hl hr hS hd ih => exact .agg cs vs S T hl ih hS hd
  | tup cs vs S T hl hr hS hd ih => exact .tup cs vs S T hl ih hS hd
mutual
theorem unf_noOwn : ∀ (x : PV) (σ : Heap), noOwnV x = true → unfV σ x = (x, σ)
  | .agg cs, σ, h => by simp only [unfV]; rw [unfL_noOwn cs σ (by simpa [noOwnV] using h)]
  | .tup cs, σ, h => by simp only [unfV]; rw [unfL_noOwn cs σ (by simpa [noOwnV] using h)]
  | .own .., σ, h => by simp [noOwnV] at h
  | .bool _, σ, _ => rfl
  | .int _ _, σ, _ => rfl
  | .str _, σ, _ => rfl
  | .nilp, σ, _ => rfl
  | .iptr _, σ, _ => rfl
  | .ptr .., σ, _ => rfl
  | .imm .., σ, _ => rfl
  | .ref .., σ, _ => rfl
  | .fn .., σ, _ => rfl
  | .nilfn, σ, _ => rfl
  | .nilif, σ, _ => rfl
  | .someif, σ, _ => rfl
  | .undef, σ, _ => rfl
theorem unfL_noOwn : ∀ (xs : List PV) (σ : Heap), noOwnL xs = true → unfL σ xs = (xs, σ)
  | [], σ, _ => rfl
  | x :: xs, σ, h => by
    simp only [noOwnL, Bool.and_eq_true] at h
    simp only [unfL]
    rw [unf_noOwn x σ h.1, unfL_noOwn xs σ h.2]
end
mutual
theorem unown_noOwn : ∀ (x : PV), noOwnV x = true → unown x = x
  | .agg cs, h => by simp only [unown]; rw [unownL_noOwn cs (by simpa [noOwnV] using h)]
  | .tup cs, h => by simp only [unown]; rw [unownL_noOwn cs (by simpa [noOwnV] using h)]
  | .own .., h => by simp [noOwnV] at h
  | .bool _, _ => rfl
  | .int _ _, _ => rfl
  | .str _, _ => rfl
  | .nilp, _ => rfl
  | .iptr _, _ => rfl
  | .ptr .., _ => rfl
  | .imm .., _ => rfl
  | .ref .., _ => rfl
  | .fn .., _ => rfl
  | .nilfn, _ => rfl
  | .nilif, _ => rfl
  | .someif, _ => rfl
  | .undef, _ => rfl
theorem unownL_noOwn : ∀ (xs : List PV), noOwnL xs = true → unownL xs = xs
  | [], _ => rfl
  | x :: xs, h => by
    simp only [noOwnL, Bool.and_eq_true] at h
    simp only [unownL]
    rw [unown_noOwn x h.1, unownL_noOwn xs h.2]
end
theorem Sub.same (h : ∀ b, X b ↔ X' b) : X = X' := by funext b; exact propext (h b)

theorem unf_plain (y : PV) (v : Value) (S : Nat → Prop) (σ : Heap) (ι : Place) (X X' : Nat → Prop) (hu : unfV σ y = (y, σ)) (hn : isOwn y = false) (ha : ∀ cs, y ≠ .agg cs) (ht : ∀ cs, y ≠ .tup cs) (hh : HR w σ ι X') (hr : RV w σ ι X' y v S) (h1 : ∀ b, X' b ↔ X b ∨ S b) :
    ∃ ι', HR w (unfV σ y).2 ι' X ∧ VR w (unfV σ y).2 ι' X (unfV σ y).1 v ∧ Sub w σ ι X' (unfV σ y).2 ι' X ∧ ∀ b, Own (unfV σ y).2 ι' b → Own σ ι b ∨ S b := by
  cases hr with
  | vr _ _ _ hx h hS =>
    have : X' = X := Sub.same fun b => ⟨fun h => ((h1 b).1 h).elim id fun h => absurd h (hS b), fun h => (h1 b).2 (.inl h)⟩
    subst this
    rw [hu]
    exact ⟨ι, hh, h, Sub.refl _ _ _ _, fun b hb => .inl hb⟩
  | tr _ _ _ hx => rw [hn] at hx; cases hx
  | agg cs => exact absurd rfl (ha cs)
  | tup cs => exact absurd rfl (ht cs)

mutual
/-- The caller takes trees as its own objects. -/
theorem unf_ok : ∀ (y : PV) (v : Value) (S : Nat → Prop) (σ : Heap) (ι : Place) (X X' : Nat → Prop), HR w σ ι X' → RV w σ ι X' y v S → (∀ b, X' b ↔ X b ∨ S b) → (∀ b, S b → ¬ X b) →
    ∃ ι', HR w (unfV σ y).2 ι' X ∧ VR w (unfV σ y).2 ι' X (unfV σ y).1 v ∧ Sub w σ ι X' (unfV σ y).2 ι' X ∧ ∀ b, Own (unfV σ y).2 ι' b → Own σ ι b ∨ S b
  | .own es n sz ty lim, v, S, σ, ι, X, X', hh, hr, h1, h2 => by
    cases hr with
    | vr _ _ _ hx => simp [noOwnV] at hx
    | tr _ _ _ _ h =>
      obtain ⟨ι', a1, a2, a3, a4⟩ := hh.give (X := X) h (fun b hb => (h1 b).1 hb) (fun b hb => (h1 b).2 (.inr hb)) (fun b hb => (h1 b).2 (.inl hb)) h2
      exact ⟨ι', a1, a2, a3, a4⟩
  | .agg cs, v, S, σ, ι, X, X', hh, hr, h1, h2 => by
    cases hr with
    | vr _ _ _ hx h hS =>
      have : X' = X := Sub.same fun b => ⟨fun h => ((h1 b).1 h).elim id fun h => absurd h (hS b), fun h => (h1 b).2 (.inl h)⟩
      subst this
      rw [unf_noOwn _ σ hx]
      exact ⟨ι, hh, h, Sub.refl _ _ _ _, fun b hb => .inl hb⟩
    | tr _ _ _ hx => simp [isOwn] at hx
    | agg _ vs _ T hl hr hS hd =>
      obtain ⟨ι', a1, a2, a3, a4⟩ := unfL_ok cs vs T σ ι X X' hh hl hr (fun b => by rw [h1, hS]) hd (fun b j hj hb => h2 b ((hS b).2 ⟨j, hj, hb⟩))
      exact ⟨ι', a1, .agg _ _ a2.1 a2.2, a3, fun b hb => by rw [hS]; exact a4 b hb⟩
  | .tup cs, v, S, σ, ι, X, X', hh, hr, h1, h2 => by
    cases hr with
    | vr _ _ _ hx h hS =>
      have : X' = X := Sub.same fun b => ⟨fun h => ((h1 b).1 h).elim id fun h => absurd h (hS b), fun h => (h1 b).2 (.inl h)⟩
      subst this
      rw [unf_noOwn _ σ hx]
      exact ⟨ι, hh, h, Sub.refl _ _ _ _, fun b hb => .inl hb⟩
    | tr _ _ _ hx => simp [isOwn] at hx
    | tup _ vs _ T hl hr hS hd =>
      obtain ⟨ι', a1, a2, a3, a4⟩ := unfL_ok cs vs T σ ι X X' hh hl hr (fun b => by rw [h1, hS]) hd (fun b j hj hb => h2 b ((hS b).2 ⟨j, hj, hb⟩))
      exact ⟨ι', a1, .tup _ _ a2.1 a2.2, a3, fun b hb => by rw [hS]; exact a4 b hb⟩
  | .bool b, v, S, σ, ι, X, X', hh, hr, h1, h2 => unf_plain _ v S σ ι X X' rfl rfl nofun nofun hh hr h1
  | .int _ _, v, S, σ, ι, X, X', hh, hr, h1, h2 => unf_plain _ v S σ ι X X' rfl rfl nofun nofun hh hr h1
  | .str _, v, S, σ, ι, X, X', hh, hr, h1, h2 => unf_plain _ v S σ ι X X' rfl rfl nofun nofun hh hr h1
  | .nilp, v, S, σ, ι, X, X', hh, hr, h1, h2 => unf_plain _ v S σ ι X X' rfl rfl nofun nofun hh hr h1
  | .iptr _, v, S, σ, ι, X, X', hh, hr, h1, h2 => unf_plain _ v S σ ι X X' rfl rfl nofun nofun hh hr h1
  | .ptr .., v, S, σ, ι, X, X', hh, hr, h1, h2 => unf_plain _ v S σ ι X X' rfl rfl nofun nofun hh hr h1
  | .imm .., v, S, σ, ι, X, X', hh, hr, h1, h2 => unf_plain _ v S σ ι X X' rfl rfl nofun nofun hh hr h1
  | .ref .., v, S, σ, ι, X, X', hh, hr, h1, h2 => unf_plain _ v S σ ι X X' rfl rfl nofun nofun hh hr h1
  | .fn f cs, v, S, σ, ι, X, X', hh, hr, h1, h2 => unf_plain _ v S σ ι X X' rfl rfl nofun nofun hh hr h1
  | .nilfn, v, S, σ, ι, X, X', hh, hr, h1, h2 => unf_plain _ v S σ ι X X' rfl rfl nofun nofun hh hr h1
  | .nilif, v, S, σ, ι, X, X', hh, hr, h1, h2 => unf_plain _ v S σ ι X X' rfl rfl nofun nofun hh hr h1
  | .someif, v, S, σ, ι, X, X', hh, hr, h1, h2 => unf_plain _ v S σ ι X X' rfl rfl nofun nofun hh hr h1
  | .undef, v, S, σ, ι, X, X', hh, hr, h1, h2 => unf_plain _ v S σ ι X X' rfl rfl nofun nofun hh hr h1
theorem unfL_ok : ∀ (cs : List PV) (vs : List Value) (T : Nat → Nat → Prop) (σ : Heap) (ι : Place) (X X' : Nat → Prop), HR w σ ι X' → cs.length = vs.length → (∀ (j : Nat) (x : PV) (v : Value), cs[j]? = some x → vs[j]? = some v → RV w σ ι X' x v (T j)) →
    (∀ b, X' b ↔ X b ∨ ∃ j, j < cs.length ∧ T j b) → (∀ (j j' b : Nat), j < cs.length → j' < cs.length → T j b → T j' b → j = j') → (∀ b j, j < cs.length → T j b → ¬ X b) →
    ∃ ι', HR w (unfL σ cs).2 ι' X ∧ VRs w (unfL σ cs).2 ι' X (unfL σ cs).1 vs ∧ Sub w σ ι X' (unfL σ cs).2 ι' X ∧ ∀ b, Own (unfL σ cs).2 ι' b → Own σ ι b ∨ ∃ j, j < cs.length ∧ T j b
  | [], vs, T, σ, ι, X, X', hh, hl, hr, h1, hd, h2 => by
    have : vs = [] := List.eq_nil_of_length_eq_zero (by simpa using hl.symm)
    subst this
    have : X' = X := Sub.same fun b => ⟨fun h => ((h1 b).1 h).elim id fun ⟨j, hj, _⟩ => absurd hj (Nat.not_lt_zero j), fun h => (h1 b).2 (.inl h)⟩
    subst this
    exact ⟨ι, hh, VRs.nil, Sub.refl _ _ _ _, fun b hb => .inl hb⟩
  | x :: cs, [], T, σ, ι, X, X', hh, hl, hr, h1, hd, h2 => by simp at hl
  | x :: cs, v :: vs, T, σ, ι, X, X', hh, hl, hr, h1, hd, h2 => by
    -- what is foreign between
    let Xm : Nat → Prop := fun b => X b ∨ ∃ j, j < cs.length ∧ T (j + 1) b
    have hm : ∀ b, X' b ↔ Xm b ∨ T 0 b := by
      intro b
      rw [h1]
      constructor
      · rintro (h | ⟨j, hj, h⟩)
        · exact .inl (.inl h)
        · cases j with
          | zero => exact .inr h
          | succ j => exact .inl (.inr ⟨j, by simpa using hj, h⟩)
      · rintro ((h | ⟨j, hj, h⟩) | h)
        · exact .inl h
        · exact .inr ⟨j + 1, by simpa using hj, h⟩
        · exact .inr ⟨0, by simp, h⟩
    obtain ⟨ι1, a1, a2, a3, a4⟩ := unf_ok x v (T 0) σ ι Xm X' hh (hr 0 x v rfl rfl) hm (fun b hb => by
      rintro (h | ⟨j, hj, h⟩)
      · exact h2 b 0 (by simp) hb h
      · have := hd 0 (j + 1) b (by simp) (by simpa using hj) hb h
        omega)
    obtain ⟨ι2, b1, b2, b3, b4⟩ := unfL_ok cs vs (fun j => T (j + 1)) _ ι1 X Xm a1 (by simpa using hl) (fun j x v hx hv => (hr (j + 1) x v (by simpa using hx) (by simpa using hv)).sub a3) (fun b => Iff.rfl)
      (fun j j' b hj hj' h h' => by have := hd (j + 1) (j' + 1) b (by simpa using hj) (by simpa using hj') h h'; omega) (fun b j hj hb => h2 b (j + 1) (by simpa using hj) hb)
    refine ⟨ι2, b1, VRs.cons (a2.sub b3) b2, a3.trans b3, fun b hb => ?_⟩
    rcases b4 b hb with h | ⟨j, hj, h⟩
    · rcases a4 b h with h | h
      · exact .inl h
      · exact .inr ⟨0, by simp, h⟩
    · exact .inr ⟨j + 1, by simpa using hj, h⟩
end
end took
end Go.Mach

/- Calls. -/
namespace Go.Mach
open Go
set_option linter.unusedVariables false
set_option linter.unusedSimpArgs false

section took
variable {X X' : Nat → Prop} {w w' : World} {ι ι' : Place} {σ σ' : Heap}
/-- Trees, to be read only. -/
theorem RV.unown {y : PV} {v : Value} {S : Nat → Prop} (h : RV w σ ι X' y v S) (h1 : ∀ b, X b → X' b) : (∀ b, S b → ¬ Own σ ι b ∧ ¬ X b) → VR w σ ι X (Go.Mach.unown y) v := by
  have hs : Sub w σ ι X' σ ι X := ⟨Nat.le_refl _, fun o _ ob h => ⟨ob, h, rfl, rfl, rfl, rfl, fun h => h⟩, fun b _ hn => ⟨hn.1, fun hx => hn.2 (h1 b hx)⟩⟩
  induction h with
  | vr x v S hx h hS => intro _; rw [unown_noOwn x hx]; exact h.sub hs
  | tr x v S hx h => intro hS; exact .im _ _ (h.unown (fun b _ hn => ⟨hn.1, fun hx => hn.2 (h1 b hx)⟩) hS)
  | agg cs vs S T hl hr hS hd ih =>
    intro hb
    simp only [Go.Mach.unown, unownL_map]
    refine .agg _ vs (by simpa using hl) fun j x v hx hv => ?_
    rw [List.getElem?_map, Option.map_eq_some_iff] at hx
    obtain ⟨y, hy, rfl⟩ := hx
    exact ih j y v hy hv fun b h => hb b ((hS b).2 ⟨j, (List.getElem?_eq_some_iff.1 hy).1, h⟩)
  | tup cs vs S T hl hr hS hd ih =>
    intro hb
    simp only [Go.Mach.unown, unownL_map]
    refine .tup _ vs (by simpa using hl) fun j x v hx hv => ?_
    rw [List.getElem?_map, Option.map_eq_some_iff] at hx
    obtain ⟨y, hy, rfl⟩ := hx
    exact ih j y v hy hv fun b h => hb b ((hS b).2 ⟨j, (List.getElem?_eq_some_iff.1 hy).1, h⟩)
theorem HR.weak (hh : HR w σ ι X') (h1 : ∀ b, X b → X' b) : HR w σ ι X := by
  have hs : Sub w σ ι X' σ ι X := ⟨Nat.le_refl _, fun o _ ob h => ⟨ob, h, rfl, rfl, rfl, rfl, fun h => h⟩, fun b _ hn => ⟨hn.1, fun hx => hn.2 (h1 b hx)⟩⟩
  refine ⟨fun o ob ho => ?_, hh.inj, fun o ob ho hx => hh.out o ob ho (h1 _ hx), hh.fro, hh.tin, hh.tob, fun o j b h hx => hh.tx o j b h (h1 b hx)⟩
  obtain ⟨cur, c1, c2, c3, c4, c5, c6⟩ := hh.obj o ob ho
  exact ⟨cur, c1, c2, c3, c4, c5, fun j x hx => by
    obtain ⟨v, hv, hr⟩ := c6 j x hx
    exact ⟨v, hv, hr.sub hs fun _ => rfl⟩⟩
/-- More is foreign: what is new. -/
theorem HR.more (hh : HR w σ ι X) {S : Nat → Prop} (hS : ∀ b, S b → w.heap.size ≤ b) : HR w σ ι (fun b => X b ∨ S b) ∧ Sub w σ ι X σ ι (fun b => X b ∨ S b) := by
  have hs : Sub w σ ι X σ ι (fun b => X b ∨ S b) := ⟨Nat.le_refl _, fun o _ ob h => ⟨ob, h, rfl, rfl, rfl, rfl, fun h => h⟩, fun b hb hn => ⟨hn.1, fun hx => hx.elim hn.2 fun h => by have := hS b h; omega⟩⟩
  refine ⟨⟨fun o ob ho => ?_, hh.inj, fun o ob ho hx => hx.elim (hh.out o ob ho) fun h => ?_, hh.fro, hh.tin, hh.tob, fun o j b h hx => hx.elim (hh.tx o j b h) fun h' => ?_⟩, hs⟩
  · obtain ⟨cur, c1, c2, c3, c4, c5, c6⟩ := hh.obj o ob ho
    exact ⟨cur, c1, c2, c3, c4, c5, fun j x hx => by
      obtain ⟨v, hv, hr⟩ := c6 j x hx
      exact ⟨v, hv, hr.sub hs fun _ => rfl⟩⟩
  · have := hS _ h; have := hh.lt ho; omega
  · have := hS b h'; have := hh.tb_lt h; omega
theorem took_ok {own : Bool} {y : PV} {v : Value} {S : Nat → Prop} (hh : HR w σ ι (fun b => X b ∨ S b)) (hr : RV w σ ι (fun b => X b ∨ S b) y v S) (h2 : ∀ b, S b → ¬ X b) :
    ∃ ι', HR w (took own σ y).2 ι' X ∧ VR w (took own σ y).2 ι' X (took own σ y).1 v ∧ Sub w σ ι (fun b => X b ∨ S b) (took own σ y).2 ι' X ∧ ∀ b, Own (took own σ y).2 ι' b → Own σ ι b ∨ S b := by
  cases own with
  | true => exact unf_ok y v S σ ι X _ hh hr (fun b => Iff.rfl) h2
  | false =>
    refine ⟨ι, hh.weak fun b hb => .inl hb, hr.unown (fun b hb => .inl hb) fun b hb => ⟨?_, h2 b hb⟩, ⟨Nat.le_refl _, fun o _ ob h => ⟨ob, h, rfl, rfl, rfl, rfl, fun h => h⟩, fun b _ hn => ⟨hn.1, fun hx => hn.2 (.inl hx)⟩⟩, fun b hb => .inl hb⟩
    rintro (⟨o, ob, ho, _, rfl⟩ | ⟨o, j, h⟩)
    · exact hh.out o ob ho (.inr hb)
    · exact hh.tx o j b h (.inr hb)
mutual
theorem clos_ir {B B' : Nat → Prop} : ∀ (x : PV) (v : Value), closedV x = true → IR w B x v → IR w B' x v
  | .bool b, v, _, h => by cases h; exact .bool _
  | .int k n, v, _, h => by cases h; exact .int _ _
  | .str s, v, _, h => by cases h with | str _ h => exact .str _ h
  | .nilp, v, _, h => by cases h; exact .nilp
  | .nilfn, v, _, h => by cases h; exact .nilfn
  | .nilif, v, _, h => by cases h; exact .nilif
  | .iptr l, v, hs, _ => by simp [closedV] at hs
  | .imm [] [] lim, v, hs, h => by
    cases h with
    | imm _ _ _ A a c sz vs hc1 hc2 hl hA ho hz hc hr => exact .imm _ _ _ A a c sz vs hc1 hc2 hl hA (by simp) hz hc (fun j x hx => by simp at hx)
  | .imm (e :: es) sp lim, v, hs, h => by simp [closedV] at hs
  | .imm [] (e :: sp) lim, v, hs, h => by simp [closedV] at hs
  | .ptr .., v, hs, _ => by simp [closedV] at hs
  | .ref .., v, hs, _ => by simp [closedV] at hs
  | .own .., v, hs, h => by cases h
  | .fn .., v, hs, _ => by simp [closedV] at hs
  | .someif, v, hs, _ => by simp [closedV] at hs
  | .undef, v, hs, _ => by simp [closedV] at hs
  | .agg cs, v, hs, h => by
    cases h with | agg _ vs hl hr => exact .agg cs vs hl (clos_irs cs vs (by simpa [closedV] using hs) hr)
  | .tup cs, v, hs, h => by
    cases h with | tup _ vs hl hr => exact .tup cs vs hl (clos_irs cs vs (by simpa [closedV] using hs) hr)
theorem clos_irs {B B' : Nat → Prop} : ∀ (xs : List PV) (vs : List Value), closedL xs = true → (∀ (j : Nat) (x : PV) (v : Value), xs[j]? = some x → vs[j]? = some v → IR w B x v) →
    ∀ (j : Nat) (x : PV) (v : Value), xs[j]? = some x → vs[j]? = some v → IR w B' x v
  | [], vs, _, _, j, x, v, hx, _ => by simp at hx
  | y :: ys, [], _, _, j, x, v, _, hv => by simp at hv
  | y :: ys, u :: us, hp, h, j, x, v, hx, hv => by
    simp [closedL] at hp
    cases j with
    | zero => simp at hx hv; subst hx; subst hv; exact clos_ir y u hp.1 (h 0 y u rfl rfl)
    | succ j => exact clos_irs ys us hp.2 (fun j x v hx hv => h (j + 1) x v (by simpa using hx) (by simpa using hv)) j x v (by simpa using hx) (by simpa using hv)
end
theorem closedL_mem : ∀ {xs : List PV}, closedL xs = true → ∀ {x : PV}, x ∈ xs → closedV x = true
  | [], _, x, hx => by cases hx
  | y :: ys, h, x, hx => by
    simp only [closedL, Bool.and_eq_true] at h
    rcases List.mem_cons.1 hx with rfl | hx
    · exact h.1
    · exact closedL_mem h.2 hx
theorem closedLL_mem : ∀ {es : List (List PV)}, closedLL es = true → ∀ {x : PV}, x ∈ es.flatten → closedV x = true
  | [], _, x, hx => by cases hx
  | e :: es, h, x, hx => by
    simp only [closedLL, Bool.and_eq_true] at h
    rw [List.flatten_cons, List.mem_append] at hx
    rcases hx with hx | hx
    · exact closedL_mem h.1 hx
    · exact closedLL_mem h.2 hx
theorem TR.closed {B B' : Nat → Prop} {x : PV} {v : Value} {S : Nat → Prop} (h : TR w B x v S) : closedV x = true → TR w B' x v S := by
  induction h with
  | im x v S hx h hS => intro hc; exact .im x v S hx (clos_ir x v hc h) hS
  | own es n sz ty lim A b c m cur S T vs hb hcs hcm hm hn hc hl hl' hA hz hv hr hS hT hd ih =>
    intro hcl
    exact .own es n sz ty lim A b c m cur S T vs hb hcs hcm hm hn hc hl hl' hA hz hv (fun j x hx => ih j x hx (closedLL_mem (by simpa [closedV] using hcl) (List.mem_of_getElem? hx))) hS hT hd
mutual
theorem closed_pure : ∀ (x : PV), closedV x = true → noOwnV x = true → pureV x = true
  | .agg cs, h, hn => by simp only [pureV]; exact closedL_pure cs (by simpa [closedV] using h) (by simpa [noOwnV] using hn)
  | .tup cs, h, hn => by simp only [pureV]; exact closedL_pure cs (by simpa [closedV] using h) (by simpa [noOwnV] using hn)
  | .own .., h, hn => by simp [noOwnV] at hn
  | .bool _, _, _ => rfl
  | .int _ _, _, _ => rfl
  | .str _, _, _ => rfl
  | .nilp, _, _ => rfl
  | .iptr _, _, _ => rfl
  | .ptr .., h, _ => by simp [closedV] at h
  | .imm .., _, _ => rfl
  | .ref .., h, _ => by simp [closedV] at h
  | .fn .., h, _ => by simp [closedV] at h
  | .nilfn, _, _ => rfl
  | .nilif, _, _ => rfl
  | .someif, _, _ => rfl
  | .undef, h, _ => by simp [closedV] at h
theorem closedL_pure : ∀ (xs : List PV), closedL xs = true → noOwnL xs = true → pureL xs = true
  | [], _, _ => rfl
  | x :: xs, h, hn => by
    simp only [closedL, noOwnL, Bool.and_eq_true] at h hn
    simp only [pureL, Bool.and_eq_true]
    exact ⟨closed_pure x h.1 hn.1, closedL_pure xs h.2 hn.2⟩
end
theorem RV.closed {y : PV} {v : Value} {S : Nat → Prop} (h : RV w σ ι X y v S) : closedV y = true → RV w σ' ι' X' y v S := by
  induction h with
  | vr x v S hx h hS => intro hc; exact .vr x v S hx (.im _ _ (clos_ir x v hc (pure_ir x v (closed_pure x hc hx) h))) hS
  | tr x v S hx h => intro hc; exact .tr x v S hx (h.closed hc)
  | agg cs vs S T hl hr hS hd ih => intro hc; exact .agg cs vs S T hl (fun j x v hx hv => ih j x v hx hv (closedL_mem (by simpa [closedV] using hc) (List.mem_of_getElem? hx))) hS hd
  | tup cs vs S T hl hr hS hd ih => intro hc; exact .tup cs vs S T hl (fun j x v hx hv => ih j x v hx hv (closedL_mem (by simpa [closedV] using hc) (List.mem_of_getElem? hx))) hS hd
end took

section calls
variable {P : Program} {X : Nat → Prop} {w w' : World} {ι : Place} {σ : Heap}
theorem own_nil (ι : Place) (b : Nat) : ¬ Own [] ι b := by
  rintro (⟨o, ob, h, _⟩ | ⟨o, j, ob, x, h, _⟩) <;> simp at h
theorem HR.nil (w : World) (ι : Place) (X : Nat → Prop) : HR w [] ι X :=
  ⟨fun o ob h => by simp at h, fun o o' ob ob' h => by simp at h, fun o ob h => by simp at h, fun o ob h => by simp at h, fun o o' j j' b h => by obtain ⟨_, _, h, _⟩ := h; simp at h,
    fun o j b h => by obtain ⟨_, _, h, _⟩ := h; simp at h, fun o j b h => by obtain ⟨_, _, h, _⟩ := h; simp at h⟩
theorem Kept.weak {ow : Nat → Prop} (h : Kept (fun _ => False) w w') (ho : ∀ b, b < w.heap.size → ow b → ∃ (c : Array Value) (t : TypeId) (fr : Nat × Nat), w.heap[b]? = some (.cells c t fr)) : Kept ow w w' :=
  ⟨h.os, h.tape, h.output, h.size, fun b hb _ => h.block b hb (fun x => x), h.shape, ho⟩
theorem HR.kept (hh : HR w σ ι X) (h : Kept (fun _ => False) w w') : HR w' σ ι X := by
  have hk : Kept (Own σ ι) w w' := h.weak fun b _ ho => hh.own_cells ho
  refine ⟨fun o ob ho => ?_, hh.inj, hh.out, hh.fro, hh.tin, hh.tob, hh.tx⟩
  obtain ⟨cur, c1, c2, c3, c4, c5, c6⟩ := hh.obj o ob ho
  exact ⟨cur, by rw [h.block _ (Array.getElem?_eq_some_iff.1 c1).1 (fun x => x)]; exact c1, c2, c3, c4, c5, fun j x hx => by
    obtain ⟨v, hv, hr⟩ := c6 j x hx
    exact ⟨v, hv, hr.go hk (Evo.refl _ _ _) (fun _ => rfl) fun hox b hb => h.block b (hh.tb_lt ⟨ob, x, ho, hx, hox, hb⟩) fun x => x⟩⟩

/-- What the caller has behind a call. -/
def After (w : World) (σ : Heap) (ι : Place) (X : Nat → Prop) (Q : PV → Heap → Prop) (e : Ending) (w' : World) : Prop :=
  ∃ v r σ' ι', Q r σ' ∧ e = .returned v ∧ HR w' σ' ι' X ∧ VR w' σ' ι' X r v ∧ Kept (Own σ ι) w w' ∧ Evo w σ ι σ' ι'

theorem after_took {own : Bool} {y : PV} {v : Value} {S : Nat → Prop} {σ1 : Heap} {ι1 : Place} {Q : PV → Heap → Prop} (hQ : Q (took own σ1 y).1 (took own σ1 y).2) (h0 : HR w σ ι X) (hX : ∀ b, X b → b < w.heap.size) (hS : ∀ b, S b → Own σ ι b ∨ w.heap.size ≤ b)
    (hh : HR w' σ1 ι1 (fun b => X b ∨ S b)) (hr : RV w' σ1 ι1 (fun b => X b ∨ S b) y v S) (hk : Kept (Own σ ι) w w') (he : Evo w σ ι σ1 ι1) : After w σ ι X Q (.returned v) w' := by
  obtain ⟨ι2, a1, a2, a3, a4⟩ := took_ok (own := own) hh hr fun b hb hx => by
    rcases hS b hb with (⟨o, ob, ho, _, rfl⟩ | ⟨o, j, h⟩) | h
    · exact h0.out o ob ho hx
    · exact h0.tx o j b h hx
    · have := hX b hx; omega
  refine ⟨v, _, _, ι2, hQ, rfl, a1, a2, hk, ⟨Nat.le_trans he.len a3.len, fun o ho ob' h' => ?_, fun b hb => ?_⟩⟩
  · obtain ⟨ob1, h1, b1, b2, b3, b4, b5⟩ := a3.obj o (Nat.lt_of_lt_of_le ho he.len) ob' h'
    obtain ⟨ob, h0, c1, c2, c3, c4, c5⟩ := he.obj o ho ob1 h1
    exact ⟨ob, h0, b1.trans c1, b2.trans c2, by omega, fun e => b4.trans (c4 (by omega)), fun h => c5 (b5 h)⟩
  · rcases a4 b hb with h | h
    · exact he.own b h
    · exact hS b h

theorem cs_ok {f : FuncId} {A : List PV} {Q : PV → Heap → Prop} (h : CS P f A σ Q) (hh : HR w σ ι X) (hg : G P w) (hX : ∀ b, X b → b < w.heap.size) (hl : ∀ b, Own σ ι b → P.low ≤ b) {vs : List Value} (hv : VRs w σ ι X A vs) :
    Ent P f ∧ Calls P f vs.toArray w (After w σ ι X Q) := by
  have low0 : ∀ (ι : Place) b, Own [] ι b → P.low ≤ b := fun ι b hb => absurd hb (own_nil _ _)
  -- a call that began without objects
  have key : ∀ {own : Bool} {Q : PV → Prop} {ι1 : Place} {y : PV} {v : Value} {S : Nat → Prop} {w' : World}, Q y → (∀ b, S b → w.heap.size ≤ b) → RV w' σ ι (fun b => X b ∨ S b) y v S → Kept (Own [] ι1) w w' →
      After w σ ι X (fun r σ' => ∃ y, Q y ∧ (r, σ') = took own σ y) (.returned v) w' := by
    intro own Q ι1 y v S w' hq hS hr hk
    have hk' : Kept (fun _ => False) w w' := ⟨hk.os, hk.tape, hk.output, hk.size, fun b hb _ => hk.block b hb (own_nil _ _), hk.shape, fun b _ h => h.elim⟩
    exact after_took (own := own) (σ1 := σ) (ι1 := ι) ⟨y, hq, rfl⟩ hh hX (fun b hb => .inr (hS b hb)) ((hh.more hS).1.kept hk') hr (hk'.weak fun b _ ho => hh.own_cells ho) (Evo.refl _ _ _)
  cases h with
  | shared own Q h =>
    refine ⟨h.1, (h.2 w ι X vs hh hg hX hl hv).mono ?_⟩
    rintro e w' ⟨v, ι', y, σ', S, hq, rfl, h1, h2, h3, h5, h6⟩
    exact after_took (own := own) ⟨y, σ', hq, rfl⟩ hh hX h3 h1 h2 h5 h6
  | pure own Q hA h =>
    refine ⟨h.1, (h.2 w ι (fun b => X b ∨ Own σ ι b) vs (HR.nil _ _ _) hg (fun b hb => hb.elim (hX b) fun h => hh.own_lt h) (low0 ι) ⟨hv.1, fun j x v hx hv' =>
      .im _ _ ((pure_irs A vs hA hv j x v hx hv').mono fun b _ hn => ⟨⟨own_nil _ _, fun ho => ho.elim hn.2 hn.1⟩, rfl⟩)⟩).mono ?_⟩
    rintro e w' ⟨v, ι', y, σ', S, ⟨rfl, hq⟩, rfl, h1, h2, h3, h5, h6⟩
    have h3 : ∀ b, S b → w.heap.size ≤ b := fun b hb => (h3 b hb).resolve_left (own_nil _ _)
    exact key hq h3 (h2.sub ⟨Nat.zero_le _, fun o ho => absurd ho (Nat.not_lt_zero o), fun b hb hn => ⟨fun ho => hn.2 (.inl (.inr ho)), fun hx => hn.2 (hx.elim (fun h => .inl (.inl h)) .inr)⟩⟩) h5
  | snap own Q n A' hA h hc =>
    have hs := snaps_ok hh n A A' vs hA hv
    refine ⟨h.1, (h.2 w ι (fun _ => False) vs (HR.nil _ _ _) hg (fun b hb => hb.elim) (low0 ι) ⟨hs.1, fun j x v hx hv' =>
      .im _ _ ((hs.2 j x v hx hv').mono fun b _ hn => ⟨⟨own_nil _ _, fun ho => ho⟩, rfl⟩)⟩).mono ?_⟩
    rintro e w' ⟨v, ι', y, σ', S, ⟨rfl, hq⟩, rfl, h1, h2, h3, h5, h6⟩
    have h3 : ∀ b, S b → w.heap.size ≤ b := fun b hb => (h3 b hb).resolve_left (own_nil _ _)
    exact key hq h3 (h2.closed (hc y hq)) h5
end calls
end Go.Mach

/- One operation, lists of operations. -/
namespace Go.Mach
open Go
set_option linter.unusedVariables false
set_option linter.unusedSimpArgs false

section code
variable {P : Program} {w0 : World} {σ0 : Heap} {ι0 : Place} {X : Nat → Prop} {N : Nat}

/-- The real call of a function value. -/
theorem run_call {f : FuncId} (he : Ent P f) {dst : Option Tmp} {ty : TypeId} {pos : String} {after : Array Edge} {guard : Option (Nat × Bool)} {x : Operand} {args : Array Operand} {tys : Array TypeId} {ρ : Operand → Value} {cs : Array Value}
    (hx : ρ x = .func (.func f) #[] cs) (w : World) : (execOp ρ ⟨dst, .call ⟨.value x, args, tys⟩, ty, pos, after, guard⟩).run P w = .ok (.enter f (args.map ρ ++ cs)) w := by
  obtain ⟨fn, h1, h2, h3⟩ := he
  have h2' : ¬ fn.body = none := by intro e; simp [e] at h2
  have h3' : ¬ fn.name = "runtime.NumGoroutine" := by intro e; simp [e] at h3
  simp [execOp, resolve, hx, Deferred.ofValue, invoke, callFunc, h1, h2', h3']

def isCall : Ev → Bool
  | .call _ _ => true
  | _ => false
theorem newV_nc {σ : Heap} {ty : Nat} {cs : List PV} : isCall (newV σ ty cs) = false := by unfold newV; split <;> rfl
theorem intB_nc {op : BinOp} {k : IntKind} {a b : Int} : isCall (intB op k a b) = false := by cases op <;> rfl
theorem loadC_nc {ag : Bool} {sz : Nat} {l : List PV} : isCall (loadC ag sz l) = false := by
  unfold loadC
  repeat' split
  all_goals rfl
theorem hpOf_nc {σ : Heap} {e : Ev} : isCall (hpOf σ e) = false := by cases e <;> rfl
theorem plainV_nc {σ : Heap} {ag : Bool} {sz o ep i off : Nat} : isCall (plainV σ ag sz o ep i off) = false := by
  unfold plainV
  repeat' split
  all_goals first | exact loadC_nc | rfl
theorem eval_nc {st : St} {m : MOp} (h : isCall (evalOp st m) = true) : ∃ f as, m = .call f as := by
  cases m with
  | call f as => exact ⟨f, as, rfl⟩
  | mov x => simp [evalOp, isCall] at h
  | mkf f cs => simp [evalOp, isCall] at h
  | box ty x => simp only [evalOp, boxV, newV_nc] at h; cases h
  | alloc ty z => simp only [evalOp, newV_nc] at h; cases h
  | bin op x y =>
    exfalso
    simp only [evalOp, binV] at h
    repeat' split at h
    all_goals first | (simp [intB_nc] at h; done) | (simp [isCall] at h; done)
  | load ag sz x =>
    exfalso
    simp only [evalOp, loadV] at h
    repeat' split at h
    all_goals first | (simp [loadC_nc] at h; done) | (simp [isCall] at h; done) | (simp [hpOf_nc] at h; done) | (simp [plainV_nc] at h; done)
  | _ =>
    exfalso
    simp only [evalOp, pickV, notV, negV, seqV, catV, beqV, eqaV, eqnV, buildV, bslV, storeV, nilcV, slsV, slV, fadrV, fldV, iadrV, idxV, extV, mksV, lensV, lenlV, appV, appNew, cnviV, cnvsV, mmV] at h
    repeat' split at h
    all_goals (simp [isCall] at h; done)
theorem trOp_call {o : Oper} {mop : MOp} {st : St} {fv : PV} {A : List PV} (h : trOp P o = some mop) (he : evalOp st mop = .call fv A) :
    ∃ x args tys, o.op = .call ⟨.value x, args, tys⟩ ∧ ∃ mf mas, trX x = some mf ∧ trXs args.toList = some mas ∧ mop = .call mf mas := by
  obtain ⟨mf, mas, rfl⟩ := eval_nc (st := st) (m := mop) (by rw [he]; rfl)
  obtain ⟨dst, op, type, pos, after, guard⟩ := o
  unfold trOp at h
  cases op
  case call c =>
    obtain ⟨callee, args, argTypes⟩ := c
    cases callee with
    | value x =>
      simp only [Option.bind_eq_bind, Option.bind_eq_some_iff, Option.pure_def, Option.some.injEq] at h
      obtain ⟨mf', hmf, mas', hmas, h⟩ := h
      cases h
      exact ⟨x, args, argTypes, rfl, mf, mas, hmf, hmas, rfl⟩
    | invoke r m => cases h
    | builtin b =>
      exfalso
      cases b <;> simp only at h <;> try (cases h; done)
      all_goals
        repeat' split at h
        all_goals first
          | (cases h; done)
          | (simp [Option.bind_eq_some_iff, Option.map_eq_some_iff] at h; done)
          | (simp only [Option.bind_eq_bind, Option.bind_eq_some_iff, Option.pure_def] at h
             obtain ⟨i, hi, z, hz, h⟩ := h
             split at h
             · simp [Option.bind_eq_some_iff] at h
             · cases h)
  all_goals
    exfalso
    try simp only [Option.bind_eq_bind, Option.bind_eq_some_iff, Option.pure_def, Option.map_eq_some_iff, Option.some.injEq] at h
    try (obtain ⟨x1, hx1, h⟩ := h)
    try (cases h; done)
    try (obtain ⟨x2, hx2, h⟩ := h)
    try (cases h; done)
    try (obtain ⟨x3, hx3, h⟩ := h)
    try (cases h; done)
    try (obtain ⟨x4, hx4, h⟩ := h)
    try (cases h; done)
    try (repeat' split at h)
    all_goals try (cases h; done)
    all_goals try (simp [Option.bind_eq_some_iff, Option.map_eq_some_iff] at h; done)
  all_goals contradiction

theorem wanted_ok {st : St} {a : Act} {w : World} {ι : Place} (h : SR P w0 σ0 ι0 X N st a w ι) {ops : Array Oper} {o : Oper} {g : Option (Nat × Bool)} (hg : trG ops o = some g) (hf : ∀ t b, g = some (t, b) → t < N) {r : Bool} (hr : gd st g = some r) :
    Region.wanted o (yielded ops a.tmps) = r := by
  unfold trG at hg
  cases ho : o.guard with
  | none =>
    rw [ho] at hg
    cases hg
    simp [gd] at hr
    simp [Region.wanted, ho, hr]
  | some jb =>
    obtain ⟨j, b⟩ := jb
    rw [ho] at hg
    simp only at hg
    split at hg
    · rename_i d hd
      cases hg
      have hlt := hf d b rfl
      have hv := h.tm d
      have hget : a.tmps[d]? = some (a.tmps.getD d undef) := by
        have : d < a.tmps.size := by rw [h.sz]; exact hlt
        simp [Array.getD_eq_getD_getElem?, this]
      simp only [gd] at hr
      split at hr
      · rename_i c hc
        rw [hc] at hv
        rw [hv.of_bool] at hget
        cases hr
        simp [Region.wanted, ho, yielded, hd, hget]
      · rename_i cs hc
        rw [hc] at hv
        obtain ⟨us, hu, _⟩ := hv.of_tup
        rw [hu] at hget
        cases hr
        simp [Region.wanted, ho, yielded, hd, hget]
      · cases hr
    · cases hg

theorem op_sound {ops : Array Oper} {Q : Exit → Act → World → Prop} {k : St → Prop} {K : Act → World → Prop} (hK : ∀ st a w ι, SR P w0 σ0 ι0 X N st a w ι → k st → K a w) {o : Oper} {mo : MOper} (hmo : trOper P ops o = some mo) (hf1 : fitO N mo = true)
    {st : St} {a : Act} {w : World} {ι : Place} (hs : SR P w0 σ0 ι0 X N st a w ι) (h : wop1 P mo k st) :
    if Region.wanted o (yielded ops a.tmps) then o.wp P a w K Q ∨ (o.asks P a w ∧ LetsOut Q) else K (a.put o.dst undef) w := by
  simp only [trOper, Option.bind_eq_bind, Option.pure_def, Option.bind_eq_some_iff, Option.some.injEq] at hmo
  obtain ⟨mop, hop, g, hg, rfl⟩ := hmo
  simp only [fitO, Bool.and_eq_true] at hf1
  have hd : ∀ t, o.dst = some t → t < N := fun t ht => by have := hf1.1; rw [ht] at this; simpa using this
  have hgf : ∀ t b, g = some (t, b) → t < N := fun t b ht => by have := hf1.2; rw [ht] at this; simpa using this
  simp only [wop1] at h
  cases hgd : gd st g with
  | none => rw [hgd] at h; exact h.elim
  | some b =>
    have hw := wanted_ok hs hg hgf hgd
    rw [hgd] at h
    cases b with
    | false =>
      simp only at h
      rw [if_neg (by simp [hw])]
      exact hK _ _ w ι (hs.putV hd (.im _ _ (.tup [] [] rfl (by simp)))) h
    | true =>
      simp only at h
      rw [if_pos hw]
      refine .inl ?_
      have hok := op_ok hs hop
      have fin : ∀ {v : PV} {σ' : Heap}, Did P X (execOp a.eval o) w st.σ ι v σ' → k ((st.withσ σ').putO o.dst v) → o.wp P a w K Q := by
        rintro v σ' ⟨n, w', ι', u, hr, hn, h1, h2, h3, h4⟩ hk
        have hsr := hs.put hd h1 h2 h3 h4
        unfold Oper.wp
        rw [hr]
        rcases hn with rfl | ⟨rfl, rfl⟩
        · exact hK _ _ w' ι' hsr hk
        · exact hK _ _ w' ι' hsr hk
      cases hev : evalOp st mop with
      | ok v => rw [hev] at h hok; exact fin hok h
      | ob p v => rw [hev] at h hok; exact fin (hok h.1) h.2
      | hp p v σ' => rw [hev] at h hok; exact fin (hok h.1) h.2
      | bad => rw [hev] at h; exact h.elim
      | call fv A =>
        rw [hev] at h
        simp only [CallP] at h
        split at h
        · rename_i f cs
          obtain ⟨gs, σ1, Q1, hgs, hcs, hk⟩ := h
          obtain ⟨x, args, tys, hox, mf, mas, hmf, hmas, rfl⟩ := trOp_call hop hev
          obtain ⟨dst, op, type, pos, after, guard⟩ := o
          simp only at hox
          subst hox
          simp only [evalOp, Ev.call.injEq] at hev
          obtain ⟨e1, e2⟩ := hev
          have hx := hs.get hmf
          rw [e1] at hx
          obtain ⟨us, hu, hus⟩ := hx.of_fn
          have hA := hs.gets hmas
          rw [e2] at hA
          obtain ⟨ι1, g1, g2, g3⟩ := hs.hr.gops hgs
          have hev1 : Evo w st.σ ι σ1 ι1 := g2.evo fun b hb => .inl (g3 b hb)
          obtain ⟨he, hcall⟩ := cs_ok hcs g1 hs.g hs.xs (fun b hb => hs.low b (g3 b hb)) (frzL_ok g1 ((hA.append hus).sub g2))
          unfold Oper.wp
          rw [run_call he hu w]
          show Calls P f _ w _
          have harr : (args.map a.eval ++ us.toArray) = (args.toList.map a.eval ++ us).toArray := by simp
          rw [harr]
          refine hcall.mono ?_
          rintro e w' ⟨v, r, σ', ι', hq, rfl, h1, h2, h3, h4⟩
          exact hK _ _ w' ι' (hs.put hd h1 h2 ((Kept.refl fun b _ ho => hs.hr.own_cells ho).trans h3 fun b hb => .inl (g3 b hb)) (hev1.trans h4 (Nat.le_refl _))) (hk r σ' hq)
        · exact h.elim
theorem ops_sound {ops : Array Oper} {Q : Exit → Act → World → Prop} {k : St → Prop} (hQ : ∀ st a w ι, SR P w0 σ0 ι0 X N st a w ι → k st → Q .normal a w) : ∀ (l : List Oper) (ms : List MOper) (st : St) (a : Act) (w : World) (ι : Place),
    l.mapM (trOper P ops) = some ms → ms.all (fitO N) = true → SR P w0 σ0 ι0 X N st a w ι → wops P ms k st → wpList P ops Q l a w
  | [], ms, st, a, w, ι, hm, _, hs, h => by
    simp at hm; subst hm
    exact hQ st a w ι hs h
  | o :: l, ms, st, a, w, ι, hm, hfit, hs, h => by
    simp only [List.mapM_cons, Option.bind_eq_bind, Option.pure_def, Option.bind_eq_some_iff, Option.some.injEq] at hm
    obtain ⟨mo, hmo, ms', hms, rfl⟩ := hm
    simp only [List.all_cons, Bool.and_eq_true] at hfit
    have ih := ops_sound (ops := ops) hQ l ms'
    unfold wpList
    exact op_sound (k := wops P ms' k) (fun st a w ι h1 h2 => ih st a w ι hms hfit.2 h1 h2) hmo hfit.1 hs h
end code
end Go.Mach

/- What is left of a heap when its rest is forgotten. -/
namespace Go.Mach
open Go
set_option linter.unusedVariables false
set_option linter.unusedSimpArgs false

section cut
variable {w : World} {σ0 σ σ' : Heap} {ι : Place} {X : Nat → Prop}
theorem bdL_of {m : Nat} : ∀ {xs : List PV}, (∀ x, x ∈ xs → bdV m x = true) → bdL m xs = true
  | [], _ => rfl
  | x :: xs, h => by simp only [bdL, Bool.and_eq_true]; exact ⟨h x (by simp), bdL_of fun y hy => h y (by simp [hy])⟩
theorem bdL_mem {m : Nat} : ∀ {xs : List PV}, bdL m xs = true → ∀ {x : PV}, x ∈ xs → bdV m x = true
  | [], _, x, hx => by cases hx
  | y :: ys, h, x, hx => by
    simp only [bdL, Bool.and_eq_true] at h
    rcases List.mem_cons.1 hx with rfl | hx
    · exact h.1
    · exact bdL_mem h.2 hx
mutual
theorem bd_pure {m : Nat} : ∀ (x : PV), pureV x = true → bdV m x = true
  | .agg cs, h => by simp only [bdV]; exact bdL_pure cs (by simpa [pureV] using h)
  | .tup cs, h => by simp only [bdV]; exact bdL_pure cs (by simpa [pureV] using h)
  | .fn _ cs, h => by simp only [bdV]; exact bdL_pure cs (by simpa [pureV] using h)
  | .own .., h => by simp [pureV] at h
  | .bool _, _ => rfl
  | .int _ _, _ => rfl
  | .str _, _ => rfl
  | .nilp, _ => rfl
  | .iptr _, _ => rfl
  | .ptr .., h => by simp [pureV] at h
  | .imm .., _ => rfl
  | .ref .., h => by simp [pureV] at h
  | .nilfn, _ => rfl
  | .nilif, _ => rfl
  | .someif, _ => rfl
  | .undef, h => by simp [pureV] at h
theorem bdL_pure {m : Nat} : ∀ (xs : List PV), pureL xs = true → bdL m xs = true
  | [], _ => rfl
  | x :: xs, h => by
    simp only [pureL, Bool.and_eq_true] at h
    simp only [bdL, Bool.and_eq_true]
    exact ⟨bd_pure x h.1, bdL_pure xs h.2⟩
end
theorem bd_of_vr {x : PV} {v : Value} (h : VR w σ ι X x v) : bdV σ.length x = true := by
  have key : ∀ (cs : List PV) (vs : List Value), cs.length = vs.length → (∀ (j : Nat) (x : PV) (v : Value), cs[j]? = some x → vs[j]? = some v → bdV σ.length x = true) → bdL σ.length cs = true := by
    intro cs vs hl ih
    refine bdL_of fun x hx => ?_
    obtain ⟨j, hj, rfl⟩ := List.getElem_of_mem hx
    exact ih j _ (vs[j]'(by omega)) (List.getElem?_eq_getElem hj) (List.getElem?_eq_getElem (by omega))
  induction h with
  | im x v h => exact bd_pure x (ir_pure x v h)
  | ptr o ep i off v ho hs h => simpa [bdV] using ho
  | ref o ep lo len cap v ho hs h => simpa [bdV] using ho
  | fn f cs vs hl hr ih => exact key cs vs hl ih
  | agg cs vs hl hr ih => exact key cs vs hl ih
  | tup cs vs hl hr ih => exact key cs vs hl ih
  | undef v => rfl
  | own es n sz ty lim v => rfl
theorem bd_le {m n : Nat} (h : m ≤ n) {x : PV} (hx : bdV m x = true) {v : Value} (hv : VR w σ ι X x v) : bdV n x = true := by
  have key : ∀ (cs : List PV) (vs : List Value), cs.length = vs.length → (∀ (j : Nat) (x : PV) (v : Value), cs[j]? = some x → vs[j]? = some v → bdV m x = true → bdV n x = true) → bdL m cs = true → bdL n cs = true := by
    intro cs vs hl ih hb
    refine bdL_of fun x hx => ?_
    have hb := bdL_mem hb hx
    obtain ⟨j, hj, rfl⟩ := List.getElem_of_mem hx
    exact ih j _ (vs[j]'(by omega)) (List.getElem?_eq_getElem hj) (List.getElem?_eq_getElem (by omega)) hb
  induction hv with
  | im x v h => exact bd_pure x (ir_pure x v h)
  | ptr o ep i off v ho hs _ => simp only [bdV, decide_eq_true_eq] at hx ⊢; omega
  | ref o ep lo len cap v ho hs _ => simp only [bdV, decide_eq_true_eq] at hx ⊢; omega
  | fn f cs vs hl hr ih => exact key cs vs hl (fun j x v h1 h2 h3 => ih j x v h1 h2 h3) hx
  | agg cs vs hl hr ih => exact key cs vs hl (fun j x v h1 h2 h3 => ih j x v h1 h2 h3) hx
  | tup cs vs hl hr ih => exact key cs vs hl (fun j x v h1 h2 h3 => ih j x v h1 h2 h3) hx
  | undef v => rfl
  | own es n sz ty lim v => rfl

theorem cut_get {m : Nat} (h : CutTo σ0 σ m σ') {o : Nat} {ob : AObj} (ho : σ'[o]? = some (some ob)) : σ[o]? = some (some ob) := by
  obtain ⟨h1, h2, h3, h4⟩ := h
  have hlt : o < m := by have := (List.getElem?_eq_some_iff.1 ho).1; omega
  rcases h4 o hlt with h5 | ⟨_, h5, _⟩ | ⟨ob', h5, h6, _⟩
  · rw [h5] at ho; cases ho
  · rw [← h5]; exact ho
  · rw [h6] at ho; cases ho; exact h5
theorem cut_tb {m : Nat} (h : CutTo σ0 σ m σ') {o j b : Nat} (ho : Tb σ' ι o j b) : Tb σ ι o j b := by
  obtain ⟨ob, x, h1, h2⟩ := ho
  exact ⟨ob, x, cut_get h h1, h2⟩
theorem cut_own {m : Nat} (h : CutTo σ0 σ m σ') {b : Nat} (ho : Own σ' ι b) : Own σ ι b := by
  rcases ho with ⟨o, ob, h1, h2⟩ | ⟨o, j, h1⟩
  · exact .inl ⟨o, ob, cut_get h h1, h2⟩
  · exact .inr ⟨o, j, cut_tb h h1⟩
theorem VR.cut {m : Nat} (hc : CutTo σ0 σ m σ') {x : PV} {v : Value} (h : VR w σ ι X x v) : bdV m x = true → VR w σ' ι X x v := by
  induction h with
  | im x v h => intro _; exact .im x v (h.mono fun b _ hn => ⟨⟨fun ho => hn.1 (cut_own hc ho), hn.2⟩, rfl⟩)
  | ptr o ep i off v ho hs h =>
    intro hb
    simp only [bdV, decide_eq_true_eq] at hb
    exact .ptr o ep i off v (by rw [hc.1]; exact hb) hs fun ob hob => h ob (cut_get hc hob)
  | ref o ep lo len cap v ho hs h =>
    intro hb
    simp only [bdV, decide_eq_true_eq] at hb
    exact .ref o ep lo len cap v (by rw [hc.1]; exact hb) hs fun ob hob => h ob (cut_get hc hob)
  | fn f cs vs hl hr ih => intro hb; exact .fn f cs vs hl fun j x v hx hv => ih j x v hx hv (bdL_mem (by simpa [bdV] using hb) (List.mem_of_getElem? hx))
  | agg cs vs hl hr ih => intro hb; exact .agg cs vs hl fun j x v hx hv => ih j x v hx hv (bdL_mem (by simpa [bdV] using hb) (List.mem_of_getElem? hx))
  | tup cs vs hl hr ih => intro hb; exact .tup cs vs hl fun j x v hx hv => ih j x v hx hv (bdL_mem (by simpa [bdV] using hb) (List.mem_of_getElem? hx))
  | undef v => intro _; exact .undef v
  | own es n sz ty lim v => intro _; exact .own es n sz ty lim v
theorem TR.cut {m : Nat} (hc : CutTo σ0 σ m σ') {x : PV} {v : Value} {S : Nat → Prop} (h : TR w (fun b => ¬ Own σ ι b ∧ ¬ X b) x v S) : TR w (fun b => ¬ Own σ' ι b ∧ ¬ X b) x v S :=
  h.mono (fun b _ hn => ⟨⟨fun ho => hn.1 (cut_own hc ho), hn.2⟩, rfl⟩) fun _ _ => rfl
theorem RV.cut {m : Nat} (hc : CutTo σ0 σ m σ') {y : PV} {v : Value} {S : Nat → Prop} (h : RV w σ ι X y v S) : bdV m y = true → RV w σ' ι X y v S := by
  induction h with
  | vr x v S hx h hS => intro hb; exact .vr x v S hx (h.cut hc hb) hS
  | tr x v S hx h => intro hb; exact .tr x v S hx (h.cut hc)
  | agg cs vs S T hl hr hS hd ih => intro hb; exact .agg cs vs S T hl (fun j x v hx hv => ih j x v hx hv (bdL_mem (by simpa [bdV] using hb) (List.mem_of_getElem? hx))) hS hd
  | tup cs vs S T hl hr hS hd ih => intro hb; exact .tup cs vs S T hl (fun j x v hx hv => ih j x v hx hv (bdL_mem (by simpa [bdV] using hb) (List.mem_of_getElem? hx))) hS hd

theorem HR.cut {w0 : World} {ι0 : Place} {X0 : Nat → Prop} (h0 : HR w0 σ0 ι0 X0) (hh : HR w σ ι X) {m : Nat} (hc : CutTo σ0 σ m σ') : HR w σ' ι X := by
  refine ⟨fun o ob ho => ?_, fun o o' ob ob' h1 h2 => hh.inj o o' ob ob' (cut_get hc h1) (cut_get hc h2), fun o ob ho => hh.out o ob (cut_get hc ho), fun o ob ho => hh.fro o ob (cut_get hc ho),
    fun o o' j j' b h h' => hh.tin o o' j j' b (cut_tb hc h) (cut_tb hc h'), fun o j b h o' ob' ho' => hh.tob o j b (cut_tb hc h) o' ob' (cut_get hc ho'), fun o j b h => hh.tx o j b (cut_tb hc h)⟩
  have hob := cut_get hc ho
  obtain ⟨cur, c1, c2, c3, c4, c5, c6⟩ := hh.obj o ob hob
  refine ⟨cur, c1, c2, c3, c4, c5, fun j x hx => ?_⟩
  obtain ⟨v, hv, hr⟩ := c6 j x hx
  have hb : bdV m x = true := by
    have hlt : o < m := by have := (List.getElem?_eq_some_iff.1 ho).1; have := hc.1; omega
    rcases hc.2.2.2 o hlt with h5 | ⟨_, h5, h6⟩ | ⟨ob', h5, h6, h7⟩
    · rw [h5] at ho; cases ho
    · obtain ⟨cur0, _, _, _, _, _, d6⟩ := h0.obj o ob (by rw [← h6]; exact hob)
      obtain ⟨v0, _, hr0⟩ := d6 j x hx
      exact bd_le hc.2.1 (bd_of_vr hr0.1) hr.1
    · rw [h5] at hob; cases hob
      obtain ⟨e, he, hxe⟩ := List.mem_flatten.1 (List.mem_of_getElem? hx)
      exact List.all_eq_true.1 (List.all_eq_true.1 h7 e he) x hxe
  exact ⟨v, hv, hr.1.cut hc hb, fun hox => (hr.2 hox).cut hc⟩
end cut

end Go.Mach
