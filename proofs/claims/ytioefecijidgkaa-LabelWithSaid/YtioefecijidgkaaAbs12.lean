/- The abstract machine: the rules by which code is walked, and what a function comes to. -/
import Derived.Test.YtioefecijidgkaaAbsX2
import Derived.Scope
set_option linter.unusedVariables false
set_option linter.unusedSimpArgs false
namespace Go.Proofs.YtioefecijidgkaaAbs
open Go Go.RowKit

def kR : Code → Nat
  | .skip => 0
  | .region .. => 1
  | .seq .. => 2
  | .cond .. => 3
  | .block .. => 4
  | .loop _ => 5
  | .exit _ => 6
  | .ret => 7
  | .label _ => 0
  | .scope _ => 8
  | _ => 9
def kC : C → Nat
  | .skip => 0
  | .reg .. => 1
  | .rgx .. => 1
  | .seq .. => 2
  | .cond .. => 3
  | .block .. => 4
  | .loop _ => 5
  | .exit _ => 6
  | .ret => 7
  | .scope _ => 8
theorem compC_kind {P : Program} {n : Nat} {code : Code} {c : C} (h : compC P n code = some c) : kR code = kC c := by
  cases code with
  | skip => injection h with h; subst h; rfl
  | ret => injection h with h; subst h; rfl
  | label l => injection h with h; subst h; rfl
  | scope a =>
    simp only [compC, Option.map_eq_some_iff] at h
    obtain ⟨x, _, rfl⟩ := h
    rfl
  | exit id => injection h with h; subst h; rfl
  | region id ops draw =>
    simp only [compC, Option.bind_eq_some_iff] at h
    obtain ⟨ols, _, h⟩ := h
    split at h
    · split at h
      · split at h
        · injection h with h; subst h; rfl
        · split at h
          · injection h with h; subst h; rfl
          · cases h
      · cases h
    · injection h with h; subst h; rfl
  | seq a b =>
    simp only [compC, Option.bind_eq_some_iff, Option.map_eq_some_iff] at h
    obtain ⟨x, _, y, _, rfl⟩ := h
    rfl
  | cond x a b =>
    simp only [compC, Option.bind_eq_some_iff, Option.map_eq_some_iff] at h
    obtain ⟨z, _, x, _, y, _, rfl⟩ := h
    rfl
  | block id a =>
    simp only [compC, Option.map_eq_some_iff] at h
    obtain ⟨x, _, rfl⟩ := h
    rfl
  | loop a =>
    simp only [compC, Option.map_eq_some_iff] at h
    obtain ⟨x, _, rfl⟩ := h
    rfl
  | _ => cases h
/-- Wherever the abstract state stands for the given one, so does the code's end. -/
def Run (P : Program) (n m : Nat) (c : C) (s : St) (K : Exit → St → Prop) : Prop :=
  ∀ code, compC P n code = some c → ∀ (I0 : Im) (σ0 : List Plc) (M0 : List Blk) (w0 : World) (a : Act) (w : World), σ0.length = m ∧ GI P I0 → Sim n I0 σ0 M0 w0 s a w →
    code.wp P (fun e a' w' => ∃ s', Sim n I0 σ0 M0 w0 s' a' w' ∧ K e s') a w
/-- A step in the telling alone. -/
def Gh (n m : Nat) (s s' : St) : Prop := ∀ (I0 : Im) (σ0 : List Plc) (M0 : List Blk) (w0 : World) (a : Act) (w : World), σ0.length = m → Sim n I0 σ0 M0 w0 s a w → Sim n I0 σ0 M0 w0 s' a w
section
variable {P : Program} {n m : Nat} {s s' : St} {K K' : Exit → St → Prop} {c c' : C}
theorem Gh.refl (s : St) : Gh n m s s := fun _ _ _ _ _ _ _ h => h
theorem Gh.trans {s1 s2 s3 : St} (h : Gh n m s1 s2) (k : Gh n m s2 s3) : Gh n m s1 s3 := fun I σ M w0 a w hm hs => k I σ M w0 a w hm (h I σ M w0 a w hm hs)
theorem run_gh (h : Gh n m s s') (hr : Run P n m c s' K) : Run P n m c s K := fun code hc I σ M w0 a w hm hs => hr code hc I σ M w0 a w hm (h I σ M w0 a w hm.1 hs)
theorem run_mono (h : ∀ e s, K e s → K' e s) (hr : Run P n m c s K) : Run P n m c s K' := fun code hc I σ M w0 a w hm hs =>
  wp_mono (hr code hc I σ M w0 a w hm hs) (fun e a w ⟨s', h1, h2⟩ => ⟨s', h1, h e s' h2⟩)
theorem run_skip (h : K .normal s) : Run P n m .skip s K := by
  intro code hc I σ M w0 a w hm hs
  have hk := compC_kind hc
  cases code <;> first | (cases hk; done) | skip
  case skip => exact wp_skip ⟨s, hs, h⟩
  case label l => exact wp_label ⟨s, hs, h⟩
theorem run_ret (h : K .ret s) : Run P n m .ret s K := by
  intro code hc I σ M w0 a w hm hs
  have hk := compC_kind hc
  cases code <;> first | (cases hk; done) | skip
  case ret => exact wp_ret ⟨s, hs, h⟩
theorem run_exit {id : Nat} (h : K (.exit id) s) : Run P n m (.exit id) s K := by
  intro code hc I σ M w0 a w hm hs
  have hk := compC_kind hc
  cases code <;> first | (cases hk; done) | skip
  case exit id' =>
    simp only [compC] at hc
    injection hc with hc
    injection hc with hc
    subst hc
    exact wp_exit ⟨s, hs, h⟩
/-- What follows, behind a code's normal end. -/
def andThen (N : St → Prop) (K : Exit → St → Prop) : Exit → St → Prop
  | .normal, s => N s
  | e, s => K e s
theorem compC_seq {code : Code} {x y : C} (hc : compC P n code = some (.seq x y)) : ∃ a b, code = .seq a b ∧ compC P n a = some x ∧ compC P n b = some y := by
  have hk := compC_kind hc
  cases code <;> first | (cases hk; done) | skip
  case seq a b =>
    simp only [compC] at hc
    simp only [Option.bind_eq_some_iff, Option.map_eq_some_iff] at hc
    obtain ⟨x', hx, y', hy, he⟩ := hc
    injection he with h1 h2
    exact ⟨a, b, rfl, by rw [hx, h1], by rw [hy, h2]⟩
theorem compC_cond {code : Code} {x : Opd} {y z : C} (hc : compC P n code = some (.cond x y z)) : ∃ o a b, code = .cond o a b ∧ compX o = some x ∧ compC P n a = some y ∧ compC P n b = some z := by
  have hk := compC_kind hc
  cases code <;> first | (cases hk; done) | skip
  case cond o a b =>
    simp only [compC] at hc
    simp only [Option.bind_eq_some_iff, Option.map_eq_some_iff] at hc
    obtain ⟨x', hx, y', hy, z', hz, he⟩ := hc
    injection he with h1 h2 h3
    exact ⟨o, a, b, rfl, by rw [hx, h1], by rw [hy, h2], by rw [hz, h3]⟩
theorem compC_block {code : Code} {id : Nat} {y : C} (hc : compC P n code = some (.block id y)) : ∃ b, code = .block id b ∧ compC P n b = some y := by
  have hk := compC_kind hc
  cases code <;> first | (cases hk; done) | skip
  case block id' b =>
    simp only [compC] at hc
    simp only [Option.map_eq_some_iff] at hc
    obtain ⟨y', hy, he⟩ := hc
    injection he with h1 h2
    exact ⟨b, by rw [h1], by rw [hy, h2]⟩
theorem compC_loop {code : Code} {y : C} (hc : compC P n code = some (.loop y)) : ∃ b, code = .loop b ∧ compC P n b = some y := by
  have hk := compC_kind hc
  cases code <;> first | (cases hk; done) | skip
  case loop b =>
    simp only [compC] at hc
    simp only [Option.map_eq_some_iff] at hc
    obtain ⟨y', hy, he⟩ := hc
    injection he with h2
    exact ⟨b, rfl, by rw [hy, h2]⟩
theorem compC_reg {code : Code} {d : Bool} {ols : List OpL} (hc : compC P n code = some (.reg d ols)) : ∃ id ops, code = .region id ops d ∧ compLs P n ops ops.toList = some ols ∧ (d = true → P.follows .mixedOrders = true ∧ okDraw ops ols (tabT ops.toList) = true) := by
  have hk := compC_kind hc
  cases code <;> first | (cases hk; done) | skip
  case region id ops draw =>
    simp only [compC] at hc
    simp only [Option.bind_eq_some_iff] at hc
    obtain ⟨ols', h1, h2⟩ := hc
    cases draw with
    | true =>
      rw [if_pos rfl] at h2
      split at h2
      · rename_i h3
        split at h2
        · rename_i h6
          injection h2 with h2
          injection h2 with h4 h5
          subst h4; subst h5
          exact ⟨id, ops, rfl, h1, fun _ => ⟨h3, h6⟩⟩
        · split at h2
          · injection h2 with h2
            cases h2
          · cases h2
      · cases h2
    | false =>
      rw [if_neg (by simp)] at h2
      injection h2 with h2
      injection h2 with h4 h5
      subst h4; subst h5
      exact ⟨id, ops, rfl, h1, fun h => by cases h⟩
theorem run_seq (h : Run P n m c s (andThen (fun s' => Run P n m c' s' K) K)) : Run P n m (.seq c c') s K := by
  intro code hc I σ M w0 a w hm hs
  obtain ⟨x, y, rfl, hx, hy⟩ := compC_seq hc
  refine wp_seq (wp_mono (h x hx I σ M w0 a w hm hs) ?_)
  rintro e a1 w1 ⟨s1, h1, h2⟩
  cases e with
  | normal => exact h2 y hy I σ M w0 a1 w1 hm h1
  | _ => exact ⟨s1, h1, h2⟩
theorem compLs_length {ops : Array Oper} : ∀ {l : List Oper} {ols : List OpL}, compLs P n ops l = some ols → ols.length = l.length
  | [], ols, h => by injection h with h; subst h; rfl
  | o :: l, ols, h => by
    simp only [compLs, Option.bind_eq_some_iff, Option.map_eq_some_iff] at h
    obtain ⟨x, hx, xs, hxs, rfl⟩ := h
    simp [compLs_length hxs]
theorem compLs_get {ops : Array Oper} : ∀ {l : List Oper} {ols : List OpL}, compLs P n ops l = some ols → ∀ (i : Nat) (x : OpL), ols[i]? = some x → ∃ o, l[i]? = some o ∧ compL P n ops o = some x
  | [], ols, h, i, x, hx => by injection h with h; subst h; simp at hx
  | o :: l, ols, h, i, x, hx => by
    simp only [compLs, Option.bind_eq_some_iff, Option.map_eq_some_iff] at h
    obtain ⟨y, hy, xs, hxs, rfl⟩ := h
    cases i with
    | zero => simp at hx; subst hx; exact ⟨o, rfl, hy⟩
    | succ i => simpa using compLs_get hxs i x (by simpa using hx)
theorem compC_rgx {code : Code} {T : List (List Nat)} {ols : List OpL} (hc : compC P n code = some (.rgx T ols)) : ∃ id ops, code = .region id ops true ∧ compLs P n ops ops.toList = some ols ∧ P.follows .mixedOrders = true ∧ okTab ops T = true := by
  have hk := compC_kind hc
  cases code <;> first | (cases hk; done) | skip
  case region id ops draw =>
    simp only [compC] at hc
    simp only [Option.bind_eq_some_iff] at hc
    obtain ⟨ols', h1, h2⟩ := hc
    cases draw with
    | true =>
      rw [if_pos rfl] at h2
      split at h2
      · rename_i h3
        split at h2
        · injection h2 with h2
          cases h2
        · split at h2
          · rename_i h6
            injection h2 with h2
            injection h2 with h4 h5
            subst h4; subst h5
            exact ⟨id, ops, rfl, h1, h3, h6⟩
          · cases h2
      · cases h2
    | false =>
      rw [if_neg (by simp)] at h2
      injection h2 with h2
      cases h2
/-- A region whose order is left open, by what each operation looks at. -/
theorem run_rgx {T : List (List Nat)} {ols : List OpL} {xs : List XOp} (he : xs.map (·.op) = ols) (hp : pairsX T xs = true) (h : runX P xs s (K .normal)) : Run P n m (.rgx T ols) s K := by
  intro code hc I σ M w0 a w hm hs
  obtain ⟨id, ops, rfl, hls, hmx, hok⟩ := compC_rgx hc
  subst he
  refine wp_region_any hmx ?_
  have hlen : xs.length = ops.size := by have := compLs_length hls; simpa using this
  refine any_soundX (xs := xs) (rem := xs.zipIdx.map fun p => (p.2, p.1)) hm.2 hok (fun i k x y hx hy hki => ?_) (K := K .normal) (fun s a w h1 h2 => ⟨s, h1, h2⟩) ops.size _ s a _ (by simp [hlen]) ?_ ?_ ?_ (by simp) ?_ ?_ hs.drew
  · exact pairsX_spec hp hx hy hki
  · intro p hp
    obtain ⟨q, hq, rfl⟩ := List.mem_map.1 hp
    have hq' : xs[q.2]? = some q.1 := List.mem_zipIdx_iff_getElem?.1 (show (q.1, q.2) ∈ xs.zipIdx from hq)
    obtain ⟨o, ho, hco⟩ := compLs_get hls q.2 q.1.op (by rw [List.getElem?_map, hq']; rfl)
    exact ⟨hq', o, by simpa using ho, hco⟩
  · rw [List.pairwise_map]
    refine List.pairwise_iff_getElem.2 (fun i j hi hj hij => ?_)
    simp only [List.getElem_zipIdx]
    omega
  · intro i hi
    have h0 : (Array.replicate ops.size false).getD i true = false := by simp [hi]
    refine ⟨fun _ => ?_, fun _ => h0⟩
    have hi' : i < xs.length := by omega
    refine ⟨xs[i], List.mem_map.2 ⟨(xs[i], i), ?_, rfl⟩⟩
    exact List.mem_zipIdx_iff_getElem?.2 (List.getElem?_eq_getElem hi')
  · intro j o hj hl
    simp at hl
    by_cases h : j < ops.size
    · simp [h] at hl
    · simp [h] at hl
  · have e0 : (xs.zipIdx.map fun p => (p.2, p.1)).map (·.2) = xs := by
      apply List.ext_getElem?
      intro i
      simp [List.getElem?_zipIdx]
      cases xs[i]? <;> rfl
    rw [e0]
    exact h
theorem run_reg {d : Bool} {ols : List OpL} (h : runOps P d ols s (K .normal)) : Run P n m (.reg d ols) s K := by
  intro code hc I σ M w0 a w hm hs
  obtain ⟨id, ops, rfl, hls, hd⟩ := compC_reg hc
  cases d with
  | false =>
    refine wp_region ?_
    have := ops_sound (P := P) (d := false) (ops := ops) (K := K .normal) (Q := fun e a' w' => ∃ s', Sim n I σ M w0 s' a' w' ∧ K e s') hm.2 (fun s a w h1 h2 => ⟨s, h1, h2⟩) ops.toList 0 ols s a w (fun j hj => by simp) hls h hs
    rw [List.range_eq_range']
    simpa using this
  | true =>
    obtain ⟨hmx, hok⟩ := hd rfl
    refine wp_region_any hmx ?_
    have hlen : ols.length = ops.size := by have := compLs_length hls; simpa using this
    refine any_sound (rem := ols.zipIdx.map fun p => (p.2, p.1)) hm.2 hok (K := K .normal) (fun s a w h1 h2 => ⟨s, h1, h2⟩) ops.size _ s a _ (by simp [hlen]) ?_ ?_ ?_ (by simp) ?_ ?_ hs.drew
    · intro p hp
      obtain ⟨q, hq, rfl⟩ := List.mem_map.1 hp
      have hq' : ols[q.2]? = some q.1 := by
        have := List.mem_zipIdx_iff_getElem?.1 (show (q.1, q.2) ∈ ols.zipIdx from hq)
        exact this
      obtain ⟨o, ho, hco⟩ := compLs_get hls q.2 q.1 hq'
      exact ⟨hq', o, by simpa using ho, hco⟩
    · rw [List.pairwise_map]
      refine List.pairwise_iff_getElem.2 (fun i j hi hj hij => ?_)
      simp only [List.getElem_zipIdx]
      omega
    · intro i hi
      have h0 : (Array.replicate ops.size false).getD i true = false := by simp [hi]
      refine ⟨fun _ => ?_, fun _ => h0⟩
      have hi' : i < ols.length := by omega
      refine ⟨ols[i], List.mem_map.2 ⟨(ols[i], i), ?_, rfl⟩⟩
      exact List.mem_zipIdx_iff_getElem?.2 (List.getElem?_eq_getElem hi')
    · intro j o hj hl
      simp at hl
      by_cases h : j < ops.size
      · simp [h] at hl
      · simp [h] at hl
    · have e0 : (ols.zipIdx.map fun p => (p.2, p.1)).map (·.2) = ols := by
        apply List.ext_getElem?
        intro i
        simp [List.getElem?_zipIdx]
        cases ols[i]? <;> rfl
      rw [e0]
      exact h
theorem run_rs {d : Bool} {ols : List OpL} (h : runOps P d ols s (fun s' => Run P n m c s' K)) : Run P n m (.seq (.reg d ols) c) s K := run_seq (run_reg h)
theorem run_cond {x : Opd} {t : Bool} (hx : raw s.env x = .p (.one (.c (.v (.bool t))))) (h1 : t = true → Run P n m c s K) (h2 : t = false → Run P n m c' s K) : Run P n m (.cond x c c') s K := by
  intro code hc I σ M w0 a w hm hs
  obtain ⟨o, x1, y1, rfl, ho, hx1, hy1⟩ := compC_cond hc
  have hs' := hs
  obtain ⟨I', σ', hev, he, _⟩ := hs'
  have hv := compX_rel he ho
  rw [hx] at hv
  refine wp_cond_split (t := t) hv.1 (fun ht => h1 ht x1 hx1 I σ M w0 a w hm hs) (fun ht => h2 ht y1 hy1 I σ M w0 a w hm hs)
theorem compC_scope {code : Code} {y : C} (hc : compC P n code = some (.scope y)) : ∃ b, code = .scope b ∧ compC P n b = some y := by
  have hk := compC_kind hc
  cases code <;> first | (cases hk; done) | skip
  case scope b =>
    simp only [compC] at hc
    simp only [Option.map_eq_some_iff] at hc
    obtain ⟨y', hy, he⟩ := hc
    injection he with h2
    exact ⟨b, rfl, by rw [hy, h2]⟩
def inScope (K : Exit → St → Prop) : Exit → St → Prop
  | .goto _, _ => False
  | e, s => K e s
theorem run_scope (h : Run P n m c s (inScope K)) : Run P n m (.scope c) s K := by
  intro code hc I σ M w0 a w hm hs
  obtain ⟨b, rfl, hb⟩ := compC_scope hc
  refine wp_scope_straight (wp_mono (h b hb I σ M w0 a w hm hs) ?_)
  rintro e a1 w1 ⟨s1, h1, h2⟩
  cases e with
  | goto l => exact h2.elim
  | _ => exact ⟨s1, h1, h2⟩
def inBlock (id : Nat) (K : Exit → St → Prop) : Exit → St → Prop
  | .exit id', s => if id' = id then K .normal s else K (.exit id') s
  | e, s => K e s
theorem run_block {id : Nat} (h : Run P n m c s (inBlock id K)) : Run P n m (.block id c) s K := by
  intro code hc I σ M w0 a w hm hs
  obtain ⟨b, rfl, hb⟩ := compC_block hc
  refine wp_block (wp_mono (h b hb I σ M w0 a w hm hs) ?_)
  rintro e a1 w1 ⟨s1, h1, h2⟩
  cases e with
  | exit id' =>
    have h2' : if id' = id then K .normal s1 else K (.exit id') s1 := h2
    show if id' = id then _ else _
    by_cases hh : id' = id
    · rw [if_pos hh] at h2' ⊢; exact ⟨s1, h1, h2'⟩
    · rw [if_neg hh] at h2' ⊢; exact ⟨s1, h1, h2'⟩
  | _ => exact ⟨s1, h1, h2⟩
theorem wp_loop_num {P : Program} {c : Code} {Q : Exit → Act → World → Prop} (J : Nat → Act → World → Prop) {a : Act} {w : World} {k0 : Nat} (h0 : J k0 a w) (round : ∀ k a w, J k a w → c.wp P (Exit.then (fun a' w' => ∃ k', k' < k ∧ J k' a' w') Q) a w) : (Code.loop c).wp P Q a w := by
  intro b k cs
  have key : ∀ N a w, J N a w → ∃ e a' w', Q e a' w' ∧ Arrives P (lone (b.at a (.code c :: .inLoop c :: k)) cs w) b k cs e a' w' := by
    intro N
    induction N using Nat.strongRecOn with
    | _ N ih =>
      intro a w hJ
      obtain ⟨e, a₁, w₁, hq, harr⟩ := round N a w hJ b (.inLoop c :: k) cs
      cases e with
      | normal =>
        obtain ⟨k', hlt, hJ₁⟩ := hq
        obtain ⟨e₂, a₂, w₂, hq₂, harr₂⟩ := ih k' hlt a₁ w₁ hJ₁
        exact ⟨e₂, a₂, w₂, hq₂, .of_steps (Steps.trans harr (.one step_inLoop)) harr₂⟩
      | exit id => exact ⟨_, a₁, w₁, hq, .pass (x := .inLoop c) rfl (fun _ _ => .inl (by simp)) harr⟩
      | goto l => exact ⟨_, a₁, w₁, hq, .pass (x := .inLoop c) rfl (fun _ _ => .inl (by simp)) harr⟩
      | ret => exact ⟨_, a₁, w₁, hq, .pass (x := .inLoop c) rfl (fun _ _ => .inl (by simp)) harr⟩
      | panic ch => exact ⟨_, a₁, w₁, hq, .pass (x := .inLoop c) rfl (fun _ _ => .inl (by simp)) harr⟩
      | outgrown => exact ⟨_, a₁, w₁, hq, .pass (x := .inLoop c) rfl (fun _ _ => .inl (by simp)) harr⟩
  obtain ⟨e, a', w', hq, harr⟩ := key _ a w h0
  exact ⟨e, a', w', hq, .of_steps (.one step_loop) harr⟩
theorem run_loop {ι : Type} (inv : ι → St) (μ : ι → Nat) (i0 : ι) (h0 : Gh n m s (inv i0)) (h : ∀ i, Run P n m c (inv i) (andThen (fun s' => ∃ j, Gh n m s' (inv j) ∧ μ j < μ i) K)) : Run P n m (.loop c) s K := by
  intro code hc I σ M w0 a w hm hs
  obtain ⟨b, rfl, hb⟩ := compC_loop hc
  refine wp_loop_num (fun k a w => ∃ i, μ i = k ∧ Sim n I σ M w0 (inv i) a w) ⟨i0, rfl, h0 I σ M w0 a w hm.1 hs⟩ ?_
  rintro k a w ⟨i, rfl, hi⟩
  refine wp_mono (h i b hb I σ M w0 a w hm hi) ?_
  rintro e a1 w1 ⟨s1, h1, h2⟩
  cases e with
  | normal =>
    obtain ⟨j, hj, hlt⟩ := h2
    exact ⟨μ j, hlt, j, rfl, hj I σ M w0 a1 w1 hm.1 h1⟩
  | _ => exact ⟨s1, h1, h2⟩
end
end Go.Proofs.YtioefecijidgkaaAbs
