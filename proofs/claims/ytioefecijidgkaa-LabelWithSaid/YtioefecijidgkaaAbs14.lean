/- The abstract machine: what a function comes to; a call of it wherever it is met; how operations are reckoned. -/
import Derived.Test.YtioefecijidgkaaAbs13
set_option linter.unusedVariables false
set_option linter.unusedSimpArgs false
namespace Go.Proofs.YtioefecijidgkaaAbs
open Go Go.RowKit

inductive RV where
  | t (i : Nat)
  | l (g : Bool) (sz i : Nat)
def compRV (P : Program) : ResultVar → Option RV
  | .tmp t => some (.t t)
  | .cell t ty => (aggT P ty).bind fun g => (sizeT P ty).map fun sz => .l g sz t
def compRs (P : Program) : List ResultVar → Option (List RV)
  | [] => some []
  | x :: xs => (compRV P x).bind fun y => (compRs P xs).map (y :: ·)
def resL (e : Nat → SV) (M : List Blk) : List RV → Option (List Pt × Prop)
  | [] => some ([], True)
  | .t i :: l =>
    match e i with
    | .p q => (resL e M l).map fun r => (q :: r.1, r.2)
    | _ => none
  | .l g sz i :: l =>
    match out e M true (.ld g sz (.t i)) with
    | some (.p q, _, c) => (resL e M l).map fun r => (q :: r.1, c ∧ r.2)
    | _ => none
def mkRes : List Pt → SV
  | [q] => .p q
  | qs => .tup qs
/-- A function with its text. -/
structure Fun (P : Program) (f n : Nat) (c : C) (rvs : List RV) : Prop where
  ex : ∃ fn code, P.funcs[f]? = some fn ∧ (fn.name == "runtime.NumGoroutine") = false ∧ fn.body = some code ∧ fn.ntmps = n ∧ compC P n code = some c ∧ compRs P fn.results.toList = some rvs
def envOf (k : Nat) : List Pt → Nat → SV
  | [] => fun _ => .any
  | q :: qs => upd (envOf (k + 1) qs) k (.p q)
/-- What must be shown at a function's end. -/
def Fin (n m : Nat) (rvs : List RV) (r : SV) (M' : List Blk) (s : St) : Prop :=
  ∃ s1 D qs cnd, Gh n m s s1 ∧ resL s1.env s1.M rvs = some (qs, cnd) ∧ cnd ∧ s1.M = M' ++ D ∧ SubS (mkRes qs) r ∧ m ≤ M'.length ∧ ltS M'.length r ∧ ∀ x ∈ M', ltB M'.length x
def FinK (n m : Nat) (rvs : List RV) (r : SV) (M' : List Blk) : Exit → St → Prop
  | .normal, s => Fin n m rvs r M' s
  | .ret, s => Fin n m rvs r M' s
  | _, _ => False
section
variable {P : Program} {I : Im} {σ : List Plc} {e : Nat → SV} {M M' : List Blk} {w : World} {a : Act} {n m : Nat}
theorem Mem.drop {D : List Blk} (hm : Mem I σ (M' ++ D) w) (hB : ∀ x ∈ M', ltB M'.length x) : Mem I (σ.take M'.length) M' w ∧ ∀ g, Has (σ.take M'.length) M' g → Has σ (M' ++ D) g := by
  have hlen : σ.length = (M' ++ D).length := hm.len
  have hget : ∀ {b : Nat} {x : Blk} {p : Plc}, M'[b]? = some x → (σ.take M'.length)[b]? = some p → (M' ++ D)[b]? = some x ∧ σ[b]? = some p := by
    intro b x p hx hp
    have hb := getElem?_lt hx
    rw [List.getElem?_take, if_pos hb] at hp
    exact ⟨by rw [List.getElem?_append_left hb]; exact hx, hp⟩
  refine ⟨⟨?_, ?_, ?_, ?_, hm.imm⟩, ?_⟩
  · simp at hlen ⊢; omega
  · intro b x p hx hp
    obtain ⟨k1, k2⟩ := hget hx hp
    exact RelB_take (hB x (List.mem_of_getElem? hx)) (hm.blk b x p k1 k2)
  · intro b b' x x' p p' g h1 h2 l1 l2 q1 q2 e1 e2
    obtain ⟨k1, k2⟩ := hget h1 q1
    obtain ⟨k3, k4⟩ := hget h2 q2
    exact hm.inj b b' x x' p p' g k1 k3 l1 l2 k2 k4 e1 e2
  · intro b x p g h1 l1 q1 e1
    obtain ⟨k1, k2⟩ := hget h1 q1
    exact hm.ap b x p g k1 l1 k2 e1
  · rintro g ⟨b, x, p, h1, l1, q1, e1⟩
    obtain ⟨k1, k2⟩ := hget h1 q1
    exact ⟨b, x, p, k1, l1, k2, e1⟩
def resF (P : Program) (tmps : Array Value) : ResultVar → Sem Value
  | .tmp t => pure (tmps.getD t undef)
  | .cell b t => do loadVar t (← asAddr (tmps.getD b undef))
theorem resL_run (hm : Mem I σ M w) (he : RelE I σ e a) : ∀ {l : List ResultVar} {rvs : List RV} {qs : List Pt} {c : Prop}, compRs P l = some rvs → resL e M rvs = some (qs, c) → c →
    ∃ vs : List Value, (l.mapM (resF P a.tmps) : Sem (List Value)).run P w = .ok vs w ∧ vs.length = qs.length ∧ ∀ (k : Nat) (q : Pt) (x : Value), qs[k]? = some q → vs[k]? = some x → RelP I σ q x
  | [], rvs, qs, c, h, hr, hc => by
    injection h with h; subst h
    simp only [resL, Option.some.injEq, Prod.mk.injEq] at hr
    obtain ⟨rfl, rfl⟩ := hr
    exact ⟨[], by simp, rfl, fun k q x h => by simp at h⟩
  | x :: l, rvs, qs, c, h, hr, hc => by
    simp only [compRs, Option.bind_eq_some_iff, Option.map_eq_some_iff] at h
    obtain ⟨y, hy, ys, hys, rfl⟩ := h
    cases x with
    | tmp t =>
      injection hy with hy
      subst hy
      simp only [resL] at hr
      split at hr
      · rename_i q hq
        simp only [Option.map_eq_some_iff, Prod.mk.injEq, Prod.exists] at hr
        obtain ⟨qs', c', hr', rfl, rfl⟩ := hr
        obtain ⟨vs, h1, h2, h3⟩ := resL_run hm he hys hr' hc
        refine ⟨a.tmps.getD t undef :: vs, ?_, by simp [h2], fun k q' x hq' hx => ?_⟩
        · rw [List.mapM_cons]
          simp only [Sem.run_bind, resF, Sem.run_pure, Result.andThen_ok, h1]
        · cases k with
          | zero =>
            simp only [List.getElem?_cons_zero, Option.some.injEq] at hq' hx
            subst hq'
            subst hx
            have := he t
            rw [hq] at this
            exact this
          | succ k => exact h3 k q' x (by simpa using hq') (by simpa using hx)
      · cases hr
    | cell b t =>
      simp only [compRV, Option.bind_eq_some_iff, Option.map_eq_some_iff] at hy
      obtain ⟨g, hg, sz, hz, rfl⟩ := hy
      simp only [resL] at hr
      split at hr
      · rename_i q M2 c2 hq
        simp only [Option.map_eq_some_iff, Prod.mk.injEq, Prod.exists] at hr
        obtain ⟨qs', c', hr', rfl, rfl⟩ := hr
        obtain ⟨vs, h1, h2, h3⟩ := resL_run hm he hys hr' hc.2
        obtain ⟨_, ad, v, hv, hrun, hrel⟩ := ld_core (P := P) (X := .t b) hm (RelS_strip (he b)) hg hz hq hc.1
        refine ⟨v :: vs, ?_, by simp [h2], fun k q' x hq' hx => ?_⟩
        · have e0 : (resF P a.tmps (.cell b t)).run P w = .ok v w := by
            show (do loadVar t (← asAddr (a.tmps.getD b undef)) : Sem Value).run P w = _
            rw [hv]
            simp only [Sem.run_bind, asAddr, Sem.run_pure, Result.andThen_ok, hrun]
          rw [List.mapM_cons]
          simp only [Sem.run_bind, e0, Sem.run_pure, Result.andThen_ok, h1]
        · cases k with
          | zero =>
            simp only [List.getElem?_cons_zero, Option.some.injEq] at hq' hx
            subst hq'
            subst hx
            exact hrel
          | succ k => exact h3 k q' x (by simpa using hq') (by simpa using hx)
      · cases hr
theorem envOf_get : ∀ (ps : List Pt) (k i : Nat), envOf k ps i = if k ≤ i then (match ps[i - k]? with | some q => .p q | none => .any) else .any
  | [], k, i => by simp [envOf]
  | q :: ps, k, i => by
    unfold envOf upd
    by_cases h : i = k
    · subst h
      simp
    · rw [if_neg h, envOf_get ps (k + 1) i]
      by_cases h1 : k + 1 ≤ i
      · rw [if_pos h1, if_pos (by omega), show i - k = (i - (k + 1)) + 1 by omega, List.getElem?_cons_succ]
      · rw [if_neg h1, if_neg (by omega)]
theorem callR_intro {f : Nat} {c : C} {rvs : List RV} {ps : List Pt} {r : SV} (hF : Fun P f n c rvs) (hl : ps.length ≤ n) (h : Run P n M.length c ⟨envOf 0 ps, M⟩ (FinK n M.length rvs r M')) : CallR P M f ps r M' := by
  obtain ⟨fn, code, hf, hname, hb, rfl, hc, hrs⟩ := hF.ex
  intro I σ w vals hG hm hvl hvr
  refine .inl ⟨⟨fn, hf, hname, by rw [hb]; rfl⟩, calls_of_wp hf hb ?_⟩
  have hsim : Sim fn.ntmps I σ M w ⟨envOf 0 ps, M⟩ { tmps := vals ++ Array.replicate (fn.ntmps - vals.size) undef, defers := [] } w := by
    refine ⟨I, σ, Evo.refl hm, fun i => ?_, rfl, by simp; omega⟩
    show RelS I σ (envOf 0 ps i) _
    rw [envOf_get, if_pos (Nat.zero_le _), Nat.sub_zero]
    cases hq : ps[i]? with
    | none => exact trivial
    | some q =>
      have hi : i < vals.size := by rw [hvl]; exact getElem?_lt hq
      have : (vals ++ Array.replicate (fn.ntmps - vals.size) undef).getD i undef = vals[i] := by
        rw [Array.getD_eq_getD_getElem?, Array.getElem?_append_left hi, Array.getElem?_eq_getElem hi]
        rfl
      show RelP I σ q _
      rw [this]
      exact hvr i q _ hq (Array.getElem?_eq_getElem hi)
  refine wp_mono (h code hc I σ M w _ w ⟨hm.len, hG⟩ hsim) ?_
  rintro ex a1 w1 ⟨s1, h1, h2⟩
  have key : ∀ s, Sim fn.ntmps I σ M w s a1 w1 → Fin fn.ntmps M.length rvs r M' s → a1.defers = [] ∧ ∃ v, (results fn a1.tmps).run P w1 = .ok v w1 ∧ ∃ v', Ending.returned v = .returned v' ∧ ∃ I' σ', RelS I' σ' r v' ∧ Evo I σ M w I' σ' M' w1 := by
    rintro s hs ⟨s1, D, qs, cnd, hg, hres, hcnd, hM, hsub, hmm, hlt, hB⟩
    obtain ⟨I1, σ1, hev, he1, hd1, _⟩ := hg I σ M w a1 w1 hm.len hs
    obtain ⟨vs, hrun, hvs, hrel⟩ := resL_run hev.mem he1 hrs hres hcnd
    rw [hM] at hev
    obtain ⟨hm2, hh2⟩ := Mem.drop hev.mem hB
    refine ⟨hd1, (if h : vs.toArray.size = 1 then vs.toArray[0] else .tuple vs.toArray), ?_, _, rfl, I1, σ1.take M'.length, RelS_take hlt (hsub _ _ _ ?_), ⟨hev.extI, ?_, hm2, hev.keep, fun g hg => hev.own g (hh2 g hg), hev.fresh⟩⟩
    · have e1 : results fn a1.tmps = (do let vs ← fn.results.mapM (resF P a1.tmps); pure (if h : vs.size = 1 then vs[0] else .tuple vs)) := by
        unfold results
        have e2 : ∀ (f g : ResultVar → Sem Value) (k : Array Value → Sem Value), (∀ x, f x = g x) → (Array.mapM f fn.results >>= k) = (Array.mapM g fn.results >>= k) := fun f g k h => by rw [show f = g from funext h]
        refine e2 _ _ _ (fun x => ?_)
        cases x <;> rfl
      rw [e1, Array.mapM_eq_mapM_toList]
      simp only [Sem.run_bind, Sem.run_map, hrun, Result.andThen_ok, Sem.run_pure]
    · match qs, vs, hvs, hrel with
      | [q], [v], _, hrel => exact hrel 0 q v rfl rfl
      | [], [], _, _ => exact ⟨#[], rfl, rfl, fun k q x h => by simp at h⟩
      | q1 :: q2 :: qs, v1 :: v2 :: vs, hvs, hrel =>
        rw [dif_neg (by simp)]
        exact ⟨_, rfl, by simpa using hvs, fun k q x hq hx => hrel k q x hq (by simpa using hx)⟩
    · intro b p hp
      obtain ⟨p', hp', hq⟩ := hev.extP b p hp
      have hb : b < σ.length := getElem?_lt hp
      have := hm.len
      exact ⟨p', take_get (by omega) hp', hq⟩
  cases ex with
  | normal => exact key s1 h1 h2
  | ret => exact key s1 h1 h2
  | exit id => exact h2.elim
  | goto l => exact h2.elim
  | panic ch => exact h2.elim
  | outgrown => exact h2.elim
/-- A call that is handed closed values and makes closed values is the same beside whatever memory. -/
theorem callR_pure {f : Nat} {ps : List Pt} {r : SV} (h : CallR P [] f ps r []) (hl : ∀ q ∈ ps, ltP 0 q) (M : List Blk) : CallR P M f ps r M := by
  intro I σ w vals hG hm hvl hvr
  have hm0 : Mem I [] [] w := ⟨rfl, fun b x p h => by simp at h, fun b b' x x' p p' g h => by simp at h, fun b x p g h => by simp at h, hm.imm⟩
  have hno : ∀ g, ¬ Has ([] : List Plc) [] g := by rintro g ⟨b, x, p, h, _⟩; simp at h
  refine Comes.mono (h I [] w vals hG hm0 hvl (fun k q x hq hx => ?_)) ?_
  · have := RelP_take (n := 0) (hl q (List.mem_of_getElem? hq)) (hvr k q x hq hx)
    simpa using this
  · rintro v w' ⟨I', σ', hr, hev⟩
    have hσ : σ' = [] := List.eq_nil_of_length_eq_zero (by have := hev.mem.len; simpa using this)
    subst hσ
    have hk : Keep (fun _ => False) w w' := hev.keep.mono (fun k _ h => hno k h)
    have hm1 := hm.keep hk (fun _ _ h => h) (fun _ _ _ h => h)
    have hfr : ∀ ad x, I' ad = some x → I ad = some x ∨ w.heap.size ≤ ad.block := by
      intro ad x hx
      rcases hev.fresh ad x hx with h | h | h
      · exact .inl h
      · exact .inr h
      · exact absurd h (hno _)
    refine ⟨I', σ, RelS_mono (ExtI.refl _) (fun b p h => by simp at h) hr, ⟨hev.extI, ExtP.refl _, ⟨hm.len, fun b x p hx hp => RelB_mono hev.extI (ExtP.refl _) (fun _ _ _ => rfl) (hm1.blk b x p hx hp), hm.inj, ?_, hev.mem.imm⟩, hk.mono (fun k _ h => h.elim), fun g h => .inl h, fun ad x hx => ?_⟩⟩
    · intro b x p g hx hlv hp hg ad had
      cases hI : I' ad with
      | none => rfl
      | some y =>
        exfalso
        rcases hfr ad y hI with h1 | h1
        · rw [hm.ap b x p g hx hlv hp hg ad had] at h1
          cases h1
        · have := RelB_lt (hm.blk b x p hx hp) hlv hg
          omega
    · rcases hfr ad x hx with h1 | h1
      · exact .inl h1
      · exact .inr (.inl h1)
end
/-! ### How operations are reckoned -/
section
variable {P : Program} {d : Bool} {dst : Option Nat} {op : O} {os : List OpL} {s : St} {K : St → Prop} {g : Nat} {want : Bool}
def cont (P : Program) (d : Bool) (dst : Option Nat) (os : List OpL) (e : Nat → SV) (K : St → Prop) : Option (SV × List Blk × Prop) → Prop
  | some (r, M', c) => c ∧ runOps P d os ⟨put e dst r, M'⟩ K
  | none => False
def contG (P : Program) (d : Bool) (dst : Option Nat) (os : List OpL) (e : Nat → SV) (M : List Blk) (K : St → Prop) (c : Bool) : Option (SV × List Blk × Prop) → Prop
  | some (r, M', cnd) => (c = true → cnd) ∧ (c = false → M' = M) ∧ runOps P d os ⟨put e dst (.g c r), M'⟩ K
  | none => False
def contC (P : Program) (d : Bool) (dst : Option Nat) (op : O) (os : List OpL) (e : Nat → SV) (M : List Blk) (K : St → Prop) : Option Bool → Prop
  | some c => contG P d dst os e M K c (out e M c op)
  | none => False
theorem stp0_out {ctx : Bool} {e : Nat → SV} {M M' : List Blk} {r : SV} (hop : isCall op = false) : Stp0 P d ctx op e M r M' ↔ ∃ c, out e M ctx op = some (r, M', c) ∧ c := by
  cases op <;> first | exact Iff.rfl | cases hop
theorem ev_op {e : Nat → SV} {M : List Blk} (hop : isCall op = false) (h : cont P d dst os e K (out e M true op)) : runOps P d (⟨dst, op, none⟩ :: os) ⟨e, M⟩ K := by
  cases ho : out e M true op with
  | none => rw [ho] at h; exact h.elim
  | some x =>
    obtain ⟨r, M', c⟩ := x
    rw [ho] at h
    exact ⟨r, M', (stp0_out hop).2 ⟨c, ho, h.1⟩, h.2⟩
theorem ev_gd {e : Nat → SV} {M : List Blk} (hop : isCall op = false) (h : contC P d dst op os e M K (gcond (e g) want)) : runOps P d (⟨dst, op, some (g, want)⟩ :: os) ⟨e, M⟩ K := by
  cases hg : gcond (e g) want with
  | none => rw [hg] at h; exact h.elim
  | some c =>
    rw [hg] at h
    have h : contG P d dst os e M K c (out e M c op) := h
    cases ho : out e M c op with
    | none => rw [ho] at h; exact h.elim
    | some x =>
      obtain ⟨r, M', cnd⟩ := x
      rw [ho] at h
      exact ⟨.g c r, M', ⟨c, r, hg, rfl, fun hc => (stp0_out hop).2 ⟨cnd, ho, h.1 hc⟩, h.2.1⟩, h.2.2⟩
theorem ev_call {e : Nat → SV} {M M' : List Blk} {f : Opd} {args : List Opd} {k : Nat} {caps ps : List Pt} {r : SV} (hc : callee (strip true (raw e f)) = some (k, caps)) (ha : ptsOf (fun x => strip true (raw e x)) args = some ps) (h : CallR P M k (ps ++ caps) r M') (hd : d = true → M' = M)
    (hK : runOps P d os ⟨put e dst r, M'⟩ K) : runOps P d (⟨dst, .call f args, none⟩ :: os) ⟨e, M⟩ K := ⟨r, M', ⟨⟨k, caps, ps, hc, ha, h⟩, hd⟩, hK⟩
theorem ev_callg {e : Nat → SV} {M : List Blk} {f : Opd} {args : List Opd} {k : Nat} {caps ps : List Pt} {r : SV} {c : Bool} (hg : gcond (e g) want = some c) (hc : callee (strip c (raw e f)) = some (k, caps)) (ha : ptsOf (fun x => strip c (raw e x)) args = some ps) (h : c = true → CallR P M k (ps ++ caps) r M)
    (hK : runOps P d os ⟨put e dst (.g c r), M⟩ K) : runOps P d (⟨dst, .call f args, some (g, want)⟩ :: os) ⟨e, M⟩ K := ⟨.g c r, M, ⟨c, r, hg, rfl, fun h0 => ⟨⟨k, caps, ps, hc, ha, h h0⟩, fun _ => rfl⟩, fun _ => rfl⟩, hK⟩
end
/-! ### Short words -/
abbrev ki (n : Int) : Opd := .k (.one (.c (.v (.int .i64 n))))
abbrev kb (b : Bool) : Opd := .k (.one (.c (.v (.bool b))))
abbrev kf (f : Nat) : Opd := .k (.one (.fn f 0 fun _ => default))
abbrev SV.i (n : Int) : SV := .p (.one (.c (.v (.int .i64 n))))
abbrev SV.b (b : Bool) : SV := .p (.one (.c (.v (.bool b))))
abbrev SV.s (s : ByteArray) : SV := .p (.one (.c (.v (.string s))))
abbrev Pt.i (n : Int) : Pt := .one (.c (.v (.int .i64 n)))
abbrev Pt.b (b : Bool) : Pt := .one (.c (.v (.bool b)))
abbrev Pt.s (s : ByteArray) : Pt := .one (.c (.v (.string s)))
end Go.Proofs.YtioefecijidgkaaAbs
