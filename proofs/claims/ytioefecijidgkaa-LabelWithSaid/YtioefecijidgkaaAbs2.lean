/- The abstract machine: what its values mean, through turns of the world; each operation that writes nothing does what it is told to. -/
import Derived.Test.YtioefecijidgkaaAbs1
set_option linter.unusedVariables false
set_option linter.unusedSimpArgs false
namespace Go.Proofs.YtioefecijidgkaaAbs
open Go Go.RowKit

theorem ExtI.refl (I : Im) : ExtI I I := fun _ _ h => h
theorem ExtI.trans {I J K : Im} (h : ExtI I J) (k : ExtI J K) : ExtI I K := fun a x hx => k a x (h a x hx)
theorem ExtP.refl (σ : List Plc) : ExtP σ σ := fun b p h => ⟨p, h, Nat.le_refl _, fun _ => rfl⟩
theorem ExtP.trans {σ τ ρ : List Plc} (h : ExtP σ τ) (k : ExtP τ ρ) : ExtP σ ρ := fun b p hp => by
  obtain ⟨p1, h1, l1, e1⟩ := h b p hp
  obtain ⟨p2, h2, l2, e2⟩ := k b p1 h1
  refine ⟨p2, h2, Nat.le_trans l1 l2, fun e => ?_⟩
  have a := e1 (by omega)
  have b := e2 (by omega)
  rw [b, a]
theorem ExtP.append (σ τ : List Plc) : ExtP σ (σ ++ τ) := fun b p h => ⟨p, by rw [List.getElem?_append_left (List.getElem?_eq_some_iff.1 h).1]; exact h, Nat.le_refl _, fun _ => rfl⟩
theorem RelC_mono {I I' : Im} (hI : ExtI I I') : ∀ {c : CV} {y : Value}, RelC I c y → RelC I' c y := by
  intro c
  induction c with
  | v x => intro y h; exact h
  | imm sz n c ih =>
    rintro y ⟨A, cap, e, hc, h⟩
    refine ⟨A, cap, e, hc, h.imp_right ?_⟩
    rintro ⟨ad, e2, h2⟩
    refine ⟨ad, e2, fun i hi j hj => ?_⟩
    obtain ⟨x, hx, hr⟩ := h2 i hi j hj
    exact ⟨x, hI _ _ hx, ih i j hr⟩
theorem RelA_mono {I I' : Im} {σ σ' : List Plc} (hI : ExtI I I') (hσ : ExtP σ σ') : ∀ {a : AV} {y : Value}, RelA I σ a y → RelA I' σ' a y := by
  intro a
  induction a with
  | c x => intro y h; exact RelC_mono hI h
  | ptr b ver i j =>
    rintro y ⟨h1, p, hp, hv, h⟩
    obtain ⟨p', hp', hl, he⟩ := hσ b p hp
    refine ⟨h1, p', hp', by omega, fun e => ?_⟩
    have := he (by omega)
    subst this
    exact h e
  | arr sz b ver off len =>
    rintro y ⟨h1, p, hp, hv, h⟩
    obtain ⟨p', hp', hl, he⟩ := hσ b p hp
    refine ⟨h1, p', hp', by omega, fun e => ?_⟩
    have := he (by omega)
    subst this
    exact h e
  | ip n c =>
    rintro y ⟨ad, e, h⟩
    refine ⟨ad, e, fun k hk => ?_⟩
    obtain ⟨x, hx, hr⟩ := h k hk
    exact ⟨x, hI _ _ hx, RelC_mono hI hr⟩
  | fn f n caps ih =>
    rintro y ⟨cs, e, hs, h⟩
    exact ⟨cs, e, hs, fun k x hx => ih k (h k x hx)⟩
theorem RelL_mono {I I' : Im} {σ σ' : List Plc} (hI : ExtI I I') (hσ : ExtP σ σ') {l : List AV} {cs : List Value} (h : RelL I σ l cs) : RelL I' σ' l cs :=
  ⟨h.1, fun k a x ha hx => RelA_mono hI hσ (h.2 k a x ha hx)⟩
theorem RelP_mono {I I' : Im} {σ σ' : List Plc} (hI : ExtI I I') (hσ : ExtP σ σ') {q : Pt} {y : Value} (h : RelP I σ q y) : RelP I' σ' q y := by
  cases q with
  | one a => exact RelA_mono hI hσ h
  | agg l => obtain ⟨cs, e, h⟩ := h; exact ⟨cs, e, RelL_mono hI hσ h⟩
theorem RelS_mono {I I' : Im} {σ σ' : List Plc} (hI : ExtI I I') (hσ : ExtP σ σ') : ∀ {s : SV} {y : Value}, RelS I σ s y → RelS I' σ' s y := by
  intro s
  induction s with
  | p x => intro y h; exact RelP_mono hI hσ h
  | tup l => rintro y ⟨vs, e, hs, h⟩; exact ⟨vs, e, hs, fun k q x hq hx => RelP_mono hI hσ (h k q x hq hx)⟩
  | g c s ih => intro y h; exact ⟨fun hc => ih (h.1 hc), h.2⟩
  | any => intro y h; exact trivial
theorem RelC_one {I : Im} {c : CV} {y : Value} (h : RelC I c y) : one1 y = true := by
  cases c with
  | v x => obtain ⟨rfl, h⟩ := h; exact h
  | imm sz n c => obtain ⟨A, cap, rfl, _⟩ := h; rfl
theorem RelA_one {I : Im} {σ : List Plc} {a : AV} {y : Value} (h : RelA I σ a y) : one1 y = true := by
  cases a with
  | c x => exact RelC_one h
  | ptr b ver i j => exact h.1
  | arr sz b ver off len => exact h.1
  | ip n c => obtain ⟨ad, rfl, _⟩ := h; rfl
  | fn f n caps => obtain ⟨cs, rfl, _⟩ := h; rfl
theorem RelS_strip {I : Im} {σ : List Plc} : ∀ {s : SV} {y : Value}, RelS I σ s y → RelS I σ (strip true s) y := by
  intro s
  induction s with
  | p x => intro y h; exact h
  | tup l => intro y h; exact h
  | any => intro y h; exact h
  | g c s ih =>
    intro y h
    unfold strip
    by_cases hc : c = true
    · rw [if_pos (by simp [hc])]; exact ih (h.1 hc)
    · rw [if_neg (by simp [hc])]; exact h
theorem cells_one {y : Value} (h : one1 y = true) : y.cells = #[y] := by cases y <;> first | rfl | cases h
theorem RelL_zc {I : Im} {σ : List Plc} {z : List Value} (h : z.all one1 = true) : RelL I σ (zc z) z := by
  refine ⟨by simp [zc], fun k a x ha hx => ?_⟩
  simp only [zc, List.getElem?_map, hx, Option.map_some, Option.some.injEq] at ha
  subst ha
  exact ⟨rfl, List.all_eq_true.1 h x (List.mem_of_getElem? hx)⟩
theorem ptOf_rel {I : Im} {σ : List Plc} {v : Value} {q : Pt} (h : ptOf v = some q) : RelP I σ q v := by
  unfold ptOf at h
  split at h
  · rename_i cs
    split at h
    · rename_i hc
      injection h with h
      subst h
      exact ⟨cs, rfl, RelL_zc hc⟩
    · cases h
  · cases h
  · rename_i h1 h2
    injection h with h
    subst h
    refine ⟨rfl, ?_⟩
    cases v <;> first | rfl | (exfalso; exact h1 _ rfl) | (exfalso; exact h2 _ rfl)
/-- What the slots hold. -/
def RelE (I : Im) (σ : List Plc) (e : Nat → SV) (a : Act) : Prop := ∀ i, RelS I σ (e i) (a.tmps.getD i undef)
theorem RelE_mono {I I' : Im} {σ σ' : List Plc} (hI : ExtI I I') (hσ : ExtP σ σ') {e : Nat → SV} {a : Act} (h : RelE I σ e a) : RelE I' σ' e a := fun i => RelS_mono hI hσ (h i)
section
variable {I : Im} {σ : List Plc} {e : Nat → SV} {a : Act}
theorem compX_rel (he : RelE I σ e a) {x : Operand} {y : Opd} (h : compX x = some y) : RelS I σ (raw e y) (a.eval x) := by
  cases x with
  | tmp t => injection h with h; subst h; exact he t
  | const v =>
    simp only [compX, Option.map_eq_some_iff] at h
    obtain ⟨q, hq, rfl⟩ := h
    exact ptOf_rel hq
  | func f => injection h with h; subst h; exact ⟨#[], rfl, rfl, fun k x h => by simp at h⟩
  | global g => cases h
theorem vl_rel (he : RelE I σ e a) {x : Operand} {y : Opd} (h : compX x = some y) : RelS I σ (strip true (raw e y)) (a.eval x) := RelS_strip (compX_rel he h)
theorem vl_one (he : RelE I σ e a) {x : Operand} {y : Opd} (h : compX x = some y) {v : AV} (hv : strip true (raw e y) = .p (.one v)) : RelA I σ v (a.eval x) := by
  have := vl_rel he h
  rw [hv] at this
  exact this
theorem vl_v (he : RelE I σ e a) {x : Operand} {y : Opd} (h : compX x = some y) {v : Value} (hv : strip true (raw e y) = .p (.one (.c (.v v)))) : a.eval x = v := (vl_one he h hv).1
theorem vl_int (he : RelE I σ e a) {x : Operand} {y : Opd} (h : compX x = some y) {n : Int} (hv : intOfS (strip true (raw e y)) = some n) : ∃ k, a.eval x = .int k n := by
  unfold intOfS at hv
  split at hv
  · rename_i k m hs
    injection hv with hv
    subst hv
    exact ⟨k, vl_v he h hs⟩
  · cases hv
theorem compXs_rel (he : RelE I σ e a) : ∀ {xs : List Operand} {ys : List Opd} {l : List AV}, compXs xs = some ys → capsOf (fun x => strip true (raw e x)) ys = some l → RelL I σ l (xs.map a.eval)
  | [], ys, l, h, hl => by
    injection h with h; subst h; injection hl with hl; subst hl
    exact ⟨rfl, fun k a x h => by simp at h⟩
  | x :: xs, ys, l, h, hl => by
    simp only [compXs, Option.bind_eq_some_iff, Option.map_eq_some_iff] at h
    obtain ⟨y, hy, ys, hys, rfl⟩ := h
    unfold capsOf at hl
    split at hl
    · rename_i v hv
      simp only [Option.map_eq_some_iff] at hl
      obtain ⟨l, hl, rfl⟩ := hl
      have ih := compXs_rel he hys hl
      refine ⟨by simpa using ih.1, fun k u z hu hz => ?_⟩
      cases k with
      | zero => simp at hu hz; subst hu; subst hz; exact vl_one he hy hv
      | succ k => exact ih.2 k u z (by simpa using hu) (by simpa using hz)
    · cases hl
theorem RelP_cells {q : Pt} {y : Value} (h : RelP I σ q y) : RelL I σ q.cells y.cells.toList := by
  cases q with
  | one v =>
    rw [cells_one (RelA_one h)]
    refine ⟨rfl, fun k u z hu hz => ?_⟩
    cases k with
    | zero => simp [Pt.cells] at hu hz; subst hu; subst hz; exact h
    | succ k => simp [Pt.cells] at hu
  | agg l => obtain ⟨cs, rfl, h⟩ := h; exact h
theorem RelL_set {l : List AV} {cs : List Value} (h : RelL I σ l cs) {k : Nat} {v : AV} {y : Value} (hv : RelA I σ v y) : RelL I σ (l.set k v) (cs.set k y) := by
  refine ⟨by simpa using h.1, fun j u z hu hz => ?_⟩
  rw [List.getElem?_set] at hu hz
  by_cases hk : k = j
  · rw [if_pos hk] at hu hz
    split at hu
    · rw [if_pos (by rw [h.1]; assumption)] at hz
      injection hu with hu; injection hz with hz; subst hu; subst hz; exact hv
    · cases hu
  · rw [if_neg hk] at hu hz
    exact h.2 j u z hu hz
theorem RelL_fill : ∀ {as : List AV} {ys : List Value} {l : List AV} {cs : List Value} {off : Nat}, RelL I σ l cs → RelL I σ as ys →
    RelL I σ (fillL l off as) ((ys.zipIdx).foldl (fun cs (c, j) => cs.set (off + j) c) cs)
  | [], ys, l, cs, off, h, ha => by
    have : ys = [] := by have := ha.1; simpa using this
    subst this
    exact h
  | v :: as, ys, l, cs, off, h, ha => by
    obtain ⟨y, ys, rfl⟩ : ∃ y t, ys = y :: t := by cases ys with | nil => have := ha.1; simp at this | cons y t => exact ⟨y, t, rfl⟩
    have h0 : RelA I σ v y := ha.2 0 v y rfl rfl
    have ht : RelL I σ as ys := ⟨by have := ha.1; simpa using this, fun k u z hu hz => ha.2 (k + 1) u z (by simpa using hu) (by simpa using hz)⟩
    have ih := RelL_fill (off := off + 1) (RelL_set (k := off) h h0) ht
    unfold fillL
    have e : (List.zipIdx (y :: ys)).foldl (fun cs (c, j) => cs.set (off + j) c) cs = (List.zipIdx ys).foldl (fun cs (c, j) => cs.set (off + 1 + j) c) (cs.set off y) := by
      rw [List.zipIdx_cons, List.foldl_cons, List.zipIdx_succ, List.foldl_map]
      simp only [Nat.add_zero]
      congr 1
      funext cs p
      obtain ⟨c, j⟩ := p
      simp only []
      congr 1
      omega
    rw [e]
    exact ih
end
end Go.Proofs.YtioefecijidgkaaAbs
