/- General laws: what a function with a bound on its rounds comes to, when the bound is great enough. No program in sight. -/
import Derived.Test.YtkfakciimeiehaaWWords
set_option linter.unusedVariables false
set_option linter.unusedSimpArgs false
namespace Go.Proofs.YtkfakciimeiehaaLim
open Go Go.RowKit Go.Proofs.YtkfakciimeiehaaW.PrintWords

/-- What g comes to: its answer, from some bound on; none if there is no such. -/
noncomputable def Lim {α : Type} (g : Nat → Option α) : Option α := open Classical in if h : ∃ r, Ev g r then some (Classical.choose h) else none
theorem ev_unique {α : Type} {g : Nat → Option α} {r q : α} (h : Ev g r) (h' : Ev g q) : r = q := by
  obtain ⟨K, hK⟩ := h
  obtain ⟨J, hJ⟩ := h'
  have a := hK (K + J) (by omega)
  have b := hJ (K + J) (by omega)
  rw [a] at b
  exact Option.some.inj b
theorem lim_eq {α : Type} {g : Nat → Option α} {r : α} (h : Ev g r) : Lim g = some r := by
  unfold Lim
  have h' : ∃ r, Ev g r := ⟨r, h⟩
  rw [dif_pos h']
  exact congrArg some (ev_unique (Classical.choose_spec h') h)
theorem ev_of_lim {α : Type} {g : Nat → Option α} {r : α} (h : Lim g = some r) : Ev g r := by
  unfold Lim at h
  split at h
  · rename_i h'
    injection h with h
    rw [← h]
    exact Classical.choose_spec h'
  · cases h
theorem lim_iff {α : Type} {g : Nat → Option α} {r : α} : Lim g = some r ↔ Ev g r := ⟨ev_of_lim, lim_eq⟩
theorem rounds_of_lim {α : Type} {g : Nat → Option α} {r : α} (h : Lim g = some r) : ∃ k, g k = some r := (ev_of_lim h).rounds
theorem lim_congr {α : Type} {g f : Nat → Option α} (h : ∀ r, Ev g r ↔ Ev f r) : Lim g = Lim f := by
  cases hg : Lim g with
  | some r => exact (lim_eq ((h r).1 (ev_of_lim hg))).symm
  | none =>
    cases hf : Lim f with
    | none => rfl
    | some r => rw [lim_eq ((h r).2 (ev_of_lim hf))] at hg; cases hg
theorem lim_some {α : Type} (r : α) : Lim (fun _ => some r) = some r := lim_eq ⟨0, fun _ _ => rfl⟩
theorem lim_none {α : Type} : Lim (fun _ => (none : Option α)) = none := by
  cases h : Lim (fun _ => (none : Option α)) with
  | none => rfl
  | some r =>
    obtain ⟨K, hK⟩ := ev_of_lim h
    cases hK K (Nat.le_refl _)
theorem lim_ite {α : Type} {c : Prop} [Decidable c] (g f : Nat → Option α) : Lim (fun k => if c then g k else f k) = if c then Lim g else Lim f := by
  by_cases h : c
  · simp only [if_pos h]
  · simp only [if_neg h]
theorem lim_succ {α : Type} (g : Nat → Option α) : Lim g = Lim (fun k => g (k + 1)) := by
  refine lim_congr fun r => ⟨?_, ?_⟩
  · rintro ⟨K, hK⟩
    exact ⟨K, fun k hk => hK (k + 1) (by omega)⟩
  · rintro ⟨K, hK⟩
    refine ⟨K + 1, fun k hk => ?_⟩
    obtain ⟨j, rfl⟩ : ∃ j, k = j + 1 := ⟨k - 1, by omega⟩
    exact hK j (by omega)
theorem lim_bind {α β : Type} {g : Nat → Option α} (hg : ∀ k, LeO (g k) (g (k + 1))) (f : Nat → α → Option β) : Lim (fun k => (g k).bind (f k)) = (Lim g).bind (fun a => Lim (fun k => f k a)) := by
  cases h : Lim g with
  | some a =>
    obtain ⟨K, hK⟩ := ev_of_lim h
    simp only [Option.bind_some]
    refine lim_congr fun r => ⟨?_, ?_⟩
    · rintro ⟨J, hJ⟩
      refine ⟨K + J, fun k hk => ?_⟩
      have := hJ k (by omega)
      simp only [hK k (by omega), Option.bind_some] at this
      exact this
    · rintro ⟨J, hJ⟩
      refine ⟨K + J, fun k hk => ?_⟩
      simp only [hK k (by omega), Option.bind_some]
      exact hJ k (by omega)
  | none =>
    have hn : ∀ k, g k = none := by
      intro k
      cases hk : g k with
      | none => rfl
      | some a => rw [lim_eq (Ev.of hg hk)] at h; cases h
    simp only [hn, Option.bind_none]
    exact lim_none
/-- A callee without rounds. -/
theorem lim_bind_const {α β : Type} (g : Option α) (f : Nat → α → Option β) : Lim (fun k => g.bind (f k)) = g.bind (fun a => Lim (fun k => f k a)) := by
  cases g with
  | some a => rfl
  | none => exact lim_none
theorem lim_const {α : Type} (g : Option α) : Lim (fun _ => g) = g := by
  cases g with
  | some a => exact lim_some a
  | none => exact lim_none
theorem limNone {α : Type} : Lim (fun _ => (none : Option α)) = none := lim_none
theorem limSome {α : Type} (r : α) : Lim (fun _ => some r) = some r := lim_some r
theorem limConst {α : Type} (g : Option α) : Lim (fun _ => g) = g := lim_const g
theorem limIte {α : Type} {c : Prop} [Decidable c] {g f : Nat → Option α} {a b : Option α} (hg : Lim g = a) (hf : Lim f = b) : Lim (fun k => if c then g k else f k) = if c then a else b := by
  rw [lim_ite, hg, hf]
theorem limBind {α β : Type} {g : Nat → Option α} (hg : ∀ k, LeO (g k) (g (k + 1))) {f : Nat → α → Option β} {F : α → Option β} (hf : ∀ a, Lim (fun k => f k a) = F a) : Lim (fun k => (g k).bind (f k)) = (Lim g).bind F := by
  rw [lim_bind hg]
  exact congrArg _ (funext hf)
theorem limBindC {α β : Type} {g : Option α} {f : Nat → α → Option β} {F : α → Option β} (hf : ∀ a, Lim (fun k => f k a) = F a) : Lim (fun k => g.bind (f k)) = g.bind F := by
  rw [lim_bind_const]
  exact congrArg _ (funext hf)
end Go.Proofs.YtkfakciimeiehaaLim
