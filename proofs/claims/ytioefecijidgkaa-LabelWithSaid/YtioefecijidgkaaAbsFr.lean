/- The abstract machine: a call beside memory that it does not know. -/
import Derived.Test.YtioefecijidgkaaAbs19
set_option linter.unusedVariables false
set_option linter.unusedSimpArgs false
namespace Go.Proofs.YtioefecijidgkaaAbs
open Go Go.RowKit
/-- A call is the same beside whatever further memory. -/
theorem callR_frame {P : Program} {f : Nat} {ps : List Pt} {r : SV} {M M' : List Blk} (h : CallR P M f ps r M') (hl : M'.length = M.length) (hps : ∀ q ∈ ps, ltP M.length q) (hB : ∀ x ∈ M, ltB M.length x) (D : List Blk) : CallR P (M ++ D) f ps r (M' ++ D) := by
  intro I σ w vals hG hm hvl hvr
  have hlen : σ.length = M.length + D.length := by have := hm.len; simpa using this
  obtain ⟨hm1, hh1⟩ := Mem.drop hm hB
  refine Comes.mono (h I (σ.take M.length) w vals hG hm1 hvl (fun k q x hq hx => RelP_take (hps q (List.mem_of_getElem? hq)) (hvr k q x hq hx))) ?_
  rintro v w' ⟨I', σ', hr, hev⟩
  have hl1 : (σ.take M.length).length = M.length := by simp; omega
  have hl2 : σ'.length = M.length := by have := hev.mem.len; omega
  have hD : ∀ (b : Nat) (x : Blk) (p : Plc), D[b]? = some x → (σ.drop M.length)[b]? = some p → (M ++ D)[M.length + b]? = some x ∧ σ[M.length + b]? = some p := by
    intro b x p hx hp
    rw [List.getElem?_drop] at hp
    exact ⟨by rw [List.getElem?_append_right (by omega)]; simpa using hx, hp⟩
  have hM : ∀ (b : Nat) (x : Blk) (p : Plc), M[b]? = some x → (σ.take M.length)[b]? = some p → (M ++ D)[b]? = some x ∧ σ[b]? = some p := by
    intro b x p hx hp
    have hb := getElem?_lt hx
    rw [List.getElem?_take, if_pos hb] at hp
    exact ⟨by rw [List.getElem?_append_left hb]; exact hx, hp⟩
  -- a further block is none of those that are told
  have hno : ∀ (b : Nat) (x : Blk) (p : Plc) (g : Nat), D[b]? = some x → x.live = true → (σ.drop M.length)[b]? = some p → p.blk = some g → ¬ Has (σ.take M.length) M g := by
    rintro b x p g hx hlv hp hg ⟨b', x', p', hx', hlv', hp', hg'⟩
    obtain ⟨k1, k2⟩ := hD b x p hx hp
    obtain ⟨k3, k4⟩ := hM b' x' p' hx' hp'
    have := hm.inj _ _ x x' p p' g k1 k3 hlv hlv' k2 k4 hg hg'
    have hb' := getElem?_lt hx'
    omega
  have hlt : ∀ (b : Nat) (x : Blk) (p : Plc) (g : Nat), D[b]? = some x → x.live = true → (σ.drop M.length)[b]? = some p → p.blk = some g → g < w.heap.size := by
    intro b x p g hx hlv hp hg
    obtain ⟨k1, k2⟩ := hD b x p hx hp
    exact RelB_lt (hm.blk _ x p k1 k2) hlv hg
  have hext : ExtP σ (σ' ++ σ.drop M.length) := by
    intro b p hp
    by_cases hb : b < M.length
    · obtain ⟨p', hp', hq⟩ := hev.extP b p (by rw [List.getElem?_take, if_pos hb]; exact hp)
      exact ⟨p', by rw [List.getElem?_append_left (by omega)]; exact hp', hq⟩
    · refine ⟨p, ?_, Nat.le_refl _, fun _ => rfl⟩
      rw [List.getElem?_append_right (by omega), List.getElem?_drop, hl2, show M.length + (b - M.length) = b by omega]
      exact hp
  have hsplit : ∀ (b : Nat) (x : Blk) (p : Plc), (M' ++ D)[b]? = some x → (σ' ++ σ.drop M.length)[b]? = some p → (M'[b]? = some x ∧ σ'[b]? = some p) ∨ (M.length ≤ b ∧ D[b - M.length]? = some x ∧ (σ.drop M.length)[b - M.length]? = some p) := by
    intro b x p hx hp
    by_cases hb : b < M.length
    · rw [List.getElem?_append_left (by omega)] at hx hp
      exact .inl ⟨hx, hp⟩
    · rw [List.getElem?_append_right (by omega)] at hx hp
      rw [hl] at hx
      rw [hl2] at hp
      exact .inr ⟨by omega, hx, hp⟩
  have hown : ∀ g, Has σ' M' g → ∀ (b : Nat) (x : Blk) (p : Plc), D[b]? = some x → x.live = true → (σ.drop M.length)[b]? = some p → p.blk = some g → False := by
    intro g hg b x p hx hlv hp hpg
    rcases hev.own g hg with h1 | h1
    · exact hno b x p g hx hlv hp hpg h1
    · have := hlt b x p g hx hlv hp hpg
      omega
  refine ⟨I', σ' ++ σ.drop M.length, RelS_mono (ExtI.refl _) (ExtP.append _ _) hr, ⟨hev.extI, hext, ⟨?_, ?_, ?_, ?_, hev.mem.imm⟩, ?_, ?_, ?_⟩⟩
  · simp; omega
  · intro b x p hx hp
    rcases hsplit b x p hx hp with ⟨h1, h2⟩ | ⟨h0, h1, h2⟩
    · exact RelB_mono (ExtI.refl _) (ExtP.append _ _) (fun _ _ _ => rfl) (hev.mem.blk b x p h1 h2)
    · obtain ⟨k1, k2⟩ := hD _ x p h1 h2
      refine RelB_mono hev.extI hext (fun g hlv hg => ?_) (hm.blk _ x p k1 k2)
      exact hev.keep.block g (hlt _ x p g h1 hlv h2 hg) (hno _ x p g h1 hlv h2 hg)
  · intro b b' x x' p p' g hx hx' lx lx' hp hp' hg hg'
    rcases hsplit b x p hx hp with ⟨h1, h2⟩ | ⟨h0, h1, h2⟩ <;> rcases hsplit b' x' p' hx' hp' with ⟨h1', h2'⟩ | ⟨h0', h1', h2'⟩
    · exact hev.mem.inj b b' x x' p p' g h1 h1' lx lx' h2 h2' hg hg'
    · exact (hown g ⟨b, x, p, h1, lx, h2, hg⟩ _ x' p' h1' lx' h2' hg').elim
    · exact (hown g ⟨b', x', p', h1', lx', h2', hg'⟩ _ x p h1 lx h2 hg).elim
    · obtain ⟨k1, k2⟩ := hD _ x p h1 h2
      obtain ⟨k3, k4⟩ := hD _ x' p' h1' h2'
      have := hm.inj _ _ x x' p p' g k1 k3 lx lx' k2 k4 hg hg'
      omega
  · intro b x p g hx lx hp hg ad had
    rcases hsplit b x p hx hp with ⟨h1, h2⟩ | ⟨h0, h1, h2⟩
    · exact hev.mem.ap b x p g h1 lx h2 hg ad had
    · obtain ⟨k1, k2⟩ := hD _ x p h1 h2
      cases hI : I' ad with
      | none => rfl
      | some y =>
        exfalso
        rcases hev.fresh ad y hI with h3 | h3 | h3
        · rw [hm.ap _ x p g k1 lx k2 hg ad had] at h3
          cases h3
        · have := hlt _ x p g h1 lx h2 hg
          omega
        · rw [had] at h3
          exact hno _ x p g h1 lx h2 hg h3
  · exact hev.keep.mono (fun k _ h => hh1 k h)
  · rintro g ⟨b, x, p, hx, lx, hp, hg⟩
    rcases hsplit b x p hx hp with ⟨h1, h2⟩ | ⟨h0, h1, h2⟩
    · rcases hev.own g ⟨b, x, p, h1, lx, h2, hg⟩ with h3 | h3
      · exact .inl (hh1 g h3)
      · exact .inr h3
    · obtain ⟨k1, k2⟩ := hD _ x p h1 h2
      exact .inl ⟨_, x, p, k1, lx, k2, hg⟩
  · intro ad x hx
    rcases hev.fresh ad x hx with h1 | h1 | h1
    · exact .inl h1
    · exact .inr (.inl h1)
    · exact .inr (.inr (hh1 _ h1))
end Go.Proofs.YtioefecijidgkaaAbs
