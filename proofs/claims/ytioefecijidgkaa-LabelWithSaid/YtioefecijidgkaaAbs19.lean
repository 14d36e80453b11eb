/- The abstract machine: a row's spare room is told; a row is told to a length; a row takes another's place. -/
import Derived.Test.YtioefecijidgkaaAbs18
set_option linter.unusedVariables false
set_option linter.unusedSimpArgs false
namespace Go.Proofs.YtioefecijidgkaaAbs
open Go Go.RowKit
section
variable {P : Program} {n m : Nat} {K : Exit → St → Prop} {e : Nat → SV} {M : List Blk} {c : C}
/-- Another telling of one block, at the same place. -/
theorem Mem.retell {I : Im} {σ : List Plc} {w : World} (hm : Mem I σ M w) {b : Nat} {x x' : Blk} {p : Plc} (hx : M[b]? = some x) (hp : σ[b]? = some p) (hl : x'.live = true → x.live = true) (hr : RelB I σ w p x') : Mem I σ (M.set b x') w ∧ ∀ g, Has σ (M.set b x') g → Has σ M g := by
  have key : ∀ {b' : Nat} {y : Blk}, (M.set b x')[b']? = some y → (b' = b ∧ y = x') ∨ (b' ≠ b ∧ M[b']? = some y) := by
    intro b' y hy
    rw [List.getElem?_set] at hy
    by_cases hb : b = b'
    · subst hb
      rw [if_pos rfl, if_pos (getElem?_lt hx)] at hy
      injection hy with hy
      exact .inl ⟨rfl, hy.symm⟩
    · rw [if_neg hb] at hy
      exact .inr ⟨fun e => hb e.symm, hy⟩
  have back : ∀ {b' : Nat} {y : Blk}, (M.set b x')[b']? = some y → y.live = true → ∃ z, M[b']? = some z ∧ z.live = true := by
    intro b' y hy hlv
    rcases key hy with ⟨rfl, rfl⟩ | ⟨_, h⟩
    · exact ⟨x, hx, hl hlv⟩
    · exact ⟨y, h, hlv⟩
  refine ⟨⟨by simp [hm.len], fun b' y q hy hq => ?_, fun b1 b2 y1 y2 p1 p2 g h1 h2 l1 l2 q1 q2 e1 e2 => ?_, fun b1 y1 p1 g h1 l1 q1 e1 ad had => ?_, hm.imm⟩, ?_⟩
  · rcases key hy with ⟨rfl, rfl⟩ | ⟨_, h⟩
    · obtain rfl : p = q := by rw [hp] at hq; injection hq
      exact hr
    · exact hm.blk b' y q h hq
  · obtain ⟨z1, k1, v1⟩ := back h1 l1
    obtain ⟨z2, k2, v2⟩ := back h2 l2
    exact hm.inj b1 b2 z1 z2 p1 p2 g k1 k2 v1 v2 q1 q2 e1 e2
  · obtain ⟨z1, k1, v1⟩ := back h1 l1
    exact hm.ap b1 z1 p1 g k1 v1 q1 e1 ad had
  · rintro g ⟨b1, y1, p1, h1, l1, q1, e1⟩
    obtain ⟨z1, k1, v1⟩ := back h1 l1
    exact ⟨b1, z1, p1, k1, v1, q1, e1⟩
theorem Evo.retell {I0 I : Im} {σ0 σ : List Plc} {M0 : List Blk} {w0 w : World} (h : Evo I0 σ0 M0 w0 I σ M w) {M' : List Blk} (hm : Mem I σ M' w) (hh : ∀ g, Has σ M' g → Has σ M g) : Evo I0 σ0 M0 w0 I σ M' w := ⟨h.extI, h.extP, hm, h.keep, fun g hg => h.own g (hh g hg), h.fresh⟩
/-- Rows of plain values, each as long as an element. -/
def plainRows (sz : Nat) (l : List (List AV)) : Prop := ∀ r ∈ l, r.length = sz ∧ ∀ a ∈ r, ∃ x, a = .c (.v x)
theorem run_open {b t sz ver : Nat} {l : List (List AV)} {f : Bool} (hM : M[b]? = some (.rows t sz ver l f)) (h : ∀ l', plainRows sz l' → l.length + l'.length ≤ maxLen → Run P n m c ⟨e, M.set b (.rows t sz ver (l ++ l') true)⟩ K) : Run P n m c ⟨e, M⟩ K := by
  intro code hc I0 σ0 M0 w0 a w hm0 hs
  obtain ⟨I, σ, hev, he, h1, h2⟩ := hs
  have hm := hev.mem
  have hbl : b < σ.length := by rw [hm.len]; exact getElem?_lt hM
  obtain ⟨k0, k1, k2, k3, k4, k5, k6⟩ := hm.blk b _ _ hM (List.getElem?_eq_getElem hbl)
  generalize hp : σ[b] = p at k0 k1 k2 k3 k4 k5 k6
  have hp : σ[b]? = some p := by rw [List.getElem?_eq_getElem hbl, hp]
  obtain ⟨l', hl1, hl2, hrel⟩ : ∃ l', plainRows sz l' ∧ l.length + l'.length = p.cap ∧ RelB I σ w p (.rows t sz ver (l ++ l') true) := by
    cases hb : p.blk with
    | none =>
      rw [hb] at k6
      have k6 : p.cap = 0 := k6
      refine ⟨[], fun r hr => by simp at hr, by simp; omega, ?_⟩
      refine ⟨fun _ => by simp; omega, k1, k2, by simpa using k3, k4, by simpa using k5, ?_⟩
      rw [hb]; exact k6
    | some g =>
      rw [hb] at k6
      obtain ⟨cs, hh, hs, ho, hcs⟩ := k6
      have hin : ∀ i j, i < p.cap - l.length → j < sz → (l.length + i) * sz + j < cs.size := by
        intro i j hi hj
        have h3 : (l.length + i + 1) * sz ≤ p.cap * sz := Nat.mul_le_mul_right _ (by omega)
        rw [Nat.add_mul, Nat.one_mul] at h3
        omega
      refine ⟨(List.range (p.cap - l.length)).map fun i => (List.range sz).map fun j => .c (.v (cs.getD ((l.length + i) * sz + j) undef)), fun r hr => ?_, by simp; omega, ?_⟩
      · obtain ⟨i, hi, rfl⟩ := List.mem_map.1 hr
        refine ⟨by simp, fun a ha => ?_⟩
        obtain ⟨j, _, rfl⟩ := List.mem_map.1 ha
        exact ⟨_, rfl⟩
      · refine ⟨fun _ => by simp; omega, k1, k2, by simp; omega, k4, fun i r hr => ?_, ?_⟩
        · by_cases hi : i < l.length
          · rw [List.getElem?_append_left hi] at hr; exact k5 i r hr
          · rw [List.getElem?_append_right (by omega), List.getElem?_map, Option.map_eq_some_iff] at hr
            obtain ⟨_, _, rfl⟩ := hr
            simp
        · rw [hb]
          refine ⟨cs, hh, hs, ho, fun i r hr j u hu => ?_⟩
          by_cases hi : i < l.length
          · rw [List.getElem?_append_left hi] at hr; exact hcs i r hr j u hu
          · rw [List.getElem?_append_right (by omega), List.getElem?_map, Option.map_eq_some_iff] at hr
            obtain ⟨i', hi', rfl⟩ := hr
            have hlt := getElem?_lt hi'
            rw [List.length_range] at hlt
            rw [List.getElem?_range hlt] at hi'
            injection hi' with hi'
            subst hi'
            rw [List.getElem?_map, Option.map_eq_some_iff] at hu
            obtain ⟨j', hj', rfl⟩ := hu
            have hlj := getElem?_lt hj'
            rw [List.length_range] at hlj
            rw [List.getElem?_range hlj] at hj'
            injection hj' with hj'
            subst hj'
            have hb2 := hin _ _ hlt hlj
            have e1 : l.length + (i - l.length) = i := by omega
            rw [e1] at hb2 ⊢
            have e2 : cs[i * sz + j]? = some (cs.getD (i * sz + j) undef) := by
              rw [Array.getD_eq_getD_getElem?, Array.getElem?_eq_getElem hb2]
              rfl
            exact ⟨_, e2, rfl, ho _ _ e2⟩
  obtain ⟨m1, m2⟩ := hm.retell hM hp (x' := .rows t sz ver (l ++ l') true) (fun _ => rfl) hrel
  exact h l' hl1 (by omega) code hc I0 σ0 M0 w0 a w hm0 ⟨I, σ, hev.retell m1 m2, he, h1, h2⟩
theorem gh_trunc {b t sz ver : Nat} {l : List (List AV)} {f : Bool} (k : Nat) (hM : M[b]? = some (.rows t sz ver l f)) : Gh n m ⟨e, M⟩ ⟨e, M.set b (.rows t sz ver (l.take k) false)⟩ := by
  rintro I0 σ0 M0 w0 a w hm0 ⟨I, σ, hev, he, h1, h2⟩
  have hm := hev.mem
  have hbl : b < σ.length := by rw [hm.len]; exact getElem?_lt hM
  have hp : σ[b]? = some σ[b] := List.getElem?_eq_getElem hbl
  obtain ⟨k0, k1, k2, k3, k4, k5, k6⟩ := hm.blk b _ _ hM hp
  have hget : ∀ {i : Nat} {r : List AV}, (l.take k)[i]? = some r → l[i]? = some r := by
    intro i r h
    rw [List.getElem?_take] at h
    split at h
    · exact h
    · cases h
  obtain ⟨m1, m2⟩ := hm.retell hM hp (x' := .rows t sz ver (l.take k) false) (fun _ => rfl) ⟨fun h => (by cases h), k1, k2, by rw [List.length_take]; omega, k4, fun i r hr => k5 i r (hget hr), by
    cases hb : σ[b].blk with
    | none => rw [hb] at k6; exact k6
    | some g =>
      rw [hb] at k6
      obtain ⟨cs, hh, hs, ho, hcs⟩ := k6
      exact ⟨cs, hh, hs, ho, fun i r hr j u hu => hcs i r (hget hr) j u hu⟩⟩
  exact ⟨I, σ, hev.retell m1 m2, he, h1, h2⟩
/-- The row c is from now on the row b; what b was is forgotten. -/
theorem gh_move {b c t sz vc t0 sz0 vb : Nat} {l l0 : List (List AV)} {f f0 : Bool} (i off len : Nat) (hb : M[b]? = some (.rows t0 sz0 vb l0 f0)) (hc : M[c]? = some (.rows t sz vc l f)) (hi : e i = .p (.one (.arr sz c vc off len))) :
    Gh n m ⟨e, M⟩ ⟨upd e i (.p (.one (.arr sz b (vb + 1) off len))), (M.set c .dead).set b (.rows t sz (vb + 1) l f)⟩ := by
  rintro I0 σ0 M0 w0 a w hm0 ⟨I, σ, hev, he, h1, h2⟩
  have hm := hev.mem
  have hbl : b < σ.length := by rw [hm.len]; exact getElem?_lt hb
  have hcl : c < σ.length := by rw [hm.len]; exact getElem?_lt hc
  have hpb : σ[b]? = some σ[b] := List.getElem?_eq_getElem hbl
  have hpc : σ[c]? = some σ[c] := List.getElem?_eq_getElem hcl
  obtain ⟨j0, j1, j2, j3, j4, j5, j6⟩ := hm.blk b _ _ hb hpb
  obtain ⟨k0, k1, k2, k3, k4, k5, k6⟩ := hm.blk c _ _ hc hpc
  generalize σ[c] = pc at hpc k0 k1 k2 k3 k4 k5 k6
  generalize σ[b] = pb at hpb j0 j1 j2 j3 j4 j5 j6
  obtain ⟨p', hp'⟩ : ∃ p' : Plc, p' = ⟨pc.blk, pc.cap, vb + 1, pc.sz⟩ := ⟨_, rfl⟩
  have hext : ExtP σ (σ.set b p') := by
    intro b' q hq
    rw [List.getElem?_set]
    by_cases hbb : b = b'
    · subst hbb
      obtain rfl : pb = q := by rw [hpb] at hq; injection hq
      rw [if_pos rfl, if_pos hbl]
      exact ⟨p', rfl, by rw [hp']; simp only []; omega, fun h => by rw [hp'] at h; simp only [] at h; omega⟩
    · rw [if_neg hbb]
      exact ⟨q, hq, Nat.le_refl _, fun _ => rfl⟩
  have hbm : b < M.length := getElem?_lt hb
  have key : ∀ {b' : Nat} {y : Blk} {q : Plc}, ((M.set c .dead).set b (.rows t sz (vb + 1) l f))[b']? = some y → (σ.set b p')[b']? = some q → (b' = b ∧ y = .rows t sz (vb + 1) l f ∧ q = p') ∨ (b' ≠ b ∧ y = .dead) ∨ (b' ≠ b ∧ b' ≠ c ∧ M[b']? = some y ∧ σ[b']? = some q) := by
    intro b' y q hy hq
    rw [List.getElem?_set] at hy hq
    by_cases hbb : b = b'
    · subst hbb
      rw [if_pos rfl, if_pos (by simpa using hbm)] at hy
      rw [if_pos rfl, if_pos hbl] at hq
      injection hy with hy; injection hq with hq
      exact .inl ⟨rfl, hy.symm, hq.symm⟩
    · rw [if_neg hbb] at hy hq
      rw [List.getElem?_set] at hy
      by_cases hcc : c = b'
      · subst hcc
        rw [if_pos rfl, if_pos (getElem?_lt hc)] at hy
        injection hy with hy
        exact .inr (.inl ⟨fun e => hbb e.symm, hy.symm⟩)
      · rw [if_neg hcc] at hy
        exact .inr (.inr ⟨fun e => hbb e.symm, fun e => hcc e.symm, hy, hq⟩)
  have hmem : Mem I (σ.set b p') ((M.set c .dead).set b (.rows t sz (vb + 1) l f)) w := by
    refine ⟨by simp [hm.len], fun b' y q hy hq => ?_, fun b1 b2 y1 y2 p1 p2 g h1 h2 l1 l2 q1 q2 e1 e2 => ?_, fun b1 y1 p1 g h1 l1 q1 e1 ad had => ?_, hm.imm⟩
    · rcases key hy hq with ⟨rfl, rfl, rfl⟩ | ⟨_, rfl⟩ | ⟨_, _, h3, h4⟩
      · have := RelB_mono (w' := w) (ExtI.refl I) hext (fun g _ _ => rfl) (hm.blk c _ _ hc hpc)
        obtain ⟨n0, n1, n2, n3, n4, n5, n6⟩ := this
        subst hp'
        exact ⟨n0, n1, rfl, n3, n4, n5, n6⟩
      · trivial
      · exact RelB_mono (ExtI.refl _) hext (fun g _ _ => rfl) (hm.blk b' y q h3 h4)
    · rcases key h1 q1 with ⟨rfl, rfl, rfl⟩ | ⟨_, rfl⟩ | ⟨n1, n2, h3, h4⟩
      · rcases key h2 q2 with ⟨rfl, rfl, rfl⟩ | ⟨_, rfl⟩ | ⟨n3, n4, h5, h6⟩
        · rfl
        · cases l2
        · rw [hp'] at e1
          exact absurd (hm.inj c b2 _ y2 pc p2 g hc h5 rfl l2 hpc h6 e1 e2).symm n4
      · cases l1
      · rcases key h2 q2 with ⟨rfl, rfl, rfl⟩ | ⟨_, rfl⟩ | ⟨n3, n4, h5, h6⟩
        · rw [hp'] at e2
          exact absurd (hm.inj b1 c y1 _ p1 pc g h3 hc l1 rfl h4 hpc e1 e2) n2
        · cases l2
        · exact hm.inj b1 b2 y1 y2 p1 p2 g h3 h5 l1 l2 h4 h6 e1 e2
    · rcases key h1 q1 with ⟨rfl, rfl, rfl⟩ | ⟨_, rfl⟩ | ⟨n1, n2, h3, h4⟩
      · rw [hp'] at e1
        exact hm.ap c _ pc g hc rfl hpc e1 ad had
      · cases l1
      · exact hm.ap b1 y1 p1 g h3 l1 h4 e1 ad had
  have hhas : ∀ g, Has (σ.set b p') ((M.set c .dead).set b (.rows t sz (vb + 1) l f)) g → Has σ M g := by
    rintro g ⟨b1, y1, p1, h1, l1, q1, e1⟩
    rcases key h1 q1 with ⟨rfl, rfl, rfl⟩ | ⟨_, rfl⟩ | ⟨n1, n2, h3, h4⟩
    · rw [hp'] at e1
      exact ⟨c, _, pc, hc, rfl, hpc, e1⟩
    · cases l1
    · exact ⟨b1, y1, p1, h3, l1, h4, e1⟩
  refine ⟨I, σ.set b p', ⟨hev.extI, hev.extP.trans hext, hmem, hev.keep, fun g hg => hev.own g (hhas g hg), hev.fresh⟩, fun j => ?_, h1, h2⟩
  show RelS I _ (if j = i then _ else e j) _
  by_cases hj : j = i
  · subst hj
    rw [if_pos rfl]
    have hr : RelS I σ (e j) _ := he j
    rw [hi] at hr
    obtain ⟨r1, q, hq, hv, hy⟩ := hr
    obtain rfl : pc = q := by rw [hpc] at hq; injection hq
    refine ⟨r1, p', by rw [List.getElem?_set, if_pos rfl, if_pos hbl], by rw [hp']; exact Nat.le_refl _, fun _ => ?_⟩
    obtain ⟨y1, y2, y3⟩ := hy k2
    rw [hp']
    exact ⟨y1, y2, y3⟩
  · rw [if_neg hj]
    exact RelS_mono (ExtI.refl _) hext (he j)
end
section
variable {P : Program} {n m : Nat} {K : Exit → St → Prop} {e : Nat → SV} {M : List Blk}
/-- A code in two parts, between which there is a turn in the telling. -/
theorem run_seqV {a b : C} (h : V P n m a e M (andThen (fun s => Run P n m b s K) K)) : Run P n m (.seq a b) ⟨e, M⟩ K := run_seq (V_sound h)
theorem callPR {f : Nat} {c : C} {rvs : List RV} {ps : List Pt} {r : SV} (hF : Fun P f n c rvs) (hl : ps.length ≤ n) (hps : ∀ q ∈ ps, ltP 0 q) (hr : ltS 0 r) (h : Run P n 0 c ⟨envOf 0 ps, []⟩ (FinP rvs (leS · r))) (M : List Blk) : CallR P M f ps r M := by
  refine callR_pure (callR_intro (M' := []) hF hl (run_mono (fun ex s hs => ?_) h)) hps M
  have key : (match resL s.env s.M rvs with
    | some (qs, c) => c ∧ leS (mkRes qs) r
    | none => False) → Fin n 0 rvs r [] s := by
    intro h
    cases hq : resL s.env s.M rvs with
    | none => rw [hq] at h; exact h.elim
    | some x =>
      obtain ⟨qs, c⟩ := x
      rw [hq] at h
      exact ⟨s, s.M, qs, c, Gh.refl s, hq, h.1, rfl, h.2.sub, Nat.le_refl _, hr, fun x hx => by simp at hx⟩
  cases ex with
  | normal => exact key hs
  | ret => exact key hs
  | _ => exact hs.elim
end
attribute [go_sem] frzS frzP frzA frzB toC
end Go.Proofs.YtioefecijidgkaaAbs
