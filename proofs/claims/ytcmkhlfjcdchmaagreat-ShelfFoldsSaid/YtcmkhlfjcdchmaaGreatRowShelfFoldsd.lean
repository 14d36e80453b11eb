/- Part 4 of the texts on which the row stands: Abs19, AbsStr, AbsExt, AbsBld, AbsBl2, AbsBs, AbsIns, AbsFr, AbsOp, AbsEl, ShA, CdLabel, AbsSort, AbsEq, AbsDel, ShB, ShC. Conditions: none. -/
import Derived.Test.YtcmkhlfjcdchmaaGreatRowShelfFoldsc
import Derived.Laws.RangeAny
import Derived.Sort.Walk0
import Derived.Lib.IndexMore
import Derived.Deep.Draws
import Derived.Laws.Tables
import Derived.Lib.Overlaps
import Derived.OpenShut
import Derived.SizedLaws
import Derived.DataElems
import Derived.ChangeOld
import Derived.Below
import Derived.Carry
import Derived.Test.YtcmkhlfjcdchmaaGreatProg
set_option linter.unusedVariables false
set_option linter.unusedSimpArgs false
section
namespace Go.Proofs.YtcmkhlfjcdchmaaGreatAbs
open Go Go.RowKit
section
variable {P : Program} {n m : Nat} {K : Exit → St → Prop} {e : Nat → SV} {M : List Blk} {c : C}
/-- Another telling of one block, at the same place. -/
theorem Mem.retell {I : Im} {σ : List Plc} {w : World} (hm : Mem I σ M w) {b : Nat} {x x' : Blk} {p : Plc} (hx : M[b]? = some x) (hp : σ[b]? = some p) (hl : x'.live = true → x.live = true) (hr : RelB I σ w p x') : Mem I σ (M.set b x') w ∧ ∀ g, Has σ (M.set b x') g → Has σ M g := by
  have key : ∀ {b' : Nat} {y : Blk}, (M.set b x')[b']? = some y → (b' = b ∧ y = x') ∨ (b' ≠ b ∧ M[b']? = some y) := by
    intro b' y hy
    rw [List.getElem?_set] at hy
    by_cases hb : b = b'
    · subst hb
      rw [if_pos rfl, if_pos (getElem?_lt hx)] at hy
      injection hy with hy
      exact .inl ⟨rfl, hy.symm⟩
    · rw [if_neg hb] at hy
      exact .inr ⟨fun e => hb e.symm, hy⟩
  have back : ∀ {b' : Nat} {y : Blk}, (M.set b x')[b']? = some y → y.live = true → ∃ z, M[b']? = some z ∧ z.live = true := by
    intro b' y hy hlv
    rcases key hy with ⟨rfl, rfl⟩ | ⟨_, h⟩
    · exact ⟨x, hx, hl hlv⟩
    · exact ⟨y, h, hlv⟩
  refine ⟨⟨by simp [hm.len], fun b' y q hy hq => ?_, fun b1 b2 y1 y2 p1 p2 g h1 h2 l1 l2 q1 q2 e1 e2 => ?_, fun b1 y1 p1 g h1 l1 q1 e1 ad had => ?_, hm.imm⟩, ?_⟩
  · rcases key hy with ⟨rfl, rfl⟩ | ⟨_, h⟩
    · obtain rfl : p = q := by rw [hp] at hq; injection hq
      exact hr
    · exact hm.blk b' y q h hq
  · obtain ⟨z1, k1, v1⟩ := back h1 l1
    obtain ⟨z2, k2, v2⟩ := back h2 l2
    exact hm.inj b1 b2 z1 z2 p1 p2 g k1 k2 v1 v2 q1 q2 e1 e2
  · obtain ⟨z1, k1, v1⟩ := back h1 l1
    exact hm.ap b1 z1 p1 g k1 v1 q1 e1 ad had
  · rintro g ⟨b1, y1, p1, h1, l1, q1, e1⟩
    obtain ⟨z1, k1, v1⟩ := back h1 l1
    exact ⟨b1, z1, p1, k1, v1, q1, e1⟩
theorem Evo.retell {I0 I : Im} {σ0 σ : List Plc} {M0 : List Blk} {w0 w : World} (h : Evo I0 σ0 M0 w0 I σ M w) {M' : List Blk} (hm : Mem I σ M' w) (hh : ∀ g, Has σ M' g → Has σ M g) : Evo I0 σ0 M0 w0 I σ M' w := ⟨h.extI, h.extP, hm, h.keep, fun g hg => h.own g (hh g hg), h.fresh⟩
/-- Rows of plain values, each as long as an element. -/
def plainRows (sz : Nat) (l : List (List AV)) : Prop := ∀ r ∈ l, r.length = sz ∧ ∀ a ∈ r, ∃ x, a = .c (.v x)
theorem run_open {b t sz ver : Nat} {l : List (List AV)} {f : Bool} (hM : M[b]? = some (.rows t sz ver l f)) (h : ∀ l', plainRows sz l' → l.length + l'.length ≤ maxLen → Run P n m c ⟨e, M.set b (.rows t sz ver (l ++ l') true)⟩ K) : Run P n m c ⟨e, M⟩ K := by
  intro code hc I0 σ0 M0 w0 a w hm0 hs
  obtain ⟨I, σ, hev, he, h1, h2⟩ := hs
  have hm := hev.mem
  have hbl : b < σ.length := by rw [hm.len]; exact getElem?_lt hM
  obtain ⟨k0, k1, k2, k3, k4, k5, k6⟩ := hm.blk b _ _ hM (List.getElem?_eq_getElem hbl)
  generalize hp : σ[b] = p at k0 k1 k2 k3 k4 k5 k6
  have hp : σ[b]? = some p := by rw [List.getElem?_eq_getElem hbl, hp]
  obtain ⟨l', hl1, hl2, hrel⟩ : ∃ l', plainRows sz l' ∧ l.length + l'.length = p.cap ∧ RelB I σ w p (.rows t sz ver (l ++ l') true) := by
    cases hb : p.blk with
    | none =>
      rw [hb] at k6
      have k6 : p.cap = 0 := k6
      refine ⟨[], fun r hr => by simp at hr, by simp; omega, ?_⟩
      refine ⟨fun _ => by simp; omega, k1, k2, by simpa using k3, k4, by simpa using k5, ?_⟩
      rw [hb]; exact k6
    | some g =>
      rw [hb] at k6
      obtain ⟨cs, hh, hs, ho, hcs⟩ := k6
      have hin : ∀ i j, i < p.cap - l.length → j < sz → (l.length + i) * sz + j < cs.size := by
        intro i j hi hj
        have h3 : (l.length + i + 1) * sz ≤ p.cap * sz := Nat.mul_le_mul_right _ (by omega)
        rw [Nat.add_mul, Nat.one_mul] at h3
        omega
      refine ⟨(List.range (p.cap - l.length)).map fun i => (List.range sz).map fun j => .c (.v (cs.getD ((l.length + i) * sz + j) undef)), fun r hr => ?_, by simp; omega, ?_⟩
      · obtain ⟨i, hi, rfl⟩ := List.mem_map.1 hr
        refine ⟨by simp, fun a ha => ?_⟩
        obtain ⟨j, _, rfl⟩ := List.mem_map.1 ha
        exact ⟨_, rfl⟩
      · refine ⟨fun _ => by simp; omega, k1, k2, by simp; omega, k4, fun i r hr => ?_, ?_⟩
        · by_cases hi : i < l.length
          · rw [List.getElem?_append_left hi] at hr; exact k5 i r hr
          · rw [List.getElem?_append_right (by omega), List.getElem?_map, Option.map_eq_some_iff] at hr
            obtain ⟨_, _, rfl⟩ := hr
            simp
        · rw [hb]
          refine ⟨cs, hh, hs, ho, fun i r hr j u hu => ?_⟩
          by_cases hi : i < l.length
          · rw [List.getElem?_append_left hi] at hr; exact hcs i r hr j u hu
          · rw [List.getElem?_append_right (by omega), List.getElem?_map, Option.map_eq_some_iff] at hr
            obtain ⟨i', hi', rfl⟩ := hr
            have hlt := getElem?_lt hi'
            rw [List.length_range] at hlt
            rw [List.getElem?_range hlt] at hi'
            injection hi' with hi'
            subst hi'
            rw [List.getElem?_map, Option.map_eq_some_iff] at hu
            obtain ⟨j', hj', rfl⟩ := hu
            have hlj := getElem?_lt hj'
            rw [List.length_range] at hlj
            rw [List.getElem?_range hlj] at hj'
            injection hj' with hj'
            subst hj'
            have hb2 := hin _ _ hlt hlj
            have e1 : l.length + (i - l.length) = i := by omega
            rw [e1] at hb2 ⊢
            have e2 : cs[i * sz + j]? = some (cs.getD (i * sz + j) undef) := by
              rw [Array.getD_eq_getD_getElem?, Array.getElem?_eq_getElem hb2]
              rfl
            exact ⟨_, e2, rfl, ho _ _ e2⟩
  obtain ⟨m1, m2⟩ := hm.retell hM hp (x' := .rows t sz ver (l ++ l') true) (fun _ => rfl) hrel
  exact h l' hl1 (by omega) code hc I0 σ0 M0 w0 a w hm0 ⟨I, σ, hev.retell m1 m2, he, h1, h2⟩
theorem gh_trunc {b t sz ver : Nat} {l : List (List AV)} {f : Bool} (k : Nat) (hM : M[b]? = some (.rows t sz ver l f)) : Gh n m ⟨e, M⟩ ⟨e, M.set b (.rows t sz ver (l.take k) false)⟩ := by
  rintro I0 σ0 M0 w0 a w hm0 ⟨I, σ, hev, he, h1, h2⟩
  have hm := hev.mem
  have hbl : b < σ.length := by rw [hm.len]; exact getElem?_lt hM
  have hp : σ[b]? = some σ[b] := List.getElem?_eq_getElem hbl
  obtain ⟨k0, k1, k2, k3, k4, k5, k6⟩ := hm.blk b _ _ hM hp
  have hget : ∀ {i : Nat} {r : List AV}, (l.take k)[i]? = some r → l[i]? = some r := by
    intro i r h
    rw [List.getElem?_take] at h
    split at h
    · exact h
    · cases h
  obtain ⟨m1, m2⟩ := hm.retell hM hp (x' := .rows t sz ver (l.take k) false) (fun _ => rfl) ⟨fun h => (by cases h), k1, k2, by rw [List.length_take]; omega, k4, fun i r hr => k5 i r (hget hr), by
    cases hb : σ[b].blk with
    | none => rw [hb] at k6; exact k6
    | some g =>
      rw [hb] at k6
      obtain ⟨cs, hh, hs, ho, hcs⟩ := k6
      exact ⟨cs, hh, hs, ho, fun i r hr j u hu => hcs i r (hget hr) j u hu⟩⟩
  exact ⟨I, σ, hev.retell m1 m2, he, h1, h2⟩
/-- The row c is from now on the row b; what b was is forgotten. -/
theorem gh_move {b c t sz vc t0 sz0 vb : Nat} {l l0 : List (List AV)} {f f0 : Bool} (i off len : Nat) (hb : M[b]? = some (.rows t0 sz0 vb l0 f0)) (hc : M[c]? = some (.rows t sz vc l f)) (hi : e i = .p (.one (.arr sz c vc off len))) :
    Gh n m ⟨e, M⟩ ⟨upd e i (.p (.one (.arr sz b (vb + 1) off len))), (M.set c .dead).set b (.rows t sz (vb + 1) l f)⟩ := by
  rintro I0 σ0 M0 w0 a w hm0 ⟨I, σ, hev, he, h1, h2⟩
  have hm := hev.mem
  have hbl : b < σ.length := by rw [hm.len]; exact getElem?_lt hb
  have hcl : c < σ.length := by rw [hm.len]; exact getElem?_lt hc
  have hpb : σ[b]? = some σ[b] := List.getElem?_eq_getElem hbl
  have hpc : σ[c]? = some σ[c] := List.getElem?_eq_getElem hcl
  obtain ⟨j0, j1, j2, j3, j4, j5, j6⟩ := hm.blk b _ _ hb hpb
  obtain ⟨k0, k1, k2, k3, k4, k5, k6⟩ := hm.blk c _ _ hc hpc
  generalize σ[c] = pc at hpc k0 k1 k2 k3 k4 k5 k6
  generalize σ[b] = pb at hpb j0 j1 j2 j3 j4 j5 j6
  obtain ⟨p', hp'⟩ : ∃ p' : Plc, p' = ⟨pc.blk, pc.cap, vb + 1, pc.sz⟩ := ⟨_, rfl⟩
  have hext : ExtP σ (σ.set b p') := by
    intro b' q hq
    rw [List.getElem?_set]
    by_cases hbb : b = b'
    · subst hbb
      obtain rfl : pb = q := by rw [hpb] at hq; injection hq
      rw [if_pos rfl, if_pos hbl]
      exact ⟨p', rfl, by rw [hp']; simp only []; omega, fun h => by rw [hp'] at h; simp only [] at h; omega⟩
    · rw [if_neg hbb]
      exact ⟨q, hq, Nat.le_refl _, fun _ => rfl⟩
  have hbm : b < M.length := getElem?_lt hb
  have key : ∀ {b' : Nat} {y : Blk} {q : Plc}, ((M.set c .dead).set b (.rows t sz (vb + 1) l f))[b']? = some y → (σ.set b p')[b']? = some q → (b' = b ∧ y = .rows t sz (vb + 1) l f ∧ q = p') ∨ (b' ≠ b ∧ y = .dead) ∨ (b' ≠ b ∧ b' ≠ c ∧ M[b']? = some y ∧ σ[b']? = some q) := by
    intro b' y q hy hq
    rw [List.getElem?_set] at hy hq
    by_cases hbb : b = b'
    · subst hbb
      rw [if_pos rfl, if_pos (by simpa using hbm)] at hy
      rw [if_pos rfl, if_pos hbl] at hq
      injection hy with hy; injection hq with hq
      exact .inl ⟨rfl, hy.symm, hq.symm⟩
    · rw [if_neg hbb] at hy hq
      rw [List.getElem?_set] at hy
      by_cases hcc : c = b'
      · subst hcc
        rw [if_pos rfl, if_pos (getElem?_lt hc)] at hy
        injection hy with hy
        exact .inr (.inl ⟨fun e => hbb e.symm, hy.symm⟩)
      · rw [if_neg hcc] at hy
        exact .inr (.inr ⟨fun e => hbb e.symm, fun e => hcc e.symm, hy, hq⟩)
  have hmem : Mem I (σ.set b p') ((M.set c .dead).set b (.rows t sz (vb + 1) l f)) w := by
    refine ⟨by simp [hm.len], fun b' y q hy hq => ?_, fun b1 b2 y1 y2 p1 p2 g h1 h2 l1 l2 q1 q2 e1 e2 => ?_, fun b1 y1 p1 g h1 l1 q1 e1 ad had => ?_, hm.imm⟩
    · rcases key hy hq with ⟨rfl, rfl, rfl⟩ | ⟨_, rfl⟩ | ⟨_, _, h3, h4⟩
      · have := RelB_mono (w' := w) (ExtI.refl I) hext (fun g _ _ => rfl) (hm.blk c _ _ hc hpc)
        obtain ⟨n0, n1, n2, n3, n4, n5, n6⟩ := this
        subst hp'
        exact ⟨n0, n1, rfl, n3, n4, n5, n6⟩
      · trivial
      · exact RelB_mono (ExtI.refl _) hext (fun g _ _ => rfl) (hm.blk b' y q h3 h4)
    · rcases key h1 q1 with ⟨rfl, rfl, rfl⟩ | ⟨_, rfl⟩ | ⟨n1, n2, h3, h4⟩
      · rcases key h2 q2 with ⟨rfl, rfl, rfl⟩ | ⟨_, rfl⟩ | ⟨n3, n4, h5, h6⟩
        · rfl
        · cases l2
        · rw [hp'] at e1
          exact absurd (hm.inj c b2 _ y2 pc p2 g hc h5 rfl l2 hpc h6 e1 e2).symm n4
      · cases l1
      · rcases key h2 q2 with ⟨rfl, rfl, rfl⟩ | ⟨_, rfl⟩ | ⟨n3, n4, h5, h6⟩
        · rw [hp'] at e2
          exact absurd (hm.inj b1 c y1 _ p1 pc g h3 hc l1 rfl h4 hpc e1 e2) n2
        · cases l2
        · exact hm.inj b1 b2 y1 y2 p1 p2 g h3 h5 l1 l2 h4 h6 e1 e2
    · rcases key h1 q1 with ⟨rfl, rfl, rfl⟩ | ⟨_, rfl⟩ | ⟨n1, n2, h3, h4⟩
      · rw [hp'] at e1
        exact hm.ap c _ pc g hc rfl hpc e1 ad had
      · cases l1
      · exact hm.ap b1 y1 p1 g h3 l1 h4 e1 ad had
  have hhas : ∀ g, Has (σ.set b p') ((M.set c .dead).set b (.rows t sz (vb + 1) l f)) g → Has σ M g := by
    rintro g ⟨b1, y1, p1, h1, l1, q1, e1⟩
    rcases key h1 q1 with ⟨rfl, rfl, rfl⟩ | ⟨_, rfl⟩ | ⟨n1, n2, h3, h4⟩
    · rw [hp'] at e1
      exact ⟨c, _, pc, hc, rfl, hpc, e1⟩
    · cases l1
    · exact ⟨b1, y1, p1, h3, l1, h4, e1⟩
  refine ⟨I, σ.set b p', ⟨hev.extI, hev.extP.trans hext, hmem, hev.keep, fun g hg => hev.own g (hhas g hg), hev.fresh⟩, fun j => ?_, h1, h2⟩
  show RelS I _ (if j = i then _ else e j) _
  by_cases hj : j = i
  · subst hj
    rw [if_pos rfl]
    have hr : RelS I σ (e j) _ := he j
    rw [hi] at hr
    obtain ⟨r1, q, hq, hv, hy⟩ := hr
    obtain rfl : pc = q := by rw [hpc] at hq; injection hq
    refine ⟨r1, p', by rw [List.getElem?_set, if_pos rfl, if_pos hbl], by rw [hp']; exact Nat.le_refl _, fun _ => ?_⟩
    obtain ⟨y1, y2, y3⟩ := hy k2
    rw [hp']
    exact ⟨y1, y2, y3⟩
  · rw [if_neg hj]
    exact RelS_mono (ExtI.refl _) hext (he j)
end
section
variable {P : Program} {n m : Nat} {K : Exit → St → Prop} {e : Nat → SV} {M : List Blk}
/-- A code in two parts, between which there is a turn in the telling. -/
theorem run_seqV {a b : C} (h : V P n m a e M (andThen (fun s => Run P n m b s K) K)) : Run P n m (.seq a b) ⟨e, M⟩ K := run_seq (V_sound h)
theorem callPR {f : Nat} {c : C} {rvs : List RV} {ps : List Pt} {r : SV} (hF : Fun P f n c rvs) (hl : ps.length ≤ n) (hps : ∀ q ∈ ps, ltP 0 q) (hr : ltS 0 r) (h : Run P n 0 c ⟨envOf 0 ps, []⟩ (FinP rvs (leS · r))) (M : List Blk) : CallR P M f ps r M := by
  refine callR_pure (callR_intro (M' := []) hF hl (run_mono (fun ex s hs => ?_) h)) hps M
  have key : (match resL s.env s.M rvs with
    | some (qs, c) => c ∧ leS (mkRes qs) r
    | none => False) → Fin n 0 rvs r [] s := by
    intro h
    cases hq : resL s.env s.M rvs with
    | none => rw [hq] at h; exact h.elim
    | some x =>
      obtain ⟨qs, c⟩ := x
      rw [hq] at h
      exact ⟨s, s.M, qs, c, Gh.refl s, hq, h.1, rfl, h.2.sub, Nat.le_refl _, hr, fun x hx => by simp at hx⟩
  cases ex with
  | normal => exact key hs
  | ret => exact key hs
  | _ => exact hs.elim
end
attribute [go_sem] frzS frzP frzA frzB toC
end Go.Proofs.YtcmkhlfjcdchmaaGreatAbs
end
section
namespace Go.Proofs.YtcmkhlfjcdchmaaGreatAbs
open Go Go.RowKit
def bs (s : ByteArray) : List UInt8 := s.data.toList
@[go_sem] theorem bs_fold (s : ByteArray) : s.data.toList = bs s := rfl
abbrev mkS (l : List UInt8) : ByteArray := ⟨l.toArray⟩
theorem bs_len (s : ByteArray) : (bs s).length = s.size := Array.length_toList
theorem bs_inj {s t : ByteArray} (h : bs s = bs t) : s = t := by
  cases s; cases t
  simp only [bs, Array.toList_inj] at h
  rw [h]
theorem bs_mk (l : List UInt8) : bs (mkS l) = l := rfl
theorem mk_bs (s : ByteArray) : mkS (bs s) = s := bs_inj rfl
theorem bs_append (s t : ByteArray) : bs (s ++ t) = bs s ++ bs t := by simp [bs]
theorem mk_append (l m : List UInt8) : mkS l ++ mkS m = mkS (l ++ m) := bs_inj (by rw [bs_append, bs_mk, bs_mk, bs_mk])
theorem bs_extract (s : ByteArray) (i j : Nat) : bs (s.extract i j) = ((bs s).drop i).take (j - i) := by
  simp [bs, ByteArray.data_extract]
theorem mk_size (l : List UInt8) : (mkS l).size = l.length := by simp [mkS, ByteArray.size]
theorem eq_mk {s : ByteArray} {l : List UInt8} : s = mkS l ↔ bs s = l := ⟨fun h => by rw [h, bs_mk], fun h => bs_inj h⟩
@[go_sem] theorem beqS (s t : ByteArray) : (s.toList == t.toList) = decide (s = t) := by
  rw [ByteArray.toList_eq, ByteArray.toList_eq]
  by_cases h : s = t
  · simp [h]
  · simp only [h, decide_false, beq_eq_false_iff_ne, ne_eq]
    exact fun e => h (bs_inj e)
def sLt (s t : ByteArray) : Bool := decide (bs s < bs t)
@[go_sem] theorem lssS (s t : ByteArray) : Op.bytesLess s.toList t.toList = sLt s t := by
  rw [ByteArray.toList_eq, ByteArray.toList_eq]
  exact bytesLess_eq _ _
theorem sLt_irrefl (s : ByteArray) : sLt s s = false := by simp [sLt, List.lt_irrefl]
theorem sLt_trans {a b c : ByteArray} (h : sLt a b = true) (k : sLt b c = true) : sLt a c = true := by
  simp only [sLt, decide_eq_true_eq] at *
  exact List.lt_trans h k
theorem sLt_asymm {a b : ByteArray} (h : sLt a b = true) : sLt b a = false := by
  cases k : sLt b a with
  | false => rfl
  | true => have := sLt_trans h k; rw [sLt_irrefl] at this; cases this
theorem sLt_total {a b : ByteArray} (h : sLt a b = false) (k : sLt b a = false) : a = b := by
  simp only [sLt, decide_eq_false_iff_not] at h k
  exact bs_inj (List.le_antisymm (List.not_lt.1 k) (List.not_lt.1 h))
theorem sLt_ne {a b : ByteArray} (h : sLt a b = true) : a ≠ b := fun e => by rw [e, sLt_irrefl] at h; cases h
/-- The byte at a place. -/
theorem bs_get {s : ByteArray} {k : Nat} (h : k < s.size) : s[k] = (bs s).getD k 0 := by
  have h2 : k < (bs s).length := by rw [bs_len]; exact h
  rw [List.getD_eq_getElem?_getD, List.getElem?_eq_getElem h2]
  rfl
theorem dec_ascii {s : ByteArray} {k : Nat} (h : k < s.size) (ha : ((bs s).getD k 0).toNat < 128) : Utf8.decode s k = (((bs s).getD k 0).toNat, 1) := by
  have := decode_ascii s k h (by rw [bs_get h]; exact ha)
  rw [bs_get h] at this
  exact this
theorem dec_high {s : ByteArray} {k : Nat} (h : k < s.size) (ha : 128 ≤ ((bs s).getD k 0).toNat) : 128 ≤ (Utf8.decode s k).1 ∧ 1 ≤ (Utf8.decode s k).2 := decode_high s k h (by rw [bs_get h]; exact ha)
theorem all_true {α : Type} {l : List α} {d : α} {p : α → Bool} (h : ∀ j, j < l.length → p (l.getD j d) = true) : l.all p = true := by
  rw [List.all_eq_true]
  intro x hx
  obtain ⟨j, hj, rfl⟩ := List.mem_iff_getElem.1 hx
  have := h j hj
  rwa [List.getD_eq_getElem?_getD, List.getElem?_eq_getElem hj] at this
theorem all_false {α : Type} {l : List α} {d : α} {p : α → Bool} {k : Nat} (hk : k < l.length) (h : p (l.getD k d) = false) : l.all p = false := by
  rw [List.all_eq_false]
  refine ⟨l[k], List.getElem_mem hk, ?_⟩
  rw [List.getD_eq_getElem?_getD, List.getElem?_eq_getElem hk] at h
  simpa using h
theorem getD_get {α : Type} {l : List α} {i : Nat} {d : α} (h : i < l.length) : l.getD i d = l[i] := by simp [List.getD_eq_getElem?_getD, h]
theorem getD_out {α : Type} {l : List α} {i : Nat} {d : α} (h : l.length ≤ i) : l.getD i d = d := by simp [List.getD_eq_getElem?_getD, h]
theorem getD_mem {α : Type} {l : List α} {i : Nat} (d : α) (h : i < l.length) : l.getD i d ∈ l := by rw [getD_get h]; exact List.getElem_mem h
theorem mem_getD {α : Type} {l : List α} {d x : α} : x ∈ l ↔ ∃ i, i < l.length ∧ l.getD i d = x := by
  rw [List.mem_iff_getElem]
  exact ⟨fun ⟨i, h, e⟩ => ⟨i, h, by rw [getD_get h]; exact e⟩, fun ⟨i, h, e⟩ => ⟨i, h, by rw [getD_get h] at e; exact e⟩⟩
theorem take_succ_getD {α : Type} {l : List α} {k : Nat} (d : α) (h : k < l.length) : l.take (k + 1) = l.take k ++ [l.getD k d] := by
  rw [List.take_add_one, List.getElem?_eq_getElem h, getD_get h]; rfl
theorem drop_getD {α : Type} {l : List α} {k : Nat} (d : α) (h : k < l.length) : l.drop k = l.getD k d :: l.drop (k + 1) := by
  rw [List.drop_eq_getElem_cons h, getD_get h]
end Go.Proofs.YtcmkhlfjcdchmaaGreatAbs
end
section
namespace Go.Proofs.YtcmkhlfjcdchmaaGreatAbs
open Go Go.RowKit
theorem Mem.sameHeap {I : Im} {σ : List Plc} {M : List Blk} {w w' : World} (h : Mem I σ M w) (he : w'.heap = w.heap) : Mem I σ M w' :=
  ⟨h.len, fun b x p hx hp => RelB_mono (ExtI.refl _) (ExtP.refl _) (fun g _ _ => by rw [he]) (h.blk b x p hx hp), h.inj, h.ap, fun a x hI => (cell_same (by rw [he])).trans (h.imm a x hI)⟩
theorem Evo.drewN {I : Im} {σ : List Plc} {M : List Blk} {w : World} (h : Mem I σ M w) (n : Nat) : Evo I σ M w I σ M (w.drewN n) :=
  ⟨ExtI.refl _, ExtP.refl _, h.sameHeap rfl, ⟨rfl, rfl, rfl, Nat.le_refl _, fun _ _ _ => rfl⟩, fun g hg => .inl hg, fun a x hx => .inl hx⟩
theorem enters_fun {P : Program} {f : Nat} {fn : Func} (h : P.funcs[f]? = some fn) (h1 : (fn.name == "runtime.NumGoroutine") = false) (h2 : fn.body.isSome = true) : Enters P f := ⟨fn, h, h1, h2⟩
def plainPs (xs : List Value) : List Pt := xs.map fun x => .one (.c (.v x))
theorem vals_of {I : Im} {σ : List Plc} {xs : List Value} {vals : Array Value} (hl : vals.size = (plainPs xs).length) (hr : ∀ (k : Nat) (q : Pt) (x : Value), (plainPs xs)[k]? = some q → vals[k]? = some x → RelP I σ q x) : vals = xs.toArray := by
  apply Array.ext
  · simpa [plainPs] using hl
  · intro i h1 h2
    have h3 : i < xs.length := by simpa using h2
    have := hr i (.one (.c (.v xs[i]))) vals[i] (by simp [plainPs, h3]) (Array.getElem?_eq_getElem h1)
    obtain ⟨h4, _⟩ := this
    simpa using h4
/-- The world is as it was, but for the count of draws. -/
theorem callR_lib {P : Program} {f : Nat} {xs : List Value} {r : SV} {v : Value} (hE : Enters P f) (hv : ∀ (I : Im) (σ : List Plc), RelS I σ r v)
    (h : ∀ (I : Im) (w : World), GI P I → (∀ a x, I a = some x → w.cell? a = some x) → Calls P f xs.toArray w fun e w' => e = .returned v ∧ ∃ n, w' = w.drewN n) (M : List Blk) : CallR P M f (plainPs xs) r M := by
  intro I σ w vals hG hm hvl hvr
  obtain rfl := vals_of hvl hvr
  refine .inl ⟨hE, (h I w hG hm.imm).mono ?_⟩
  rintro e w' ⟨rfl, n, rfl⟩
  exact ⟨v, rfl, I, σ, hv I σ, Evo.drewN hm n⟩
end Go.Proofs.YtcmkhlfjcdchmaaGreatAbs
end
section
namespace Go.Proofs.YtcmkhlfjcdchmaaGreatAbs
open Go Go.RowKit
theorem evo_set1 {I : Im} {σ : List Plc} {M : List Blk} {w : World} (hm : Mem I σ M w) {b tb sz' ver' i j : Nat} {l : List (List AV)} {row : List AV} {fb : Bool} (hMb : M[b]? = some (.rows tb sz' ver' l fb)) (hrow : l[i]? = some row) (hj1 : j < sz')
    {p : Plc} {g : Nat} (hp : σ[b]? = some p) (hg : p.blk = some g) {x : AV} {v : Value} (hx : RelA I σ x v) : Evo I σ M w I σ (M.set b (.rows tb sz' ver' (l.set i (fillL row j [x])) fb)) (w.setCell ⟨g, i * sz' + j, none⟩ v) := by
  obtain ⟨p', hp', m1, m2, m3, m4, m5, m6⟩ := mem_rows hm hMb
  obtain rfl : p = p' := by rw [hp] at hp'; injection hp'
  have hi : i < l.length := getElem?_lt hrow
  rw [hg] at m6
  obtain ⟨cs, hh, hs, m7, hcs⟩ := m6
  have hrs : row.length = sz' := m5 i row hrow
  have hle : (i + 1) * sz' ≤ p.cap * sz' := Nat.mul_le_mul_right _ (by omega)
  have hin : i * sz' + j + 1 ≤ cs.size := by rw [hs]; rw [Nat.add_mul] at hle; omega
  obtain ⟨vs, hvs'⟩ : ∃ vs, vs = [v] := ⟨_, rfl⟩
  have hrel : RelL I σ [x] vs := by
    rw [hvs']
    refine ⟨rfl, fun k u y hk hy => ?_⟩
    rcases k with _ | k
    · cases hk; cases hy; exact hx
    · cases hk
  have hvl' : vs.length = 1 := by rw [hvs']; rfl
  have hqs : [x].length = 1 := rfl
  obtain ⟨sz, hszz⟩ : ∃ sz, sz = 1 := ⟨_, rfl⟩
  have hj : j + sz ≤ row.length := by omega
  rw [setCell_eq_setRow _ _ _ _ _ _ _ hh]
  obtain ⟨cs', hcs'⟩ : ∃ cs', cs' = cs.setIfInBounds (i * sz' + j) v := ⟨_, rfl⟩
  rw [← hcs']
  have hget : ∀ k, cs'[k]? = if i * sz' + j ≤ k ∧ k < i * sz' + j + sz then vs[k - (i * sz' + j)]? else cs[k]? := by
    intro k
    rw [hcs', Array.getElem?_setIfInBounds, hvs', hszz]
    by_cases h1 : i * sz' + j = k
    · subst h1
      rw [if_pos rfl, if_pos (by omega), if_pos (by omega), Nat.sub_self]
      rfl
    · rw [if_neg h1, if_neg (by omega)]
  have hsz : cs'.size = cs.size := by rw [hcs', Array.size_setIfInBounds]
  have hvl' : vs.length = sz := by rw [hvl', hszz]
  have hone : ∀ v ∈ vs, one1 v = true := by
    intro u hu
    rw [hvs'] at hu
    obtain rfl := List.mem_singleton.1 hu
    exact RelA_one hx
  refine ⟨ExtI.refl _, ExtP.refl _, ⟨by simp [hm.len], ?_, ?_, ?_, ?_⟩, Keep.setRow _ _ _ _ ⟨b, _, p, hMb, rfl, hp, hg⟩, fun g' hg' => ?_, fun ad x hx => .inl hx⟩
  · intro b' y' p' hy' hp'
    rw [List.getElem?_set] at hy'
    by_cases hb : b = b'
    · subst hb
      rw [if_pos rfl, if_pos (getElem?_lt hMb)] at hy'
      injection hy' with hy'
      subst hy'
      obtain rfl : p = p' := by rw [hp] at hp'; injection hp'
      refine ⟨fun hf => by rw [List.length_set]; exact (hm.blk b _ _ hMb hp).1 hf, m1, m2, by simpa using m3, m4, ?_, ?_⟩
      · intro i' r' hr'
        rw [List.getElem?_set] at hr'
        by_cases hii : i = i'
        · subst hii
          rw [if_pos rfl, if_pos hi] at hr'
          injection hr' with hr'
          subst hr'
          rw [fillL_length]
          exact hrs
        · rw [if_neg hii] at hr'
          exact m5 i' r' hr'
      · rw [hg]
        refine ⟨cs', setRow_heap w g cs cs' tb _ hh, by rw [hsz, hs], fun k x hk => ?_, ?_⟩
        · rw [hget] at hk
          split at hk
          · exact hone x (List.mem_of_getElem? hk)
          · exact mem_one hm hMb hp hg hh k x hk
        intro i' r' hr' j' u hu
        have hother : ∀ i'' r'', l[i'']? = some r'' → i'' ≠ i → j' < r''.length → cs'[i'' * sz' + j']? = cs[i'' * sz' + j']? := by
          intro i'' r'' hr'' hne hj'
          have hr2 := m5 i'' r'' hr''
          rw [hget, if_neg]
          rintro ⟨h1, h2⟩
          rcases Nat.lt_or_gt_of_ne hne with hlt | hgt
          · have : (i'' + 1) * sz' ≤ i * sz' := Nat.mul_le_mul_right _ hlt
            rw [Nat.add_mul] at this
            omega
          · have : (i + 1) * sz' ≤ i'' * sz' := Nat.mul_le_mul_right _ hgt
            rw [Nat.add_mul] at this
            omega
        rw [List.getElem?_set] at hr'
        by_cases hii : i = i'
        · subst hii
          rw [if_pos rfl, if_pos hi] at hr'
          injection hr' with hr'
          subst hr'
          rw [fillL_get _ _ _ _ (by omega)] at hu
          rw [hget]
          by_cases h1 : j ≤ j' ∧ j' < j + [x].length
          · rw [if_pos h1] at hu
            rw [if_pos (by omega), show i * sz' + j' - (i * sz' + j) = j' - j by omega]
            have hk : j' - j < vs.length := by omega
            exact ⟨vs[j' - j], List.getElem?_eq_getElem hk, hrel.2 (j' - j) u _ hu (List.getElem?_eq_getElem hk)⟩
          · rw [if_neg h1] at hu
            rw [if_neg (by omega)]
            exact hcs i row hrow j' u hu
        · rw [if_neg hii] at hr'
          rw [hother i' r' hr' (fun e => hii e.symm) (getElem?_lt hu)]
          exact hcs i' r' hr' j' u hu
    · rw [if_neg hb] at hy'
      refine RelB_mono (ExtI.refl _) (ExtP.refl _) (fun g' hl' hg' => setRow_other w g g' cs' (fun e => ?_)) (hm.blk b' y' p' hy' hp')
      subst e
      exact hb (hm.inj b b' _ y' p p' g' hMb hy' rfl hl' hp hp' hg hg')
  · intro b1 b2 y1 y2 p1 p2 g' h1 h2 l1 l2 q1 q2 e1 e2
    have back : ∀ {b0 : Nat} {y0 : Blk}, (M.set b (.rows tb sz' ver' (l.set i (fillL row j [x])) fb))[b0]? = some y0 → y0.live = true → ∃ z : Blk, M[b0]? = some z ∧ z.live = true := by
      intro b0 y0 h0 l0
      rw [List.getElem?_set] at h0
      by_cases hb : b = b0
      · subst hb; exact ⟨_, hMb, rfl⟩
      · rw [if_neg hb] at h0; exact ⟨_, h0, l0⟩
    obtain ⟨z1, k1, k1'⟩ := back h1 l1
    obtain ⟨z2, k2, k2'⟩ := back h2 l2
    exact hm.inj b1 b2 z1 z2 p1 p2 g' k1 k2 k1' k2' q1 q2 e1 e2
  · intro b0 y0 p0 g0 h0 l0 q0 e0 ad had
    rw [List.getElem?_set] at h0
    by_cases hb : b = b0
    · subst hb; exact hm.ap b _ p0 g0 hMb rfl q0 e0 ad had
    · rw [if_neg hb] at h0; exact hm.ap b0 y0 p0 g0 h0 l0 q0 e0 ad had
  · intro ad v hI
    refine (cell_same (setRow_other w g ad.block cs' (fun e => ?_))).trans (hm.imm ad v hI)
    have := hm.ap b _ p g hMb rfl hp hg ad e
    rw [this] at hI
    cases hI
  · obtain ⟨b0, y0, p0, h0, l0, q0, e0⟩ := hg'
    rw [List.getElem?_set] at h0
    by_cases hb : b = b0
    · subst hb; exact .inl ⟨b, _, p0, hMb, rfl, q0, e0⟩
    · rw [if_neg hb] at h0; exact .inl ⟨b0, y0, p0, h0, l0, q0, e0⟩
theorem setRow_self {w : World} {g : Nat} {cs : Array Value} {t : TypeId} {fr : Nat × Nat} (h : w.heap[g]? = some (.cells cs t fr)) : w.setRow g cs = w := by
  have e : (w.setRow g cs).heap = w.heap := by
    apply Array.ext_getElem?
    intro k
    by_cases hk : k = g
    · subst hk
      rw [setRow_heap w k cs cs t fr h, h]
    · exact setRow_other w g k cs hk
  show ({ w with heap := (w.setRow g cs).heap } : World) = w
  rw [e]
/-- A cell that holds the nil slice comes to hold a row of its own. -/
theorem evo_born_cell {I : Im} {σ : List Plc} {M : List Blk} {w : World} (hm : Mem I σ M w) {b tb sz' ver' i j : Nat} {l : List (List AV)} {row : List AV} {fb : Bool} (hMb : M[b]? = some (.rows tb sz' ver' l fb)) (hrow : l[i]? = some row) (hj : row[j]? = some (.c (.v (.slice none 0 0)))) (t sz : Nat) :
    Evo I σ M w I (σ ++ [⟨none, 0, 0, sz⟩]) (M.set b (.rows tb sz' ver' (l.set i (fillL row j [.arr sz M.length 0 0 0])) fb) ++ [.rows t sz 0 [] true]) w := by
  have hl : σ.length = M.length := hm.len
  have h0 : Evo I σ M w I (σ ++ [⟨none, 0, 0, sz⟩]) (M ++ [.rows t sz 0 [] true]) w := ⟨ExtI.refl _, ExtP.append σ [⟨none, 0, 0, sz⟩], hm.born t sz, Keep.refl _ _, fun g hg => .inl (Has.born hl hg), fun _ _ h => .inl h⟩
  refine h0.trans ?_
  have hbl : b < M.length := getElem?_lt hMb
  have hMb' : (M ++ [Blk.rows t sz 0 [] true])[b]? = some (.rows tb sz' ver' l fb) := by rw [List.getElem?_append_left hbl]; exact hMb
  obtain ⟨p, hp, m1, m2, m3, m4, m5, m6⟩ := mem_rows h0.mem hMb'
  have hi : i < l.length := getElem?_lt hrow
  have hjs : j < sz' := by rw [← m5 i row hrow]; exact getElem?_lt hj
  obtain ⟨g, hg⟩ : ∃ g, p.blk = some g := by
    cases e : p.blk with
    | none => rw [e] at m6; simp only at m6; omega
    | some g => exact ⟨g, rfl⟩
  rw [hg] at m6
  obtain ⟨cs, hh, hs, m7, hcs⟩ := m6
  obtain ⟨x, hx, hxr⟩ := hcs i row hrow j _ hj
  obtain ⟨rfl, _⟩ := hxr
  have := evo_set1 h0.mem hMb' hrow hjs hp hg (x := .arr sz M.length 0 0 0) (v := .slice none 0 0) (rel_born hl)
  rw [setCell_eq_setRow _ _ _ _ _ _ _ hh, show cs.setIfInBounds (i * sz' + j) (.slice none 0 0) = cs from ?_, setRow_self hh, List.set_append_left _ _ hbl] at this
  · exact this
  · apply Array.ext_getElem?
    intro k
    rw [Array.getElem?_setIfInBounds]
    split
    · rename_i e
      subst e
      rw [if_pos (Array.getElem?_eq_some_iff.1 hx).1, hx]
    · rfl
/-- A block of the world that is told no more. -/
theorem evo_kill {I : Im} {σ : List Plc} {M : List Blk} {w w' : World} (hm : Mem I σ M w) {c t sz ver : Nat} {l : List (List AV)} {f : Bool} (hMc : M[c]? = some (.rows t sz ver l f)) {p : Plc} {g : Nat} (hp : σ[c]? = some p) (hg : p.blk = some g)
    (h1 : w'.os = w.os) (h2 : w'.tape = w.tape) (h3 : w'.output = w.output) (h4 : w'.heap.size = w.heap.size) (h5 : ∀ k, k ≠ g → w'.heap[k]? = w.heap[k]?) : Evo I σ M w I σ (M.set c .dead) w' := by
  have back : ∀ {b0 : Nat} {y0 : Blk}, (M.set c .dead)[b0]? = some y0 → y0.live = true → b0 ≠ c ∧ M[b0]? = some y0 := by
    intro b0 y0 h0 l0
    rw [List.getElem?_set] at h0
    by_cases hb : c = b0
    · subst hb
      rw [if_pos rfl, if_pos (getElem?_lt hMc)] at h0
      injection h0 with h0
      subst h0
      cases l0
    · rw [if_neg hb] at h0; exact ⟨fun e => hb e.symm, h0⟩
  refine ⟨ExtI.refl _, ExtP.refl _, ⟨by simp [hm.len], fun b x q hx hq => ?_, fun b b' x x' q q' g' k1 k2 l1 l2 => ?_, fun b x q g' k1 l1 => ?_, fun ad x hI => ?_⟩, ⟨h1, h2, h3, Nat.le_of_eq h4.symm, fun k hk hs => h5 k (fun e => hs (e ▸ ⟨c, _, p, hMc, rfl, hp, hg⟩))⟩, ?_, fun ad x h => .inl h⟩
  · by_cases hl : x.live = true
    · obtain ⟨hne, hx'⟩ := back hx hl
      refine RelB_mono (ExtI.refl _) (ExtP.refl _) (fun g' _ hg' => h5 g' (fun e => ?_)) (hm.blk b x q hx' hq)
      subst e
      exact hne (hm.inj b c x _ q p g' hx' hMc hl rfl hq hp hg' hg)
    · cases x with
      | dead => trivial
      | _ => exact absurd rfl hl
  · exact hm.inj b b' x x' q q' g' (back k1 l1).2 (back k2 l2).2 l1 l2
  · exact hm.ap b x q g' (back k1 l1).2 l1
  · refine (cell_same (h5 ad.block (fun e => ?_))).trans (hm.imm ad x hI)
    have := hm.ap c _ p g hMc rfl hp hg ad e
    rw [this] at hI
    cases hI
  · rintro g' ⟨b0, y0, p0, k1, l0, q0, e0⟩
    exact .inl ⟨b0, y0, p0, (back k1 l0).2, l0, q0, e0⟩
/-- Before a call what is told of the memory may be turned. -/
theorem callR_ghost {P : Program} {M M1 M' : List Blk} {f : Nat} {ps : List Pt} {r : SV} (hg : ∀ (I : Im) (σ : List Plc) (w : World), Mem I σ M w → ∃ I' σ', Evo I σ M w I' σ' M1 w) (h : CallR P M1 f ps r M') : CallR P M f ps r M' := by
  intro I σ w vals hG hm hvl hvr
  obtain ⟨I1, σ1, hev⟩ := hg I σ w hm
  refine (h I1 σ1 w vals (hG.ext hev.extI) hev.mem hvl (fun k q x hq hx => RelP_mono hev.extI hev.extP (hvr k q x hq hx))).mono ?_
  rintro v w' ⟨I', σ', hr, hev'⟩
  exact ⟨I', σ', hr, hev.trans hev'⟩
/-- The same in a run. -/
theorem gh_born_cell {n m : Nat} {e : Nat → SV} {M : List Blk} {b tb sz' ver' i j : Nat} {l : List (List AV)} {row : List AV} {fb : Bool} (hMb : M[b]? = some (.rows tb sz' ver' l fb)) (hrow : l[i]? = some row) (hj : row[j]? = some (.c (.v (.slice none 0 0)))) (t sz : Nat) :
    Gh n m ⟨e, M⟩ ⟨e, M.set b (.rows tb sz' ver' (l.set i (fillL row j [.arr sz M.length 0 0 0])) fb) ++ [.rows t sz 0 [] true]⟩ := by
  rintro I0 σ0 M0 w0 a w hm ⟨I, σ, hev, he, h1, h2⟩
  have h := evo_born_cell hev.mem hMb hrow hj t sz
  exact ⟨I, _, hev.trans h, fun k => RelS_mono h.extI h.extP (he k), h1, h2⟩
/-- A function's end, told by implication. -/
theorem fin_sub {n m : Nat} {rvs : List RV} {r : SV} {M' : List Blk} {s s1 : St} {ex : Exit} (hex : ex = .normal ∨ ex = .ret) (h : Gh n m s s1) (D : List Blk) {qs : List Pt} {cnd : Prop} (h1 : resL s1.env s1.M rvs = some (qs, cnd)) (h2 : cnd) (h3 : s1.M = M' ++ D) (h4 : SubS (mkRes qs) r) (h5 : m ≤ M'.length) (h6 : ltS M'.length r) (h7 : ∀ x ∈ M', ltB M'.length x) : FinK n m rvs r M' ex s := by
  rcases hex with rfl | rfl <;> exact ⟨s1, D, qs, cnd, h, h1, h2, h3, h4, h5, h6, h7⟩
def SubP (q q' : Pt) : Prop := ∀ I σ y, RelP I σ q y → RelP I σ q' y
def SubA (q q' : AV) : Prop := ∀ I σ y, RelA I σ q y → RelA I σ q' y
theorem SubP.refl (q : Pt) : SubP q q := fun _ _ _ h => h
theorem SubA.refl (q : AV) : SubA q q := fun _ _ _ h => h
theorem subP_one {a a' : AV} (h : SubA a a') : SubP (.one a) (.one a') := fun I σ y hr => h I σ y hr
theorem subP_agg2 {a a' b b' : AV} (h : SubA a a') (h' : SubA b b') : SubP (.agg [a, b]) (.agg [a', b']) := by
  rintro I σ y ⟨cs, rfl, hl, hr⟩
  refine ⟨cs, rfl, hl, fun k u x hu hx => ?_⟩
  match k, hu with
  | 0, hu => cases hu; exact h I σ x (hr 0 a x rfl hx)
  | 1, hu => cases hu; exact h' I σ x (hr 1 b x rfl hx)
theorem subS_p {q q' : Pt} (h : SubP q q') : SubS (.p q) (.p q') := fun I σ y hr => h I σ y hr
theorem subS_tup2 {a a' b b' : Pt} (h : SubP a a') (h' : SubP b b') : SubS (.tup [a, b]) (.tup [a', b']) := by
  rintro I σ y ⟨vs, rfl, hl, hr⟩
  refine ⟨vs, rfl, hl, fun k u x hu hx => ?_⟩
  match k, hu with
  | 0, hu => cases hu; exact h I σ x (hr 0 a x rfl hx)
  | 1, hu => cases hu; exact h' I σ x (hr 1 b x rfl hx)
theorem subA_nil (sz : Nat) (c : Nat → Nat → CV) : SubA (.c (.v (.slice none 0 0))) (.c (.imm sz 0 c)) := by
  rintro I σ y ⟨rfl, _⟩
  exact ⟨none, 0, rfl, Nat.le_refl _, .inl rfl⟩
theorem subA_imm {sz n : Nat} {c c' : Nat → Nat → CV} (h : ∀ i, i < n → ∀ j, j < sz → c i j = c' i j) : SubA (.c (.imm sz n c)) (.c (.imm sz n c')) := by
  rintro I σ y ⟨A, cap, rfl, h1, h2⟩
  refine ⟨A, cap, rfl, h1, h2.imp id ?_⟩
  rintro ⟨ad, ha, hc⟩
  refine ⟨ad, ha, fun i hi j hj => ?_⟩
  obtain ⟨x, hx, hr⟩ := hc i hi j hj
  exact ⟨x, hx, by rw [← h i hi j hj]; exact hr⟩
/-- A call's arguments told by implication. -/
def SubL : List Pt → List Pt → Prop
  | [], [] => True
  | q :: l, q' :: l' => SubP q q' ∧ SubL l l'
  | _, _ => False
theorem SubL.length : ∀ {l l' : List Pt}, SubL l l' → l.length = l'.length
  | [], [], _ => rfl
  | _ :: _, _ :: _, h => by simp [SubL.length h.2]
theorem SubL.get : ∀ {l l' : List Pt}, SubL l l' → ∀ (k : Nat) (q q' : Pt), l[k]? = some q → l'[k]? = some q' → SubP q q'
  | q :: l, q' :: l', h, 0, p, p', hp, hp' => by cases hp; cases hp'; exact h.1
  | q :: l, q' :: l', h, k + 1, p, p', hp, hp' => SubL.get h.2 k p p' hp hp'
theorem CallR.sub {P : Program} {M M' : List Blk} {f : Nat} {ps ps' : List Pt} {r : SV} (h : CallR P M f ps' r M') (hl : SubL ps ps') : CallR P M f ps r M' := by
  intro I σ w vals hG hm hvl hvr
  refine h I σ w vals hG hm (hvl.trans hl.length) (fun k q' x hq' hx => ?_)
  have hk : k < ps.length := by rw [hl.length]; exact getElem?_lt hq'
  exact hl.get k _ q' (List.getElem?_eq_getElem hk) hq' I σ x (hvr k _ x (List.getElem?_eq_getElem hk) hx)
section
variable {P : Program} {n : Nat}
theorem callPS {f : Nat} {c : C} {rvs : List RV} {ps : List Pt} {r : SV} (hF : Fun P f n c rvs) (hl : ps.length ≤ n) (hps : ∀ q ∈ ps, ltP 0 q) (hr : ltS 0 r) (h : Run P n 0 c ⟨envOf 0 ps, []⟩ (FinP rvs (SubS · r))) (M : List Blk) : CallR P M f ps r M := by
  refine callR_pure (callR_intro (M' := []) hF hl (run_mono (fun ex s hs => ?_) h)) hps M
  have key : (match resL s.env s.M rvs with
    | some (qs, c) => c ∧ SubS (mkRes qs) r
    | none => False) → Fin n 0 rvs r [] s := by
    intro h
    cases hq : resL s.env s.M rvs with
    | none => rw [hq] at h; exact h.elim
    | some x =>
      obtain ⟨qs, c⟩ := x
      rw [hq] at h
      exact ⟨s, s.M, qs, c, Gh.refl s, hq, h.1, rfl, h.2, Nat.le_refl _, hr, fun x hx => by simp at hx⟩
  cases ex with
  | normal => exact key hs
  | ret => exact key hs
  | _ => exact hs.elim
end
theorem R_loop {P : Program} {n m : Nat} {e : Nat → SV} {M : List Blk} {K : Exit → St → Prop} {ι : Type} (J : ι → Prop) (env : ι → List (Nat × SV)) (mem : ι → List Blk) (μ : ι → Nat) {c : C} (i0 : ι) (h0 : J i0) (hs : Into m ⟨e, M⟩ (env i0) (mem i0))
    (h : ∀ i, J i → Run P n m c ⟨envL (env i), mem i⟩ (andThen (fun s' => ∃ j, J j ∧ μ j < μ i ∧ Into m s' (env j) (mem j)) K)) : Run P n m (.loop c) ⟨e, M⟩ K := by
  refine run_loop (ι := { i // J i }) (fun i => ⟨envL (env i.1), mem i.1⟩) (fun i => μ i.1) ⟨i0, h0⟩ hs.gh (fun i => run_mono (fun ex s' hx => ?_) (h i.1 i.2))
  cases ex with
  | normal =>
    obtain ⟨j, h1, h2, h3⟩ := hx
    exact ⟨⟨j, h1⟩, h3.gh, h2⟩
  | _ => exact hx
end Go.Proofs.YtcmkhlfjcdchmaaGreatAbs
end
section
namespace Go.Proofs.YtcmkhlfjcdchmaaGreatAbs
open Go Go.RowKit
/-- A cell told by weaker words. -/
theorem gh_sub_cell {n m : Nat} {e : Nat → SV} {M : List Blk} {b tb sz' ver' i j : Nat} {l : List (List AV)} {row : List AV} {fb : Bool} (x x' : AV) (hMb : M[b]? = some (.rows tb sz' ver' l fb)) (hrow : l[i]? = some row) (hj : row[j]? = some x) (hs : SubA x x') :
    Gh n m ⟨e, M⟩ ⟨e, M.set b (.rows tb sz' ver' (l.set i (fillL row j [x'])) fb)⟩ := by
  rintro I0 σ0 M0 w0 a w hm ⟨I, σ, hev, he, h1, h2⟩
  obtain ⟨p, hp, m1, m2, m3, m4, m5, m6⟩ := mem_rows hev.mem hMb
  have hi : i < l.length := getElem?_lt hrow
  have hjs : j < sz' := by rw [← m5 i row hrow]; exact getElem?_lt hj
  obtain ⟨g, hg⟩ : ∃ g, p.blk = some g := by
    cases e : p.blk with
    | none => rw [e] at m6; simp only at m6; omega
    | some g => exact ⟨g, rfl⟩
  rw [hg] at m6
  obtain ⟨cs, hh, hs', m7, hcs⟩ := m6
  obtain ⟨v, hv, hvr⟩ := hcs i row hrow j _ hj
  have := evo_set1 hev.mem hMb hrow hjs hp hg (hs I σ v hvr)
  rw [setCell_eq_setRow _ _ _ _ _ _ _ hh, show cs.setIfInBounds (i * sz' + j) v = cs from ?_, setRow_self hh] at this
  · exact ⟨I, σ, hev.trans this, he, h1, h2⟩
  · apply Array.ext_getElem?
    intro k
    rw [Array.getElem?_setIfInBounds]
    split
    · rename_i e
      subst e
      rw [if_pos (Array.getElem?_eq_some_iff.1 hv).1, hv]
    · rfl
end Go.Proofs.YtcmkhlfjcdchmaaGreatAbs
end
section
namespace Go.Proofs.YtcmkhlfjcdchmaaGreatAbs
open Go Go.RowKit
def bsC (sz : Nat) : C :=
 (.seq (.reg false [⟨some 6, .mv (ki 0), none⟩, ⟨some 7, .mv (kb false), none⟩])
 (.seq (.reg false [⟨some 12, .mv (.t 0), none⟩, ⟨some 13, .len (.t 12), none⟩, ⟨some 8, .mv (.t 13), none⟩])
 (.seq (.reg false [⟨some 14, .mv (.t 8), none⟩, ⟨some 9, .mv (ki 0), none⟩, ⟨some 10, .mv (.t 14), none⟩])
 (.seq (.block 0 (.loop (.seq (.seq (.reg false [⟨some 15, .mv (.t 9), none⟩, ⟨some 16, .mv (.t 10), none⟩, ⟨some 17, .bin .lss (.t 15) (.t 16), none⟩])
 (.cond (.t 17)
 .skip
 (.exit 0)))
 (.block 1 (.seq (.reg false [⟨some 18, .mv (.t 9), none⟩, ⟨some 19, .mv (.t 10), none⟩, ⟨some 20, .bin .add (.t 18) (.t 19), none⟩, ⟨some 21, .cvi .u64 (.t 20), none⟩, ⟨some 22, .bin .shr (.t 21) (.k (.one (.c (.v (.int .u64 1))))), none⟩, ⟨some 23, .cvi .i64 (.t 22), none⟩, ⟨some 11, .mv (.t 23), none⟩])
 (.seq (.reg false [⟨some 24, .mv (.t 2), none⟩, ⟨some 25, .mv (.t 0), none⟩, ⟨some 26, .mv (.t 11), none⟩, ⟨some 27, .ia sz (.t 25) (.t 26), none⟩, ⟨some 28, .ld true sz (.t 27), none⟩, ⟨some 29, .mv (.t 1), none⟩, ⟨some 30, .call (.t 24) [(.t 28), (.t 29)], none⟩, ⟨some 31, .bin .lss (.t 30) (ki 0), none⟩])
 (.cond (.t 31)
 (.reg false [⟨some 32, .mv (.t 11), none⟩, ⟨some 33, .bin .add (.t 32) (ki 1), none⟩, ⟨some 9, .mv (.t 33), none⟩])
 (.reg false [⟨some 34, .mv (.t 11), none⟩, ⟨some 10, .mv (.t 34), none⟩]))))))))
 (.seq (.reg false [⟨some 35, .mv (.t 9), none⟩, ⟨some 36, .mv (.t 9), none⟩, ⟨some 37, .mv (.t 8), none⟩, ⟨some 38, .bin .lss (.t 36) (.t 37), none⟩, ⟨some 39, .mv (.t 38), none⟩, ⟨some 40, .mv (.t 2), some (39, true)⟩, ⟨some 41, .mv (.t 0), some (39, true)⟩, ⟨some 42, .mv (.t 9), some (39, true)⟩, ⟨some 43, .ia sz (.t 41) (.t 42), some (39, true)⟩, ⟨some 44, .ld true sz (.t 43), some (39, true)⟩, ⟨some 45, .mv (.t 1), some (39, true)⟩, ⟨some 46, .call (.t 40) [(.t 44), (.t 45)], some (39, true)⟩, ⟨some 47, .bin .eql (.t 46) (ki 0), some (39, true)⟩, ⟨some 48, .pick (.t 39) (.t 47) (kb false), none⟩, ⟨some 6, .mv (.t 35), none⟩, ⟨some 7, .mv (.t 48), none⟩])
 .ret)))))
/-- The first place from i to j at which lt does not hold, as the halving finds it. -/
def bsF (lt : Nat → Bool) (i j : Nat) : Nat := if i < j then (if lt ((i + j) / 2) then bsF lt ((i + j) / 2 + 1) j else bsF lt i ((i + j) / 2)) else i
termination_by j - i
theorem bsF_le {lt : Nat → Bool} : ∀ (d i j : Nat), j - i ≤ d → i ≤ j → i ≤ bsF lt i j ∧ bsF lt i j ≤ j
  | 0, i, j, hd, h => by
    rw [bsF, if_neg (by omega)]; omega
  | d + 1, i, j, hd, h => by
    rw [bsF]
    by_cases hij : i < j
    · rw [if_pos hij]
      split
      · have := bsF_le (lt := lt) d ((i + j) / 2 + 1) j (by omega) (by omega); omega
      · have := bsF_le (lt := lt) d i ((i + j) / 2) (by omega) (by omega); omega
    · rw [if_neg hij]; omega
theorem bsF_lt {lt : Nat → Bool} : ∀ (d i j : Nat), j - i ≤ d → i ≤ j → (∀ a b, i ≤ a → a ≤ b → b < j → lt b = true → lt a = true) → (∀ a, i ≤ a → a < bsF lt i j → lt a = true) ∧ ∀ a, bsF lt i j ≤ a → a < j → lt a = false
  | 0, i, j, hd, h, hs => by
    rw [bsF, if_neg (by omega)]
    exact ⟨fun a h1 h2 => by omega, fun a h1 h2 => by omega⟩
  | d + 1, i, j, hd, h, hs => by
    by_cases hij : i < j
    · rw [bsF, if_pos hij]
      cases hm : lt ((i + j) / 2) with
      | true =>
        rw [if_pos rfl]
        obtain ⟨h1, h2⟩ := bsF_lt (lt := lt) d ((i + j) / 2 + 1) j (by omega) (by omega) (fun a b ha hb hc => hs a b (by omega) hb hc)
        refine ⟨fun a ha hb => ?_, h2⟩
        by_cases hc : a ≤ (i + j) / 2
        · exact hs a _ ha hc (by omega) hm
        · exact h1 a (by omega) hb
      | false =>
        rw [if_neg (by simp)]
        obtain ⟨h1, h2⟩ := bsF_lt (lt := lt) d i ((i + j) / 2) (by omega) (by omega) (fun a b ha hb hc => hs a b ha hb (by omega))
        refine ⟨h1, fun a ha hb => ?_⟩
        by_cases hc : a < (i + j) / 2
        · exact h2 a ha hc
        · cases hl : lt a with
          | false => rfl
          | true =>
            have := hs ((i + j) / 2) a (by omega) (by omega) hb hl
            rw [hm] at this
            cases this
    · rw [bsF, if_neg hij]
      exact ⟨fun a h1 h2 => by omega, fun a h1 h2 => by omega⟩
theorem mid64 {i j : Nat} (h : i + j < 9223372036854775807) : IntKind.i64.wrap ((IntKind.u64.wrap (IntKind.i64.wrap ((i : Int) + (j : Int)))).fdiv 2) = (((i + j) / 2 : Nat) : Int) := by
  have h1 : IntKind.i64.wrap ((i : Int) + (j : Int)) = ((i + j : Nat) : Int) := by rw [w64 (by omega) (by omega)]; omega
  have h2 : IntKind.u64.wrap (((i + j : Nat) : Int)) = ((i + j : Nat) : Int) := by
    rw [IntKind.wrap_u64]; omega
  rw [h1, h2, w64]
  · rw [Int.fdiv_eq_ediv_of_nonneg _ (by omega)]; omega
  · rw [Int.fdiv_eq_ediv_of_nonneg _ (by omega)]; omega
  · rw [Int.fdiv_eq_ediv_of_nonneg _ (by omega)]; omega
theorem bs_rc {P : Program} {f sz : Nat} (hF : Fun P f 49 (bsC sz) [.t 6, .t 7]) (n : Nat) (hn : n < 4611686018427387904) (c : Nat → Nat → CV) (key : Pt) (fn k : Nat) (caps : Nat → AV) (cmp : Nat → Int) (hkey : ltP 0 key) (hcaps : ∀ i, i < k → ltA 0 (caps i))
    (h : ∀ i, i < n → ∀ M, CallR P M fn ([.agg (cellsUp (c i) 0 sz), key] ++ capsL caps 0 k) (.i (cmp i)) M) (M : List Blk) :
    CallR P M f [.one (.c (.imm sz n c)), key, .one (.fn fn k caps)] (.tup [.i (bsF (fun i => decide (cmp i < 0)) 0 n : Nat), .b (decide (bsF (fun i => decide (cmp i < 0)) 0 n < n) && (cmp (bsF (fun i => decide (cmp i < 0)) 0 n) == 0))]) M := by
  refine callP hF (Nat.le_of_ble_eq_true rfl) (by simp only [go_sem]; exact ⟨hkey, hcaps⟩) (by simp only [go_sem]) ?_ M
  simp only [bsC, go_sem]
  refine V_loop (ι := Nat × Nat) (J := fun p => p.1 ≤ p.2 ∧ p.2 ≤ n ∧ bsF (fun i => decide (cmp i < 0)) p.1 p.2 = bsF (fun i => decide (cmp i < 0)) 0 n) (env := fun p => [(0, .p (.one (.c (.imm sz n c)))), (1, .p key), (2, .p (.one (.fn fn k caps))), (8, .i n), (9, .i p.1), (10, .i p.2)]) (mem := fun _ => []) (μ := fun p => p.2 - p.1) (0, n) ⟨by simp, by simp, rfl⟩ (into0 (by simp only [go_sem]; exact ⟨hkey, hcaps⟩)) ?_
  rintro ⟨i, j⟩ ⟨hij, hjn, hb⟩
  simp only [go_sem] at hij hjn hb ⊢
  rw [bsF] at hb
  refine ⟨fun hlt => ?_, fun hlt => ?_⟩
  · have hlt' : i < j := by omega
    rw [if_pos hlt'] at hb
    rw [mid64 (by omega), Int.toNat_natCast]
    refine ⟨by omega, call0 (h ((i + j) / 2) (by omega)) ?_⟩
    simp only [go_sem]
    refine ⟨fun hc => ⟨((i + j) / 2 + 1, j), ⟨by simp; omega, by simp; omega, ?_⟩, by simp; omega, into0 ?_⟩, fun hc => ⟨(i, (i + j) / 2), ⟨by simp; omega, by simp; omega, ?_⟩, by simp; omega, into0 ?_⟩⟩
    · rw [if_pos (by simpa using hc)] at hb
      exact hb
    · rw [w64s (by omega)]
      simp only [go_sem]
      exact ⟨hkey, hcaps⟩
    · rw [if_neg (by simpa using hc)] at hb
      exact hb
    · simp only [go_sem]
      exact ⟨hkey, hcaps⟩
  · rw [if_neg (by omega)] at hb
    subst hb
    refine ⟨fun hc => by omega, callg0 (fun hc => h (bsF (fun i => decide (cmp i < 0)) 0 n) (by simpa using hc)) ?_⟩
    simp only [go_sem]
end Go.Proofs.YtcmkhlfjcdchmaaGreatAbs
end
section
namespace Go.Proofs.YtcmkhlfjcdchmaaGreatAbs
open Go Go.RowKit
structure Ovl (P : Program) (f sz : Nat) : Prop where
  ex : ∃ fn tS tR el, P.funcs[f]? = some fn ∧ (fn.name == "runtime.NumGoroutine") = false ∧ fn.body.isNone = true ∧ Extern.findNext fn = none ∧ Extern.find fn = some (Extern.SlicesOverlaps.overlaps #[tS, tS] #[tR]) ∧ elemT P tS = some el ∧ sizeT P el = some sz
theorem ovl_rc {P : Program} {f sz : Nat} (h : Ovl P f sz) {M : List Blk} {b c tb tc vb vc lb lc ob oc : Nat} {l l' : List (List AV)} {fb fc : Bool} (hsz : 0 < sz) (hl : 0 < l'.length) (hbc : b ≠ c) (hb : M[b]? = some (.rows tb sz vb l fb)) (hc : M[c]? = some (.rows tc sz vc l' fc)) :
    CallR P M f [.one (.arr sz b vb ob lb), .one (.arr sz c vc oc lc)] (.b false) M := by
  obtain ⟨fn, tS, tR, el, hf, hname, hbody, hn, he, ht, hz⟩ := h.ex
  intro I σ w vals hG hm hvl hvr
  refine .inr ⟨.bool false, w, ?_, I, σ, ⟨rfl, rfl⟩, Evo.refl hm⟩
  obtain ⟨x, y, rfl⟩ : ∃ x y, vals = #[x, y] := by
    match vals, hvl with
    | ⟨[x, y]⟩, _ => exact ⟨x, y, rfl⟩
  obtain ⟨_, p, hp, hpv, hq⟩ := hvr 0 _ x rfl rfl
  obtain ⟨_, q, hq1, hqv, hqq⟩ := hvr 1 _ y rfl rfl
  obtain ⟨p0, hp0, a1, a2, a3, a4, a5, a6⟩ := mem_rows hm hb
  obtain rfl : p = p0 := by rw [hp] at hp0; injection hp0
  obtain ⟨q0, hq0, b1, b2, b3, b4, b5, b6⟩ := mem_rows hm hc
  obtain rfl : q = q0 := by rw [hq1] at hq0; injection hq0
  obtain ⟨e1, e2, e3⟩ := hq a2
  obtain ⟨g1, g2, g3⟩ := hqq b2
  rw [run_callFunc_extern hf hname hbody hn he, e3, g3]
  have key : (Extern.SlicesOverlaps.overlaps #[tS, tS] #[tR] #[.slice (p.blk.map fun g => ⟨g, ob * sz, none⟩) lb (p.cap - ob), .slice (q.blk.map fun g => ⟨g, oc * sz, none⟩) lc (q.cap - oc)]).run P w = .ok (.bool false) w := by
    cases hpb : p.blk with
    | none =>
      show (do let some t := (#[tS, tS] : Array TypeId)[0]? | stuck "slices.overlaps: no parameter types"
               let .slice elem ← underlying t | stuck "slices.overlaps: slice type expected"
               let size ← sizeOf elem
               pure (Value.bool false) : Sem Value).run P w = _
      simp [run_under (elemT_spec ht), run_size hz]
    | some gp =>
      cases hqb : q.blk with
      | none =>
        rw [hqb] at b6
        have b6 : q.cap = 0 := b6
        omega
      | some gq =>
        rw [hpb] at a6
        rw [hqb] at b6
        obtain ⟨cs, hh, hs, _, _⟩ := a6
        obtain ⟨ds, kh, ks, _, _⟩ := b6
        have hne : gp ≠ gq := fun e => hbc (hm.inj b c _ _ p q gp hb hc rfl rfl hp hq1 hpb (by rw [hqb, e]))
        have hk : ds.size ≠ 0 := by
          rw [ks]
          have := Nat.mul_pos (show 0 < q.cap by omega) hsz
          omega
        exact Lib.run_overlaps_apart w tS tR el (elemT_spec ht) sz (fun w => run_size hz) ⟨gp, ob * sz, none⟩ ⟨gq, oc * sz, none⟩ lb (p.cap - ob) lc (q.cap - oc) hne tb tc cs.size ds.size (by simp [World.shape?, hh]) (by simp [World.shape?, kh]) hk (by simp [World.frozen?, hh]) (by simp [World.frozen?, hh])
  rw [key]
  rfl
def insC (t sz by_ : Nat) (z : List Value) (fo fr : Nat) : C :=
 (.seq (.reg false [⟨some 6, .mv (.k (.one (.c (.v (.slice none 0 0))))), none⟩])
 (.seq (.reg false [⟨some 10, .mv (.t 0), none⟩, ⟨some 11, .mv (.t 1), none⟩, ⟨some 12, .slc sz (.t 10) (some (.t 11)) none, none⟩])
 (.seq (.reg false [⟨some 13, .mv (.t 2), none⟩, ⟨some 14, .len (.t 13), none⟩, ⟨some 7, .mv (.t 14), none⟩])
 (.seq (.seq (.reg false [⟨some 15, .mv (.t 7), none⟩, ⟨some 16, .bin .eql (.t 15) (ki 0), none⟩])
 (.cond (.t 16)
 (.seq (.reg false [⟨some 17, .mv (.t 0), none⟩, ⟨some 6, .mv (.t 17), none⟩])
 .ret)
 .skip))
 (.seq (.reg false [⟨some 18, .mv (.t 0), none⟩, ⟨some 19, .len (.t 18), none⟩, ⟨some 8, .mv (.t 19), none⟩])
 (.seq (.seq (.reg false [⟨some 20, .mv (.t 1), none⟩, ⟨some 21, .mv (.t 8), none⟩, ⟨some 22, .bin .eql (.t 20) (.t 21), none⟩])
 (.cond (.t 22)
 (.seq (.reg false [⟨some 23, .mv (.t 0), none⟩, ⟨some 24, .mv (.t 2), none⟩, ⟨some 25, .app t sz by_ z (.t 23) (.t 24), none⟩, ⟨some 6, .mv (.t 25), none⟩])
 .ret)
 .skip))
 (.seq (.seq (.reg false [⟨some 26, .mv (.t 8), none⟩, ⟨some 27, .mv (.t 7), none⟩, ⟨some 28, .bin .add (.t 26) (.t 27), none⟩, ⟨some 29, .mv (.t 0), none⟩, ⟨some 30, .cap (.t 29), none⟩, ⟨some 31, .bin .gtr (.t 28) (.t 30), none⟩])
 (.cond (.t 31)
 (.seq (.reg false [⟨some 32, .mv (.t 0), none⟩, ⟨some 33, .mv (.t 1), none⟩, ⟨some 34, .slc sz (.t 32) none (some (.t 33)), none⟩, ⟨some 35, .mv (.t 8), none⟩, ⟨some 36, .mv (.t 7), none⟩, ⟨some 37, .bin .add (.t 35) (.t 36), none⟩, ⟨some 38, .mv (.t 1), none⟩, ⟨some 39, .bin .sub (.t 37) (.t 38), none⟩, ⟨some 40, .apz t sz by_ z (.t 34) (.t 39), none⟩, ⟨some 9, .mv (.t 40), none⟩])
 (.seq (.reg false [⟨some 41, .mv (.t 9), none⟩, ⟨some 42, .mv (.t 1), none⟩, ⟨some 43, .slc sz (.t 41) (some (.t 42)) none, none⟩, ⟨some 44, .mv (.t 2), none⟩, ⟨some 45, .cpy sz (.t 43) (.t 44), none⟩])
 (.seq (.reg true [⟨some 46, .mv (.t 9), none⟩, ⟨some 47, .mv (.t 1), none⟩, ⟨some 48, .mv (.t 7), none⟩, ⟨some 49, .bin .add (.t 47) (.t 48), none⟩, ⟨some 50, .slc sz (.t 46) (some (.t 49)) none, none⟩, ⟨some 51, .mv (.t 0), none⟩, ⟨some 52, .mv (.t 1), none⟩, ⟨some 53, .slc sz (.t 51) (some (.t 52)) none, none⟩, ⟨some 54, .cpy sz (.t 50) (.t 53), none⟩])
 (.seq (.reg false [⟨some 55, .mv (.t 9), none⟩, ⟨some 6, .mv (.t 55), none⟩])
 .ret))))
 .skip))
 (.seq (.reg false [⟨some 56, .mv (.t 0), none⟩, ⟨some 57, .mv (.t 8), none⟩, ⟨some 58, .mv (.t 7), none⟩, ⟨some 59, .bin .add (.t 57) (.t 58), none⟩, ⟨some 60, .slc sz (.t 56) none (some (.t 59)), none⟩, ⟨some 0, .mv (.t 60), none⟩])
 (.seq (.seq (.reg false [⟨some 61, .mv (.t 2), none⟩, ⟨some 62, .mv (.t 0), none⟩, ⟨some 63, .mv (.t 1), none⟩, ⟨some 64, .mv (.t 7), none⟩, ⟨some 65, .bin .add (.t 63) (.t 64), none⟩, ⟨some 66, .slc sz (.t 62) (some (.t 65)) none, none⟩, ⟨some 67, .call (kf fo) [(.t 61), (.t 66)], none⟩, ⟨some 68, .un .not (.t 67), none⟩])
 (.cond (.t 68)
 (.seq (.reg true [⟨some 69, .mv (.t 0), none⟩, ⟨some 70, .mv (.t 1), none⟩, ⟨some 71, .mv (.t 7), none⟩, ⟨some 72, .bin .add (.t 70) (.t 71), none⟩, ⟨some 73, .slc sz (.t 69) (some (.t 72)) none, none⟩, ⟨some 74, .mv (.t 0), none⟩, ⟨some 75, .mv (.t 1), none⟩, ⟨some 76, .slc sz (.t 74) (some (.t 75)) none, none⟩, ⟨some 77, .cpy sz (.t 73) (.t 76), none⟩])
 (.seq (.reg false [⟨some 78, .mv (.t 0), none⟩, ⟨some 79, .mv (.t 1), none⟩, ⟨some 80, .slc sz (.t 78) (some (.t 79)) none, none⟩, ⟨some 81, .mv (.t 2), none⟩, ⟨some 82, .cpy sz (.t 80) (.t 81), none⟩])
 (.seq (.reg false [⟨some 83, .mv (.t 0), none⟩, ⟨some 6, .mv (.t 83), none⟩])
 .ret)))
 .skip))
 (.seq (.reg false [⟨some 84, .mv (.t 0), none⟩, ⟨some 85, .mv (.t 8), none⟩, ⟨some 86, .slc sz (.t 84) (some (.t 85)) none, none⟩, ⟨some 87, .mv (.t 2), none⟩, ⟨some 88, .cpy sz (.t 86) (.t 87), none⟩])
 (.seq (.reg false [⟨some 89, .mv (.t 0), none⟩, ⟨some 90, .mv (.t 1), none⟩, ⟨some 91, .slc sz (.t 89) (some (.t 90)) none, none⟩, ⟨some 92, .mv (.t 7), none⟩, ⟨some 93, .call (kf fr) [(.t 91), (.t 92)], none⟩])
 (.seq (.reg false [⟨some 94, .mv (.t 0), none⟩, ⟨some 6, .mv (.t 94), none⟩])
 .ret))))))))))))

theorem insA {α : Type} {l Z : List α} {row : α} {i : Nat} (h : i < l.length) (hz : Z.length = l.length + 1 - i) :
    List.take (i + 1) (List.take i (List.take i l ++ Z) ++ [row] ++ List.drop (i + 1) (List.take i l ++ Z)) ++ List.take (l.length + 1 - (i + 1)) (List.take (l.length - i) (List.drop i l)) ++ List.drop (i + 1 + (l.length - i)) (List.take i (List.take i l ++ Z) ++ [row] ++ List.drop (i + 1) (List.take i l ++ Z)) = List.take i l ++ row :: List.drop i l ∧
    (List.take i (List.take i l ++ Z) ++ [row] ++ List.drop (i + 1) (List.take i l ++ Z)).length = l.length + 1 ∧ (List.take i l ++ Z).length = l.length + 1 := by
  have hl1 : (List.take i l).length = i := by rw [List.length_take]; omega
  have e1 : List.take i (List.take i l ++ Z) = List.take i l := List.take_left' hl1
  have hlen : (List.take i l ++ [row] ++ List.drop (i + 1) (List.take i l ++ Z)).length = l.length + 1 := by
    simp only [List.length_append, hl1, List.length_drop, List.length_cons, List.length_nil, hz]; omega
  refine ⟨?_, by rw [e1]; exact hlen, by rw [List.length_append, hl1, hz]; omega⟩
  have e2 : List.take (l.length + 1 - (i + 1)) (List.take (l.length - i) (List.drop i l)) = List.drop i l := by
    rw [List.take_take, List.take_of_length_le]
    rw [List.length_drop]
    omega
  have e3 : List.drop (i + 1 + (l.length - i)) (List.take i l ++ [row] ++ List.drop (i + 1) (List.take i l ++ Z)) = [] := List.drop_of_length_le (by rw [hlen]; omega)
  have e4 : List.take (i + 1) (List.take i l ++ [row] ++ List.drop (i + 1) (List.take i l ++ Z)) = List.take i l ++ [row] := List.take_left' (by rw [List.length_append, hl1]; rfl)
  rw [e1, e2, e3, e4]
  simp
theorem insB {α : Type} {l l' : List α} {row : α} {i : Nat} (h : i < l.length) (hl' : 0 < l'.length) :
    List.take (l.length + 1) (List.take i (List.take (i + 1) (l ++ l') ++ List.take (l.length + 1 - (i + 1)) (List.take (l.length + 1 - i) (List.drop i (l ++ l'))) ++ List.drop (i + 1 + min (l.length + 1 - i) (l.length + 1 - (i + 1))) (l ++ l')) ++ [row] ++ List.drop (i + 1) (List.take (i + 1) (l ++ l') ++ List.take (l.length + 1 - (i + 1)) (List.take (l.length + 1 - i) (List.drop i (l ++ l'))) ++ List.drop (i + 1 + min (l.length + 1 - i) (l.length + 1 - (i + 1))) (l ++ l'))) = List.take i l ++ row :: List.drop i l ∧
    i + 1 ≤ (List.take (i + 1) (l ++ l') ++ List.take (l.length + 1 - (i + 1)) (List.take (l.length + 1 - i) (List.drop i (l ++ l'))) ++ List.drop (i + 1 + min (l.length + 1 - i) (l.length + 1 - (i + 1))) (l ++ l')).length := by
  have hmin : min (l.length + 1 - i) (l.length + 1 - (i + 1)) = l.length - i := by omega
  have e1 : List.take (l.length + 1 - (i + 1)) (List.take (l.length + 1 - i) (List.drop i (l ++ l'))) = List.drop i l := by
    rw [List.take_take, Nat.min_eq_left (by omega), List.drop_append_of_le_length (by omega)]
    exact List.take_left' (by rw [List.length_drop]; omega)
  have e2 : (List.take (i + 1) (l ++ l')).length = i + 1 := by rw [List.length_take, List.length_append]; omega
  rw [hmin, e1]
  have e3 : List.take i (List.take (i + 1) (l ++ l') ++ List.drop i l ++ List.drop (i + 1 + (l.length - i)) (l ++ l')) = List.take i l := by
    rw [List.append_assoc, List.take_append_of_le_length (by omega), List.take_take, Nat.min_eq_left (by omega), List.take_append_of_le_length (by omega)]
  have e4 : List.drop (i + 1) (List.take (i + 1) (l ++ l') ++ List.drop i l ++ List.drop (i + 1 + (l.length - i)) (l ++ l')) = List.drop i l ++ List.drop (i + 1 + (l.length - i)) (l ++ l') := by
    rw [List.append_assoc]
    exact List.drop_left' e2
  rw [e3, e4]
  refine ⟨?_, by simp only [List.length_append] at e2 ⊢; omega⟩
  rw [← List.append_assoc, List.take_left' (by simp only [List.length_append, List.length_take, List.length_drop, List.length_cons, List.length_nil]; omega)]
  simp
section
variable {P : Program} {f t sz by_ fo fr : Nat} {z : List Value}
theorem fin_own {n m : Nat} {rvs : List RV} {r : SV} {M' : List Blk} {s s1 : St} {ex : Exit} (hex : ex = .normal ∨ ex = .ret) (h : Gh n m s s1) (D : List Blk) {qs : List Pt} {cnd : Prop} (h1 : resL s1.env s1.M rvs = some (qs, cnd)) (h2 : cnd) (h3 : s1.M = M' ++ D) (h4 : leS (mkRes qs) r) (h5 : m ≤ M'.length) (h6 : ltS M'.length r) (h7 : ∀ x ∈ M', ltB M'.length x) : FinK n m rvs r M' ex s := by
  rcases hex with rfl | rfl <;> exact ⟨s1, D, qs, cnd, h, h1, h2, h3, h4.sub, h5, h6, h7⟩
set_option maxRecDepth 20000 in
set_option maxHeartbeats 2000000 in
theorem ins_rc (hF : Fun P f 95 (insC t sz by_ z fo fr) [.t 6]) (ho : Ovl P fo sz) (hsz : 0 < sz) {M : List Blk} {b c vb vc tc i : Nat} {l : List (List AV)} {row : List AV} {fb fc : Bool} (hbc : b ≠ c) (hb : M[b]? = some (.rows t sz vb l fb)) (hc : M[c]? = some (.rows tc sz vc [row] fc)) (hi : i ≤ l.length) (hn : l.length < 140737488355328) (hbig : (l.length + 1) * by_ ≤ 140737488355328) (hMB : ∀ x ∈ M, ltB M.length x) :
    CallR P M f [.one (.arr sz b vb 0 l.length), .i i, .one (.arr sz c vc 0 1)] (.p (.one (.arr sz b (vb + 1) 0 (l.length + 1)))) (M.set b (.rows t sz (vb + 1) (l.take i ++ row :: l.drop i) false)) := by
  have hbl : b < M.length := getElem?_lt hb
  have hcl : c < M.length := getElem?_lt hc
  have hB : ∀ r ∈ l, ∀ a ∈ r, ltA M.length a := hMB _ (List.mem_of_getElem? hb)
  have hR : ∀ a ∈ row, ltA M.length a := hMB _ (List.mem_of_getElem? hc) row (by simp)
  have hfin : ∀ x ∈ M.set b (.rows t sz (vb + 1) (l.take i ++ row :: l.drop i) false), ltB (M.set b (.rows t sz (vb + 1) (l.take i ++ row :: l.drop i) false)).length x := by
    intro x hx
    rw [List.length_set]
    rcases List.mem_or_eq_of_mem_set hx with hx | rfl
    · exact hMB x hx
    · intro r hr
      rcases List.mem_append.1 hr with hr | hr
      · exact hB r (List.mem_of_mem_take hr)
      · rcases List.mem_cons.1 hr with rfl | hr
        · exact hR
        · exact hB r (List.mem_of_mem_drop hr)
  refine callR_intro hF (by simp) ?_
  by_cases hin : i = l.length
  · subst hin
    refine V_sound ?_
    simp only [insC, go_sem, hb, hc]
    refine ⟨by omega, hbig, fin_own (.inr rfl) (Gh.refl _) [] (qs := [.one (.arr sz b (vb + 1) 0 (l.length + 1))]) (cnd := True) (by simp only [go_sem]) trivial (by simp only [go_sem]) (by simp only [go_sem]) (by simp only [List.length_set]; exact Nat.le_refl _) (by simp only [go_sem, List.length_set]; exact hbl) (by simpa only [go_sem] using hfin)⟩
  have hlt : i < l.length := by omega
  refine run_open hb (fun l' hl' hlm => ?_)
  obtain ⟨M1, hM1⟩ : ∃ M1, M1 = M.set b (.rows t sz vb (l ++ l') true) := ⟨_, rfl⟩
  have hlen : M1.length = M.length := by rw [hM1, List.length_set]
  have hb1 : M1[b]? = some (.rows t sz vb (l ++ l') true) := by rw [hM1, List.getElem?_set, if_pos rfl, if_pos hbl]
  have hc1 : M1[c]? = some (.rows tc sz vc [row] fc) := by rw [hM1, List.getElem?_set, if_neg hbc, hc]
  have hset : ∀ x, M1.set b x = M.set b x := fun x => by rw [hM1, List.set_set]
  rw [← hM1]
  refine V_sound ?_
  have hin' : ((i : Int) = (l.length : Int)) = False := by simp; omega
  have hlz : ¬ ((i : Int) = (l.length : Int) ∧ ¬ (i : Int) = 0) := by omega
  have hw : IntKind.i64.wrap ((l.length : Int) + 1) = ((l.length + 1 : Nat) : Int) := w64s (by omega)
  have hw2 : IntKind.i64.wrap ((i : Int) + 1) = ((i + 1 : Nat) : Int) := w64s (by omega)
  have hw3 : IntKind.i64.wrap (((l.length + 1 : Nat) : Int) - i) = ((l.length + 1 - i : Nat) : Int) := by rw [w64 (by omega) (by omega)]; omega
  have hin0 : (i = l.length) = False := by simp; omega
  have hin1 : (i = l.length + 1) = False := by simp; omega
  have hadd : i + (l.length + 1 - i) = l.length + 1 := by omega
  have hgA : ∀ x, (M1 ++ [x])[M1.length]? = some x := fun x => by simp
  have hbA : ∀ x, (M1 ++ [x])[b]? = some (.rows t sz vb (l ++ l') true) := fun x => by rw [List.getElem?_append_left (by omega)]; exact hb1
  have hcA : ∀ x, (M1 ++ [x])[c]? = some (.rows tc sz vc [row] fc) := fun x => by rw [List.getElem?_append_left (by omega)]; exact hc1
  have hsA : ∀ x y, (M1 ++ [x]).set M1.length y = M1 ++ [y] := fun x y => by simp
  have htk : [row].take (l.length + 1 - i) = [row] := List.take_of_length_le (by simp; omega)
  have hmin : min 1 (l.length + 1 - i) = 1 := by omega
  have hmin2 : min (l.length - i) (l.length + 1 - (i + 1)) = l.length - i := by omega
  by_cases hl0 : l' = []
  · subst hl0
    simp only [List.append_nil] at hb1 hbA hM1 hlm
    simp only [insC, go_sem, hb1, hc1, hin', hlz, hw, hw2, hw3, hin0, hin1, hadd, hgA, hbA, hcA, hsA, htk, hmin, hmin2]
    obtain ⟨q1, q2, q3⟩ := insA (row := row) (Z := List.replicate (l.length + 1 - i) (List.map (fun v => AV.c (CV.v v)) z)) hlt (by simp)
    rw [q1, q2, q3]
    refine ⟨by omega, by omega, ⟨by omega, by omega, hbig⟩, by omega, by omega, by omega, by omega, by omega, ?_⟩
    refine fin_own (.inr rfl) (gh_move (b := b) (c := M1.length) 6 0 (l.length + 1) (hbA _) (hgA _) (by simp only [go_sem])) [.dead] (qs := [.one (.arr sz b (vb + 1) 0 (l.length + 1))]) (cnd := True) (by simp only [go_sem]) trivial ?_ (by simp only [go_sem]) (by simp only [List.length_set]; exact Nat.le_refl _) (by simp only [go_sem, List.length_set]; exact hbl) hfin
    show ((M1 ++ [_]).set M1.length .dead).set b _ = _
    rw [hsA, List.set_append_left _ _ (by omega), hset]
  · have hll : 0 < l'.length := List.length_pos_iff.2 hl0
    have hroom : ((l ++ l').length < l.length + 1) = False := by simp only [List.length_append, eq_iff_iff, iff_false]; omega
    simp only [insC, go_sem, hb1, hc1, hin', hlz, hw, hw2, hw3, hin0, hin1, hadd, htk, hmin, hmin2, hroom]
    have hgS : ∀ x, (M1.set b x)[b]? = some x := fun x => by rw [List.getElem?_set, if_pos rfl, if_pos (by omega)]
    have hcS : ∀ x, (M1.set b x)[c]? = some (.rows tc sz vc [row] fc) := fun x => by rw [List.getElem?_set, if_neg hbc]; exact hc1
    have hsS : ∀ x y, (M1.set b x).set b y = M1.set b y := fun x y => List.set_set ..
    refine ⟨by omega, ⟨by omega, .inr (by rw [List.length_append]; omega)⟩, by omega, call1 (ovl_rc (ob := 0) (lb := 1) (oc := i + 1) (lc := l.length + 1 - (i + 1)) ho hsz (by rw [List.length_append]; omega) (fun e => hbc e.symm) hc1 hb1) (by simp only [go_sem]) (fun _ => rfl) ?_⟩
    simp only [go_sem, hb1, hc1, hin', hlz, hw, hw2, hw3, hin0, hin1, hadd, htk, hmin, hmin2, hroom, hgS, hcS, hsS]
    obtain ⟨q1, q2⟩ := insB (row := row) hlt hll
    refine ⟨by omega, by omega, ⟨by rw [List.length_append]; omega, by rw [List.length_append]; omega⟩, by omega, q2, ?_⟩
    have hg := fun (e : Nat → SV) => gh_trunc (e := e) (n := 95) (m := M.length) (l.length + 1) (hgS (.rows t sz vb (List.take i (List.take (i + 1) (l ++ l') ++ List.take (l.length + 1 - (i + 1)) (List.take (l.length + 1 - i) (List.drop i (l ++ l'))) ++ List.drop (i + 1 + min (l.length + 1 - i) (l.length + 1 - (i + 1))) (l ++ l')) ++ [row] ++ List.drop (i + 1) (List.take (i + 1) (l ++ l') ++ List.take (l.length + 1 - (i + 1)) (List.take (l.length + 1 - i) (List.drop i (l ++ l'))) ++ List.drop (i + 1 + min (l.length + 1 - i) (l.length + 1 - (i + 1))) (l ++ l'))) true))
    simp only [q1, hsS] at hg
    refine fin_own (.inr rfl) ((hg _).trans (gh_move (b := b) (c := b) 6 0 (l.length + 1) (hgS _) (hgS _) (by simp only [go_sem]))) [] (qs := [.one (.arr sz b (vb + 1) 0 (l.length + 1))]) (cnd := True) (by simp only [go_sem]) trivial ?_ (by simp only [go_sem]) (by simp only [List.length_set]; exact Nat.le_refl _) (by simp only [go_sem, List.length_set]; exact hbl) hfin
    show ((M1.set b _).set b .dead).set b _ = _
    rw [hsS, hsS, hset, List.append_nil]
end
end Go.Proofs.YtcmkhlfjcdchmaaGreatAbs
end
section
namespace Go.Proofs.YtcmkhlfjcdchmaaGreatAbs
open Go Go.RowKit
/-- A call is the same beside whatever further memory. -/
theorem callR_frame {P : Program} {f : Nat} {ps : List Pt} {r : SV} {M M' : List Blk} (h : CallR P M f ps r M') (hl : M'.length = M.length) (hps : ∀ q ∈ ps, ltP M.length q) (hB : ∀ x ∈ M, ltB M.length x) (D : List Blk) : CallR P (M ++ D) f ps r (M' ++ D) := by
  intro I σ w vals hG hm hvl hvr
  have hlen : σ.length = M.length + D.length := by have := hm.len; simpa using this
  obtain ⟨hm1, hh1⟩ := Mem.drop hm hB
  refine Comes.mono (h I (σ.take M.length) w vals hG hm1 hvl (fun k q x hq hx => RelP_take (hps q (List.mem_of_getElem? hq)) (hvr k q x hq hx))) ?_
  rintro v w' ⟨I', σ', hr, hev⟩
  have hl1 : (σ.take M.length).length = M.length := by simp; omega
  have hl2 : σ'.length = M.length := by have := hev.mem.len; omega
  have hD : ∀ (b : Nat) (x : Blk) (p : Plc), D[b]? = some x → (σ.drop M.length)[b]? = some p → (M ++ D)[M.length + b]? = some x ∧ σ[M.length + b]? = some p := by
    intro b x p hx hp
    rw [List.getElem?_drop] at hp
    exact ⟨by rw [List.getElem?_append_right (by omega)]; simpa using hx, hp⟩
  have hM : ∀ (b : Nat) (x : Blk) (p : Plc), M[b]? = some x → (σ.take M.length)[b]? = some p → (M ++ D)[b]? = some x ∧ σ[b]? = some p := by
    intro b x p hx hp
    have hb := getElem?_lt hx
    rw [List.getElem?_take, if_pos hb] at hp
    exact ⟨by rw [List.getElem?_append_left hb]; exact hx, hp⟩
  -- a further block is none of those that are told
  have hno : ∀ (b : Nat) (x : Blk) (p : Plc) (g : Nat), D[b]? = some x → x.live = true → (σ.drop M.length)[b]? = some p → p.blk = some g → ¬ Has (σ.take M.length) M g := by
    rintro b x p g hx hlv hp hg ⟨b', x', p', hx', hlv', hp', hg'⟩
    obtain ⟨k1, k2⟩ := hD b x p hx hp
    obtain ⟨k3, k4⟩ := hM b' x' p' hx' hp'
    have := hm.inj _ _ x x' p p' g k1 k3 hlv hlv' k2 k4 hg hg'
    have hb' := getElem?_lt hx'
    omega
  have hlt : ∀ (b : Nat) (x : Blk) (p : Plc) (g : Nat), D[b]? = some x → x.live = true → (σ.drop M.length)[b]? = some p → p.blk = some g → g < w.heap.size := by
    intro b x p g hx hlv hp hg
    obtain ⟨k1, k2⟩ := hD b x p hx hp
    exact RelB_lt (hm.blk _ x p k1 k2) hlv hg
  have hext : ExtP σ (σ' ++ σ.drop M.length) := by
    intro b p hp
    by_cases hb : b < M.length
    · obtain ⟨p', hp', hq⟩ := hev.extP b p (by rw [List.getElem?_take, if_pos hb]; exact hp)
      exact ⟨p', by rw [List.getElem?_append_left (by omega)]; exact hp', hq⟩
    · refine ⟨p, ?_, Nat.le_refl _, fun _ => rfl⟩
      rw [List.getElem?_append_right (by omega), List.getElem?_drop, hl2, show M.length + (b - M.length) = b by omega]
      exact hp
  have hsplit : ∀ (b : Nat) (x : Blk) (p : Plc), (M' ++ D)[b]? = some x → (σ' ++ σ.drop M.length)[b]? = some p → (M'[b]? = some x ∧ σ'[b]? = some p) ∨ (M.length ≤ b ∧ D[b - M.length]? = some x ∧ (σ.drop M.length)[b - M.length]? = some p) := by
    intro b x p hx hp
    by_cases hb : b < M.length
    · rw [List.getElem?_append_left (by omega)] at hx hp
      exact .inl ⟨hx, hp⟩
    · rw [List.getElem?_append_right (by omega)] at hx hp
      rw [hl] at hx
      rw [hl2] at hp
      exact .inr ⟨by omega, hx, hp⟩
  have hown : ∀ g, Has σ' M' g → ∀ (b : Nat) (x : Blk) (p : Plc), D[b]? = some x → x.live = true → (σ.drop M.length)[b]? = some p → p.blk = some g → False := by
    intro g hg b x p hx hlv hp hpg
    rcases hev.own g hg with h1 | h1
    · exact hno b x p g hx hlv hp hpg h1
    · have := hlt b x p g hx hlv hp hpg
      omega
  refine ⟨I', σ' ++ σ.drop M.length, RelS_mono (ExtI.refl _) (ExtP.append _ _) hr, ⟨hev.extI, hext, ⟨?_, ?_, ?_, ?_, hev.mem.imm⟩, ?_, ?_, ?_⟩⟩
  · simp; omega
  · intro b x p hx hp
    rcases hsplit b x p hx hp with ⟨h1, h2⟩ | ⟨h0, h1, h2⟩
    · exact RelB_mono (ExtI.refl _) (ExtP.append _ _) (fun _ _ _ => rfl) (hev.mem.blk b x p h1 h2)
    · obtain ⟨k1, k2⟩ := hD _ x p h1 h2
      refine RelB_mono hev.extI hext (fun g hlv hg => ?_) (hm.blk _ x p k1 k2)
      exact hev.keep.block g (hlt _ x p g h1 hlv h2 hg) (hno _ x p g h1 hlv h2 hg)
  · intro b b' x x' p p' g hx hx' lx lx' hp hp' hg hg'
    rcases hsplit b x p hx hp with ⟨h1, h2⟩ | ⟨h0, h1, h2⟩ <;> rcases hsplit b' x' p' hx' hp' with ⟨h1', h2'⟩ | ⟨h0', h1', h2'⟩
    · exact hev.mem.inj b b' x x' p p' g h1 h1' lx lx' h2 h2' hg hg'
    · exact (hown g ⟨b, x, p, h1, lx, h2, hg⟩ _ x' p' h1' lx' h2' hg').elim
    · exact (hown g ⟨b', x', p', h1', lx', h2', hg'⟩ _ x p h1 lx h2 hg).elim
    · obtain ⟨k1, k2⟩ := hD _ x p h1 h2
      obtain ⟨k3, k4⟩ := hD _ x' p' h1' h2'
      have := hm.inj _ _ x x' p p' g k1 k3 lx lx' k2 k4 hg hg'
      omega
  · intro b x p g hx lx hp hg ad had
    rcases hsplit b x p hx hp with ⟨h1, h2⟩ | ⟨h0, h1, h2⟩
    · exact hev.mem.ap b x p g h1 lx h2 hg ad had
    · obtain ⟨k1, k2⟩ := hD _ x p h1 h2
      cases hI : I' ad with
      | none => rfl
      | some y =>
        exfalso
        rcases hev.fresh ad y hI with h3 | h3 | h3
        · rw [hm.ap _ x p g k1 lx k2 hg ad had] at h3
          cases h3
        · have := hlt _ x p g h1 lx h2 hg
          omega
        · rw [had] at h3
          exact hno _ x p g h1 lx h2 hg h3
  · exact hev.keep.mono (fun k _ h => hh1 k h)
  · rintro g ⟨b, x, p, hx, lx, hp, hg⟩
    rcases hsplit b x p hx hp with ⟨h1, h2⟩ | ⟨h0, h1, h2⟩
    · rcases hev.own g ⟨b, x, p, h1, lx, h2, hg⟩ with h3 | h3
      · exact .inl (hh1 g h3)
      · exact .inr h3
    · obtain ⟨k1, k2⟩ := hD _ x p h1 h2
      exact .inl ⟨_, x, p, k1, lx, k2, hg⟩
  · intro ad x hx
    rcases hev.fresh ad x hx with h1 | h1 | h1
    · exact .inl h1
    · exact .inr (.inl h1)
    · exact .inr (.inr (hh1 _ h1))
end Go.Proofs.YtcmkhlfjcdchmaaGreatAbs
end
section
namespace Go.Proofs.YtcmkhlfjcdchmaaGreatAbs
open Go Go.RowKit Go.ChangeShapes
/-- Whatever is read as data of type t is told by some y: its cells are c y, and it meets wf. -/
structure OpensC (P : Program) (t : TypeId) {α : Type} (sz : Nat) (c : α → Nat → CV) (wf : α → Prop) : Prop where mk ::
  out : ∀ {H : Type} (enc : TypeId × Value → H) (w : World) (base : Nat) (spare : Nat → Bool) (held : Bool) (fuel : Nat) (cs : List Value) (x : DataW H × List MemPlace),
    DataW.trod enc P w base spare held fuel t cs = some x → (∀ n ∈ x.1.weights P t, n ≤ reachBytes) → ∃ y : α, wf y ∧ cs.length = sz ∧ ∀ (k : Nat) (u : Value), cs[k]? = some u → RelC (fun ad => w.cell? ad) (c y k) u
def CInt (k : IntKind) (n : Int) (_ : Nat) : CV := .v (.int k n)
def CBool (b : Bool) (_ : Nat) : CV := .v (.bool b)
def CStr (s : ByteArray) (_ : Nat) : CV := .v (.string s)
def CSl {α : Type} [Inhabited α] (sz : Nat) (c : α → Nat → CV) (l : List α) (_ : Nat) : CV := .imm sz l.length fun i j => c (l.getD i default) j
def CPair {α β : Type} (sz : Nat) (a : α → Nat → CV) (b : β → Nat → CV) (y : α × β) (k : Nat) : CV := bif decide (k < sz) then a y.1 k else b y.2 (k - sz)
def WInt (k : IntKind) (n : Int) : Prop := (Lit.int k n).wf = true
def WAny {α : Type} (_ : α) : Prop := True
def WStr (s : ByteArray) : Prop := s.size ≤ 140737488351232
def WSlice (bytes : Nat) {α : Type} (wf : α → Prop) (xs : List α) : Prop := xs.length * bytes ≤ 140737488351232 ∧ ∀ x ∈ xs, wf x
def WPair {α β : Type} (a : α → Prop) (b : β → Prop) (y : α × β) : Prop := a y.1 ∧ b y.2
theorem opens_int {P : Program} {t : TypeId} {k : IntKind} (ht : P.underlying t = some (.int k)) : OpensC P t 1 (CInt k) (WInt k) := by
  refine ⟨?_⟩
  intro H enc w base spare held fuel cs x h _
  obtain ⟨n, rfl, _, hw⟩ := DataW.trod_int ht h
  refine ⟨n, hw, rfl, fun k u hu => ?_⟩
  match k, hu with
  | 0, hu => simp at hu; subst hu; exact ⟨rfl, rfl⟩
theorem opens_bool {P : Program} {t : TypeId} (ht : P.underlying t = some .bool) : OpensC P t 1 CBool WAny := by
  refine ⟨?_⟩
  intro H enc w base spare held fuel cs x h _
  obtain ⟨n, rfl, _⟩ := DataW.trod_bool ht h
  refine ⟨n, trivial, rfl, fun k u hu => ?_⟩
  match k, hu with
  | 0, hu => simp at hu; subst hu; exact ⟨rfl, rfl⟩
theorem opens_string {P : Program} {t : TypeId} (ht : P.underlying t = some .string) : OpensC P t 1 CStr WStr := by
  refine ⟨?_⟩
  intro H enc w base spare held fuel cs x h hw
  obtain ⟨n, rfl, rfl, _⟩ := DataW.trod_string ht h
  refine ⟨n, ?_, rfl, fun k u hu => ?_⟩
  · have := hw n.data.toList.length (by simp [DataW.weights])
    have e : n.data.toList.length = n.size := Array.length_toList
    rw [e] at this
    exact this
  match k, hu with
  | 0, hu => simp at hu; subst hu; exact ⟨rfl, rfl⟩
theorem weightsAll_mem {H : Type} {P : Program} {e : TypeId} : ∀ {l : List (DataW H)} {d : DataW H}, d ∈ l → ∀ n ∈ d.weights P e, n ∈ DataW.weightsAll P e l
  | d0 :: l, d, hd, n, hn => by
    simp only [DataW.weightsAll, List.mem_append]
    rcases List.mem_cons.1 hd with rfl | hd
    · exact .inl hn
    · exact .inr (weightsAll_mem hd n hn)
  | [], d, hd, _, _ => by simp at hd
theorem opens_slice {P : Program} {t e : TypeId} {α : Type} [Inhabited α] {sz : Nat} {c : α → Nat → CV} {wf : α → Prop} (ht : P.underlying t = some (.slice e)) (bytes : Nat) (hby : P.bytesOf e = bytes) (hsz : P.cellsOf e = sz) (he : OpensC P e sz c wf) :
    OpensC P t 1 (CSl sz c) (WSlice bytes wf) := by
  refine ⟨?_⟩
  intro H enc w base spare held fuel cs x h hw
  rcases DataW.trod_slice ht h with ⟨rfl, rfl⟩ | ⟨a, len, cap, elems, rest, n, _, rfl, rfl, hb, hl, hm, hlen, hel, hsp, hns⟩
  · refine ⟨[], ⟨by simp, by simp⟩, rfl, fun k u hu => ?_⟩
    match k, hu with
    | 0, hu => simp at hu; subst hu; exact ⟨none, 0, rfl, Nat.le_refl _, .inl rfl⟩
  · have hwt : ∀ m ∈ (DataW.slice (elems.map (·.1)) (rest.map (·.1))).weights P t, m ≤ reachBytes := hw
    have key : ∀ i, i < len → ∃ y, wf y ∧ ∃ c0 : List Value, c0.length = sz ∧ (∀ j u, c0[j]? = some u → RelC (fun ad => w.cell? ad) (c y j) u) ∧ ∀ j u, c0[j]? = some u → w.cell? (a.add (i * sz + j)) = some u := by
      intro i hi
      have h1 := hel i hi
      have hi' : i < elems.length := by omega
      rw [List.getElem?_eq_getElem hi', Option.bind_eq_some_iff] at h1
      obtain ⟨c0, hc, h2⟩ := h1
      obtain ⟨hbb, hcl, hcell⟩ := World.cells?_some hc
      have hwt2 : ∀ m ∈ (elems[i].1).weights P e, m ≤ reachBytes := by
        intro m hmm
        refine hwt m ?_
        simp only [DataW.weights, ht]
        refine List.mem_cons_of_mem _ (List.mem_append_left _ (weightsAll_mem (d := elems[i].1) ?_ m hmm))
        exact List.mem_map.2 ⟨elems[i], List.getElem_mem hi', rfl⟩
      obtain ⟨y, hy, hcs, hk⟩ := he.out enc w base spare held n c0 elems[i] h2 hwt2
      refine ⟨y, hy, c0, hcs, hk, fun j u hu => ?_⟩
      have hj : j < P.cellsOf e := by have := (List.getElem?_eq_some_iff.1 hu).1; omega
      rw [← hsz, ← Addr.add_add, hcell j hj, hu]
    obtain ⟨ys, hyl, hys⟩ := choose_list len key
    refine ⟨ys, ⟨?_, ?_⟩, rfl, fun k u hu => ?_⟩
    · have := hwt ((elems.length + rest.length) * P.bytesOf e) (by simp [DataW.weights, ht])
      rw [hby] at this
      have h3 : ys.length * bytes ≤ (elems.length + rest.length) * bytes := Nat.mul_le_mul_right _ (by omega)
      have h4 : reachBytes = 140737488351232 := rfl
      omega
    · intro y hy
      obtain ⟨i, hi⟩ := List.getElem?_of_mem hy
      exact (hys i y hi).1
    · match k, hu with
      | 0, hu =>
        simp at hu
        subst hu
        refine ⟨some a, cap, by rw [hyl], by omega, .inr ⟨a, rfl, fun i hi j hj => ?_⟩⟩
        have hi2 : i < ys.length := hi
        obtain ⟨_, c0, hcs, hk, hcell⟩ := hys i ys[i] (List.getElem?_eq_getElem hi2)
        have hj2 : j < c0.length := by omega
        refine ⟨c0[j], hcell j _ (List.getElem?_eq_getElem hj2), ?_⟩
        have : ys.getD i default = ys[i] := by simp [List.getD_eq_getElem?_getD, hi2]
        show RelC _ (c (ys.getD i default) j) _
        rw [this]
        exact hk j _ (List.getElem?_eq_getElem hj2)
/-- The fields from one on, which lie one behind the other. -/
structure OpensF (P : Program) (fs : List Field) (off : Nat) {α : Type} (sz : Nat) (c : α → Nat → CV) (wf : α → Prop) : Prop where mk ::
  out : ∀ {H : Type} (enc : TypeId × Value → H) (w : World) (base : Nat) (spare : Nat → Bool) (held : Bool) (fuel : Nat) (cs : List Value) (xs : List (DataW H × List MemPlace)),
    cs.length = off + sz → xs.length = fs.length → (∀ (i : Nat) (f : Field), fs[i]? = some f → DataW.trod enc P w base spare held fuel f.type ((cs.drop f.offset).take (P.cellsOf f.type)) = xs[i]?) →
    (∀ n ∈ DataW.weightsEach P (fs.map (·.type)) (xs.map (·.1)), n ≤ reachBytes) → ∃ y : α, wf y ∧ ∀ (k : Nat) (u : Value), cs[off + k]? = some u → RelC (fun ad => w.cell? ad) (c y k) u
theorem opensF_one {P : Program} {f : Field} {off sz : Nat} {α : Type} {c : α → Nat → CV} {wf : α → Prop} (ho : f.offset = off) (hsz : P.cellsOf f.type = sz) (h : OpensC P f.type sz c wf) : OpensF P [f] off sz c wf := by
  refine ⟨?_⟩
  intro H enc w base spare held fuel cs xs hl hxl hx hw
  have h0 := hx 0 f rfl
  obtain ⟨x0, rfl⟩ : ∃ x0, xs = [x0] := by
    match xs, hxl with
    | [x0], _ => exact ⟨x0, rfl⟩
  simp only [List.getElem?_cons_zero] at h0
  rw [ho, hsz, List.take_of_length_le (by simp; omega)] at h0
  obtain ⟨y, hy, hcl, hr⟩ := h.out enc w base spare held fuel _ x0 h0 (fun n hn => hw n (by simp [DataW.weightsEach, hn]))
  exact ⟨y, hy, fun k u hu => hr k u (by rw [List.getElem?_drop]; exact hu)⟩
theorem opensF_cons {P : Program} {f : Field} {fs : List Field} {off sz sz' : Nat} {α β : Type} {c : α → Nat → CV} {c' : β → Nat → CV} {wf : α → Prop} {wf' : β → Prop} (ho : f.offset = off) (hsz : P.cellsOf f.type = sz) (h : OpensC P f.type sz c wf)
    (hs : OpensF P fs (off + sz) sz' c' wf') : OpensF P (f :: fs) off (sz + sz') (CPair sz c c') (WPair wf wf') := by
  refine ⟨?_⟩
  intro H enc w base spare held fuel cs xs hl hxl hx hw
  obtain ⟨x0, xr, rfl⟩ : ∃ x0 xr, xs = x0 :: xr := by
    match xs, hxl with
    | x0 :: xr, _ => exact ⟨x0, xr, rfl⟩
  have h0 := hx 0 f rfl
  simp only [List.getElem?_cons_zero] at h0
  rw [ho, hsz] at h0
  obtain ⟨y0, hy0, hc0, hr0⟩ := h.out enc w base spare held fuel _ x0 h0 (fun n hn => hw n (by simp [DataW.weightsEach, hn]))
  obtain ⟨y1, hy1, hr1⟩ := hs.out enc w base spare held fuel cs xr (by omega) (by simpa using hxl) (fun i g hg => by have := hx (i + 1) g (by simpa using hg); simpa using this) (fun n hn => hw n (by simp only [List.map_cons, DataW.weightsEach, List.mem_append]; exact .inr hn))
  refine ⟨(y0, y1), ⟨hy0, hy1⟩, fun k u hu => ?_⟩
  unfold CPair
  by_cases hk : k < sz
  · simp only [hk, decide_true, cond_true]
    exact hr0 k u (by rw [List.getElem?_take, if_pos hk, List.getElem?_drop]; exact hu)
  · simp only [hk, decide_false, cond_false]
    refine hr1 (k - sz) u ?_
    rw [show off + sz + (k - sz) = off + k by omega]
    exact hu
theorem opens_struct {P : Program} {t : TypeId} {fs : Array Field} {sz : Nat} {α β : Type} {c : β → Nat → CV} {c' : α → Nat → CV} {wf : β → Prop} {wf' : α → Prop} (ht : P.underlying t = some (.struct fs)) (hsz : P.cellsOf t = sz) (hs : OpensF P fs.toList 0 sz c wf)
    (g : β → α) (hc : ∀ y k, k < sz → c y k = c' (g y) k) (hw : ∀ y, wf y → wf' (g y)) : OpensC P t sz c' wf' := by
  refine ⟨?_⟩
  intro H enc w base spare held fuel cs x h hwt
  obtain ⟨xs, n, rfl, rfl, hl, hxl, hx⟩ := DataW.trod_struct ht h
  obtain ⟨y, hy, hr⟩ := hs.out enc w base spare held n cs xs (by omega) (by simpa using hxl) (fun i g hg => hx i g (by simpa using hg)) (fun m hm => hwt m (by simpa [DataW.weights, ht] using hm))
  refine ⟨g y, hw y hy, by omega, fun k u hu => ?_⟩
  have := (List.getElem?_eq_some_iff.1 hu).1
  rw [← hc y k (by omega)]
  exact hr k u (by rw [Nat.zero_add]; exact hu)
/-- A slice, as an argument. -/
theorem slice_arg {H : Type} {enc : TypeId × Value → H} {P : Program} {w : World} {base : Nat} {spare : Nat → Bool} {held : Bool} {t e : TypeId} {α : Type} {c : α → Nat → CV} {wf : α → Prop} {v : Value} {D : DataW H} {ps : List MemPlace}
    (ho : OpensC P t 1 c wf) (ht : P.underlying t = some (.slice e)) (hv : Value.okWide P w .any base t v) (h : DataW.Trod enc P w 0 spare held t v D ps) (hw : ∀ n ∈ D.weights P t, n ≤ reachBytes) :
    ∃ y : α, wf y ∧ RelP (fun ad => w.cell? ad) [] (.one (.c (c y 0))) v := by
  obtain ⟨fuel, hf⟩ := h
  obtain ⟨y, hy, hl, hr⟩ := ho.out enc w 0 spare held fuel _ (D, ps) hf hw
  obtain ⟨A', n', c', rfl⟩ := WideShapes.okWide_slice ht hv
  exact ⟨y, hy, hr 0 _ rfl⟩
/-- A struct, as an argument. -/
theorem struct_arg {H : Type} {enc : TypeId × Value → H} {P : Program} {w : World} {base : Nat} {spare : Nat → Bool} {held : Bool} {t : TypeId} {fs : Array Field} {sz : Nat} {α : Type} {c : α → Nat → CV} {wf : α → Prop} {v : Value} {D : DataW H} {ps : List MemPlace}
    (ho : OpensC P t sz c wf) (ht : P.underlying t = some (.struct fs)) (hv : Value.okWide P w .any base t v) (h : DataW.Trod enc P w 0 spare held t v D ps) (hw : ∀ n ∈ D.weights P t, n ≤ reachBytes) :
    ∃ y : α, wf y ∧ RelP (fun ad => w.cell? ad) [] (.agg (cellsUp (c y) 0 sz)) v := by
  obtain ⟨fuel, hf⟩ := h
  obtain ⟨y, hy, hl, hr⟩ := ho.out enc w 0 spare held fuel _ (D, ps) hf hw
  simp only [Value.okWide, ht] at hv
  obtain ⟨cs, rfl, _⟩ := hv
  have up : ∀ (n k j : Nat) (a : AV), (cellsUp (c y) k n)[j]? = some a → a = .c (c y (k + j)) := by
    intro n
    induction n with
    | zero => intro k j a h; simp [cellsUp] at h
    | succ n ih =>
      intro k j a h
      cases j with
      | zero => simp [cellsUp] at h; rw [← h]; rfl
      | succ j => have := ih (k + 1) j a (by simpa [cellsUp] using h); rw [this, show k + 1 + j = k + (j + 1) by omega]
  have upl : ∀ (n k : Nat), (cellsUp (c y) k n).length = n := by
    intro n
    induction n with
    | zero => intro k; rfl
    | succ n ih => intro k; simp [cellsUp, ih]
  refine ⟨y, hy, cs, rfl, ?_, fun k a x ha hx => ?_⟩
  · rw [upl]; exact hl
  · have := up _ _ _ _ ha
    subst this
    rw [Nat.zero_add]
    exact hr k x hx
theorem rel_int {I : Im} (k : IntKind) (n : Int) : RelP I [] (.one (.c (.v (.int k n)))) (.int k n) := ⟨rfl, rfl⟩
theorem rel_bool {I : Im} (b : Bool) : RelP I [] (.one (.c (.v (.bool b)))) (.bool b) := ⟨rfl, rfl⟩
theorem rel_string {I : Im} (s : ByteArray) : RelP I [] (.one (.c (.v (.string s)))) (.string s) := ⟨rfl, rfl⟩
def RelPs (w : World) : List Pt → List Value → Prop
  | [], [] => True
  | q :: qs, x :: xs => RelP (fun ad => w.cell? ad) [] q x ∧ RelPs w qs xs
  | _, _ => False
theorem RelPs.length {w : World} : ∀ {ps : List Pt} {vs : List Value}, RelPs w ps vs → vs.length = ps.length
  | [], [], _ => rfl
  | q :: qs, x :: xs, h => by simp [RelPs.length h.2]
theorem RelPs.get {w : World} : ∀ {ps : List Pt} {vs : List Value}, RelPs w ps vs → ∀ (k : Nat) (q : Pt) (x : Value), ps[k]? = some q → vs[k]? = some x → RelP (fun ad => w.cell? ad) [] q x
  | q :: qs, y :: ys, h, 0, p, x, hp, hx => by
    injection hp with hp; injection hx with hx; subst hp; subst hx; exact h.1
  | q :: qs, y :: ys, h, k + 1, p, x, hp, hx => RelPs.get h.2 k p x hp hx
theorem GI_none {P : Program} {I : Im} (h : P.globals.findIdx? (fun x => x.name == "internal/bytealg.MaxLen") = none) : GI P I := fun g hg => by rw [h] at hg; cases hg
theorem GI_some {P : Program} {I : Im} {g : Nat} {m : Int} (h : P.globals.findIdx? (fun x => x.name == "internal/bytealg.MaxLen") = some g) (hI : I ⟨g, 0, none⟩ = some (.int .i64 m)) : GI P I := fun g' hg => by rw [h] at hg; injection hg with hg; subst hg; exact ⟨m, hI⟩
/-- What a law that is told true comes to. -/
theorem law_calls {P : Program} {f n : Nat} {c : C} {rvs : List RV} {ps : List Pt} (hF : Fun P f n c rvs) {b : Bool} (h : CallR P [] f ps (.b b) []) {w : World} {vals : Array Value} (hG : GI P (fun ad => w.cell? ad)) (hr : RelPs w ps vals.toList) : Calls P f vals w fun e w' => e = .returned (.bool b) ∧ Below w.heap.size w w' := by
  have hm : Mem (fun ad => w.cell? ad) [] [] w := ⟨rfl, fun b x p h => by simp at h, fun b b' x x' p p' g h => by simp at h, fun b x p g h => by simp at h, fun a x h => h⟩
  obtain ⟨fn, code, hf, hname, hb, rfl, hc, hrs⟩ := hF.ex
  have hno : ∀ g, ¬ Has ([] : List Plc) [] g := by rintro g ⟨b, x, p, h, _⟩; simp at h
  rcases h _ [] w vals hG hm (by have := hr.length; simpa using this) (fun k q x hq hx => hr.get k q x hq (by simpa using hx)) with ⟨_, hc⟩ | ⟨v, w', hrun, _⟩
  · refine hc.mono ?_
    rintro e w' ⟨v, rfl, I', σ', ⟨rfl, _⟩, hev⟩
    exact ⟨rfl, hev.keep.os, hev.keep.tape, hev.keep.output, hev.keep.size, fun k hk => hev.keep.block k hk (hno k)⟩
  · exfalso
    have hrun2 : (callFunc f vals).run P w = .ok (.enter f vals) w := by
      simp only [callFunc, program, Sem.run, Sem.run_bind, Sem.run_pure, Result.andThen_ok, hf]
      simp only [hname, Bool.false_eq_true, if_false]
      have hb : fn.body.isNone = false := by rw [hb]; rfl
      simp [hb]
    rw [hrun] at hrun2
    simp at hrun2
end Go.Proofs.YtcmkhlfjcdchmaaGreatAbs
end
section
namespace Go.Proofs.YtcmkhlfjcdchmaaGreatAbs
open Go Go.RowKit
attribute [go_sem] Option.isNone_none Option.isNone_some Bool.and_false Bool.false_and Bool.true_and Bool.and_true Bool.or_false Bool.false_or Bool.true_or Bool.or_true Bool.not_true Bool.not_false Bool.false_eq_true Bool.true_eq_false if_true if_false
@[go_sem] theorem bne_0 : ((0 : Int) != 0) = false := rfl
@[go_sem] theorem beq_0 : ((0 : Int) == 0) = true := rfl
@[go_sem] theorem bne_1 : ((1 : Int) != 0) = true := rfl
@[go_sem] theorem beq_1 : ((1 : Int) == 0) = false := rfl
@[go_sem] theorem eqz_1 : ((1 : Int) = 0) = False := eq_false (by decide)
@[go_sem] theorem bne_2 : ((2 : Int) != 0) = true := rfl
@[go_sem] theorem beq_2 : ((2 : Int) == 0) = false := rfl
@[go_sem] theorem eqz_2 : ((2 : Int) = 0) = False := eq_false (by decide)
@[go_sem] theorem bne_3 : ((3 : Int) != 0) = true := rfl
@[go_sem] theorem beq_3 : ((3 : Int) == 0) = false := rfl
@[go_sem] theorem eqz_3 : ((3 : Int) = 0) = False := eq_false (by decide)
@[go_sem] theorem bne_4 : ((4 : Int) != 0) = true := rfl
@[go_sem] theorem beq_4 : ((4 : Int) == 0) = false := rfl
@[go_sem] theorem eqz_4 : ((4 : Int) = 0) = False := eq_false (by decide)
@[go_sem] theorem bne_5 : ((5 : Int) != 0) = true := rfl
@[go_sem] theorem beq_5 : ((5 : Int) == 0) = false := rfl
@[go_sem] theorem eqz_5 : ((5 : Int) = 0) = False := eq_false (by decide)
@[go_sem] theorem bne_6 : ((6 : Int) != 0) = true := rfl
@[go_sem] theorem beq_6 : ((6 : Int) == 0) = false := rfl
@[go_sem] theorem eqz_6 : ((6 : Int) = 0) = False := eq_false (by decide)
@[go_sem] theorem bne_7 : ((7 : Int) != 0) = true := rfl
@[go_sem] theorem beq_7 : ((7 : Int) == 0) = false := rfl
@[go_sem] theorem eqz_7 : ((7 : Int) = 0) = False := eq_false (by decide)
@[go_sem] theorem bne_8 : ((8 : Int) != 0) = true := rfl
@[go_sem] theorem beq_8 : ((8 : Int) == 0) = false := rfl
@[go_sem] theorem eqz_8 : ((8 : Int) = 0) = False := eq_false (by decide)
@[go_sem] theorem bne_9 : ((9 : Int) != 0) = true := rfl
@[go_sem] theorem beq_9 : ((9 : Int) == 0) = false := rfl
@[go_sem] theorem eqz_9 : ((9 : Int) = 0) = False := eq_false (by decide)
@[go_sem] theorem bne_10 : ((10 : Int) != 0) = true := rfl
@[go_sem] theorem beq_10 : ((10 : Int) == 0) = false := rfl
@[go_sem] theorem eqz_10 : ((10 : Int) = 0) = False := eq_false (by decide)
@[go_sem] theorem bne_11 : ((11 : Int) != 0) = true := rfl
@[go_sem] theorem beq_11 : ((11 : Int) == 0) = false := rfl
@[go_sem] theorem eqz_11 : ((11 : Int) = 0) = False := eq_false (by decide)
@[go_sem] theorem bne_12 : ((12 : Int) != 0) = true := rfl
@[go_sem] theorem beq_12 : ((12 : Int) == 0) = false := rfl
@[go_sem] theorem eqz_12 : ((12 : Int) = 0) = False := eq_false (by decide)
theorem gb {M : List Blk} {b : Nat} {X : Blk} (h : b < M.length) : (M.set b X)[b]? = some X := by rw [List.getElem?_set, if_pos rfl, if_pos h]
theorem gn {M : List Blk} {b c : Nat} {X : Blk} (h : b ≠ c) : (M.set b X)[c]? = M[c]? := by rw [List.getElem?_set, if_neg h]
theorem ga {M D : List Blk} {b : Nat} (h : b < M.length) : (M ++ D)[b]? = M[b]? := List.getElem?_append_left h
theorem gl {M : List Blk} {X : Blk} : (M ++ [X])[M.length]? = some X := by rw [List.getElem?_append_right (Nat.le_refl _), Nat.sub_self]; rfl
theorem sa {M D : List Blk} {b : Nat} {X : Blk} (h : b < M.length) : (M ++ D).set b X = M.set b X ++ D := List.set_append_left _ _ h
theorem gl2 {M : List Blk} {X Y : Blk} {b : Nat} : (M.set b Y ++ [X])[M.length]? = some X := by rw [List.getElem?_append_right (by simp), List.length_set, Nat.sub_self]; rfl
theorem set_last {M : List Blk} {X Y : Blk} : (M ++ [X]).set M.length Y = M ++ [Y] := by
  rw [List.set_append_right _ _ (Nat.le_refl _), Nat.sub_self]; rfl
theorem sl2 {M : List Blk} {X Y Z : Blk} {c : Nat} : (M.set c X ++ [Y]).set M.length Z = M.set c X ++ [Z] := by
  rw [List.set_append_right _ _ (by simp), List.length_set, Nat.sub_self]; rfl
theorem leS_of {s s' : SV} (h : s = s') : leS s s' := by rw [h, leS_self]; trivial
theorem ltA_up1 {n m : Nat} (hnm : n ≤ m) {a : AV} : ltA n a → ltA m a := by
  induction a with
  | c x => exact fun h => h
  | ptr b v i j => intro h; exact Nat.lt_of_lt_of_le h hnm
  | arr sz b v i j => intro h; exact Nat.lt_of_lt_of_le h hnm
  | ip m c => exact fun h => h
  | fn f k caps ih => exact fun h i hi => ih i (h i hi)
theorem ltB_up1 {n m : Nat} (hnm : n ≤ m) {x : Blk} (h : ltB n x) : ltB m x := by
  cases x with
  | dead => exact h
  | rows t sz v l f => exact fun r hr a ha => ltA_up1 hnm (h r hr a ha)
  | sit s p => exact h
theorem ltM_app {M D : List Blk} (h : ∀ x ∈ M, ltB M.length x) (hD : ∀ x ∈ D, ltB (M.length + D.length) x) : ∀ x ∈ M ++ D, ltB (M ++ D).length x := by
  intro x hx
  rw [List.length_append]
  rcases List.mem_append.1 hx with hx | hx
  · exact ltB_up1 (Nat.le_add_right _ _) (h x hx)
  · exact hD x hx
theorem ltM_set {M : List Blk} {b : Nat} {X : Blk} (h : ∀ x ∈ M, ltB M.length x) (hX : ltB M.length X) : ∀ x ∈ M.set b X, ltB (M.set b X).length x := by
  intro x hx
  rw [List.length_set]
  rcases List.mem_or_eq_of_mem_set hx with hx | rfl
  · exact h x hx
  · exact hX
section
variable {α : Type} [Inhabited α]
abbrev immL (sz : Nat) (c : α → Nat → CV) (l : List α) : CV := .imm sz l.length fun i j => c (l.getD i default) j
abbrev immP (sz : Nat) (c : α → Nat → CV) (l : List α) : Pt := .one (.c (immL sz c l))
def rowsL (sz : Nat) (c : α → Nat → CV) (l : List α) : List (List AV) := l.map fun x => cellsUp (c x) 0 sz
variable {sz : Nat} {c : α → Nat → CV}
@[go_sem] theorem rowsL_len (l : List α) : (rowsL sz c l).length = l.length := List.length_map ..
theorem cellsUp_ltA (n : Nat) (c : Nat → CV) (m k : Nat) : ∀ a ∈ cellsUp c k m, ltA n a := by
  have := lt_cellsUp n c m k; rw [this]; trivial
theorem rowsL_row {l : List α} : ∀ r ∈ rowsL sz c l, r.length = sz ∧ ∀ n, ∀ a ∈ r, ltA n a := by
  intro r hr
  obtain ⟨x, _, rfl⟩ := List.mem_map.1 hr
  exact ⟨cellsUp_length _ _ _, fun n => cellsUp_ltA n _ _ _⟩
theorem rowsL_ltB (n t v : Nat) (l : List α) (f : Bool) : ltB n (.rows t sz v (rowsL sz c l) f) := fun r hr => (rowsL_row r hr).2 n
theorem cellsUp_closed (c : Nat → CV) : ∀ (m k : Nat), ∀ a ∈ cellsUp c k m, ∃ x, a = .c x
  | 0, k, a, h => by cases h
  | m + 1, k, a, h => by
    rcases List.mem_cons.1 h with rfl | h
    · exact ⟨_, rfl⟩
    · exact cellsUp_closed c m (k + 1) a h
theorem rowsL_closed (l : List α) : closedRows (rowsL sz c l) := by
  intro r hr a ha
  obtain ⟨x, _, rfl⟩ := List.mem_map.1 hr
  exact cellsUp_closed _ _ _ a ha
theorem rowsL_getD {l : List α} {i : Nat} (h : i < l.length) : (rowsL sz c l).getD i [] = cellsUp (c (l.getD i default)) 0 sz := by
  rw [List.getD_eq_getElem?_getD, List.getD_eq_getElem?_getD, rowsL, List.getElem?_map, List.getElem?_eq_getElem h]; rfl
theorem rowsL_app (l m : List α) : rowsL sz c l ++ rowsL sz c m = rowsL sz c (l ++ m) := by rw [rowsL, rowsL, rowsL, List.map_append]
theorem rowsL_app1 (l : List α) (x : α) : rowsL sz c l ++ [cellsUp (c x) 0 sz] = rowsL sz c (l ++ [x]) := by rw [rowsL, rowsL, List.map_append]; rfl
theorem rowsL_ins (l : List α) (i : Nat) (x : α) : (rowsL sz c l).take i ++ cellsUp (c x) 0 sz :: (rowsL sz c l).drop i = rowsL sz c (l.take i ++ x :: l.drop i) := by
  rw [rowsL, rowsL, List.map_append, List.map_cons, List.map_take, List.map_drop]
theorem rowsL_set (l : List α) (i : Nat) (x : α) : (rowsL sz c l).set i (cellsUp (c x) 0 sz) = rowsL sz c (l.set i x) := by rw [rowsL, rowsL, List.map_set]
theorem rowsL_take (l : List α) (i : Nat) : (rowsL sz c l).take i = rowsL sz c (l.take i) := by rw [rowsL, rowsL, List.map_take]
theorem rowsL_drop (l : List α) (i : Nat) : (rowsL sz c l).drop i = rowsL sz c (l.drop i) := by rw [rowsL, rowsL, List.map_drop]
theorem rowsL_nil : rowsL sz c ([] : List α) = [] := rfl
theorem getD_cellsUp {c : Nat → CV} {m k j : Nat} (h : j < m) : (cellsUp c k m).getD j default = .c (c (k + j)) := by
  rw [List.getD_eq_getElem?_getD, cellsUp_get, if_pos h]; rfl
theorem rowsL_toC {l : List α} {i j : Nat} (hi : i < l.length) (hj : j < sz) : toC (((rowsL sz c l).getD i []).getD j default) = c (l.getD i default) j := by
  rw [rowsL_getD hi, getD_cellsUp hj, Nat.zero_add]; rfl
theorem imm_rowsL (l : List α) : immRows (fun i j => c (l.getD i default) j) sz l.length = rowsL sz c l := by
  unfold immRows rowsL
  refine List.ext_getElem (by simp) (fun i h1 h2 => ?_)
  simp at h2
  simp [List.getD_eq_getElem?_getD, List.getElem?_eq_getElem h2]
theorem imm_rowsL' (l : List α) : (List.map (fun i => cellsUp (fun j => c (l.getD i default) j) 0 sz) (List.range l.length)) = rowsL sz c l := imm_rowsL l
/-- Rows that nobody writes any more tell their list. -/
theorem frz_sub (l : List α) : SubA (.c (.imm sz l.length fun i j => toC (((rowsL sz c l).getD (0 + i) []).getD j default))) (.c (immL sz c l)) :=
  subA_imm fun i hi j hj => by rw [Nat.zero_add]; exact rowsL_toC hi hj
theorem frz_sub' (l : List α) : SubA (.c (.imm sz l.length fun i j => toC (((rowsL sz c l).getD i []).getD j default))) (.c (immL sz c l)) :=
  subA_imm fun i hi j hj => rowsL_toC hi hj
theorem nil_sub : SubA (.c (.v (.slice none 0 0))) (.c (immL sz c ([] : List α))) := subA_nil sz _
/-- Rows of one's own, lent to a reader. -/
theorem snapL (l : List α) {M : List Blk} {b v t : Nat} {f : Bool} (hb : M[b]? = some (.rows t sz v (rowsL sz c l) f)) : SnapP M (.one (.arr sz b v 0 l.length)) (immP sz c l) := by
  refine Snap.arr sz b v 0 l.length t (rowsL sz c l) f _ hb (by rw [rowsL_len]; omega) (fun i hi j hj => ?_)
  rw [Nat.zero_add, rowsL_getD hi, getD_cellsUp hj, Nat.zero_add]
  exact Snap.same _ trivial
theorem getD_set_self {l : List α} {i : Nat} {x : α} (h : i < l.length) : (l.set i x).getD i default = x := by
  rw [List.getD_eq_getElem?_getD, List.getElem?_set, if_pos rfl, if_pos h]; rfl
end
theorem getD_sub {α : Type} [Inhabited α] {l : List α} {a n i : Nat} (hi : i < n) : ((l.drop a).take n).getD i default = l.getD (a + i) default := by
  rw [List.getD_eq_getElem?_getD, List.getD_eq_getElem?_getD, List.getElem?_take, if_pos hi, List.getElem?_drop]
/-- A slice of a list nobody writes. -/
theorem le_slice {α : Type} [Inhabited α] {sz : Nat} {c : α → Nat → CV} {l : List α} {a n : Nat} (h : a + n ≤ l.length) : lePt (.one (.c (.imm sz n fun i j => c (l.getD (a + i) default) j))) (immP sz c ((l.drop a).take n)) := by
  rw [lePt_imm]
  refine ⟨by rw [List.length_take, List.length_drop]; omega, .inr ⟨rfl, fun i hi j hj => ?_⟩⟩
  show c _ _ = c _ _
  rw [getD_sub hi]
theorem runOps_append {P : Program} {d : Bool} {K : St → Prop} : ∀ {l l' : List OpL} {s : St}, runOps P d l s (fun s' => runOps P d l' s' K) → runOps P d (l ++ l') s K
  | [], l', s, h => h
  | o :: l, l', s, ⟨r, M', h1, h2⟩ => ⟨r, M', h1, runOps_append h2⟩
theorem ops_part {P : Program} {d : Bool} {ops : List OpL} {e : Nat → SV} {M : List Blk} {K : St → Prop} (k : Nat) (h : ev P d (ops.take k) e M (fun s' => Ops P d (ops.drop k) s'.env s'.M K)) : Ops P d ops e M K := by
  have := runOps_append (l' := ops.drop k) (K := K) (ev_sound h)
  rwa [List.take_append_drop] at this
theorem ops_end {P : Program} {d : Bool} {ops : List OpL} {e : Nat → SV} {M : List Blk} {K : St → Prop} (h : ev P d ops e M K) : Ops P d ops e M K := ev_sound h
theorem run_pt {P : Program} {n m : Nat} {d : Bool} {ops : List OpL} {c : C} {e : Nat → SV} {M : List Blk} {K : Exit → St → Prop} (k : Nat) (h : ev P d (ops.take k) e M (fun s' => Ops P d (ops.drop k) s'.env s'.M (fun s'' => Run P n m c s'' K))) : Run P n m (.seq (.reg d ops) c) ⟨e, M⟩ K :=
  run_rs (ops_part k h)
theorem run_join {P : Program} {n m : Nat} {c1 rest : C} {s : St} {K : Exit → St → Prop} (l : List (Nat × SV)) (M' : List Blk) (h1 : Run P n m c1 s (fun ex s' => ex = .normal ∧ Into m s' l M')) (h2 : Run P n m rest ⟨envL l, M'⟩ K) : Run P n m (.seq c1 rest) s K := by
  refine run_seq (run_mono (fun ex s' h => ?_) h1)
  obtain ⟨rfl, h⟩ := h
  exact run_gh h.gh h2
/-- A function whose result is closed, whatever it has written of its own. -/
theorem callPG {P : Program} {n : Nat} {f : Nat} {c : C} {rvs : List RV} {ps : List Pt} {r : SV} (hF : Fun P f n c rvs) (hl : ps.length ≤ n) (hps : ∀ q ∈ ps, ltP 0 q) (h : Run P n 0 c ⟨envOf 0 ps, []⟩ (FinK n 0 rvs r [])) (M : List Blk) : CallR P M f ps r M :=
  callR_pure (callR_intro (M' := []) hF hl h) hps M
theorem finQ {n : Nat} {rvs : List RV} {r : SV} {s s1 : St} {ex : Exit} (hex : ex = .normal ∨ ex = .ret) (h : Gh n 0 s s1) {qs : List Pt} {cnd : Prop} (h1 : resL s1.env s1.M rvs = some (qs, cnd)) (h2 : cnd) (h4 : SubS (mkRes qs) r) (h6 : ltS 0 r) : FinK n 0 rvs r [] ex s := by
  have h : Fin n 0 rvs r [] s := ⟨s1, s1.M, qs, cnd, h, h1, h2, rfl, h4, Nat.le_refl _, h6, fun x hx => by simp at hx⟩
  rcases hex with rfl | rfl
  · exact h
  · exact h
/-- What is told of own memory and of what is not. -/
theorem fin0 {n : Nat} {rvs : List RV} {r : SV} {s : St} {ex : Exit} (hex : ex = .normal ∨ ex = .ret) {qs : List Pt} {cnd : Prop} (h1 : resL s.env s.M rvs = some (qs, cnd)) (h2 : cnd) (h4 : SubS (mkRes qs) r) (h6 : ltS 0 r) : FinK n 0 rvs r [] ex s := finQ hex (Gh.refl s) h1 h2 h4 h6
theorem callL {P : Program} {d : Bool} {dst : Option Nat} {os : List OpL} {K : St → Prop} {M : List Blk} {f : Nat} {ps ps' : List Pt} {r : SV} {e : Nat → SV} (h : CallR P [] f ps' r []) (hs : SnapL M ps ps') (hr : plainS r) (hK : ev P d os (put e dst r) M K) : Call1 P M f ps d dst os e K := ⟨r, M, callR_lend h hs hr, fun _ => rfl, ev_sound hK⟩
theorem callLg {P : Program} {d c : Bool} {dst : Option Nat} {os : List OpL} {K : St → Prop} {M : List Blk} {f : Nat} {ps ps' : List Pt} {r : SV} {e : Nat → SV} (h : c = true → CallR P [] f ps' r []) (hs : c = true → SnapL M ps ps') (hr : plainS r) (hK : ev P d os (put e dst (.g c r)) M K) : CallG P M c f ps d dst os e K := ⟨r, fun hc => callR_lend (h hc) (hs hc) hr, ev_sound hK⟩
theorem callS {P : Program} {d : Bool} {dst : Option Nat} {os : List OpL} {K : St → Prop} {M M' : List Blk} {f : Nat} {ps ps' : List Pt} {r : SV} {e : Nat → SV} (h : CallR P M f ps' r M') (hl : SubL ps ps') (hd : d = true → M' = M) (hK : ev P d os (put e dst r) M' K) : Call1 P M f ps d dst os e K := ⟨r, M', h.sub hl, hd, ev_sound hK⟩
section
variable {P : Program} {n m : Nat} {e : Nat → SV} {M : List Blk} {K : Exit → St → Prop}
theorem sub_slice0 (A : Option Addr) (cap sz : Nat) (c : Nat → Nat → CV) : SubS (.p (.one (.c (.v (.slice A 0 cap))))) (.p (.one (.c (.imm sz 0 c)))) := by
  rintro I σ y ⟨rfl, _⟩
  exact ⟨A, cap, rfl, Nat.zero_le _, .inl rfl⟩
theorem run_null {code : C} {i sz : Nat} {c : Nat → Nat → CV} (hi : e i = .p (.one (.c (.imm sz 0 c)))) (h : ∀ A cap, Run P n m code ⟨upd e i (.p (.one (.c (.v (.slice A 0 cap))))), M⟩ K) : Run P n m code ⟨e, M⟩ K := by
  intro co hc I0 σ0 M0 w0 a w hm0 hs
  obtain ⟨hI, σ, hev, he, h1, h2⟩ := hs
  have hi2 := he i
  rw [show (St.mk e M).env i = e i from rfl, hi] at hi2
  obtain ⟨A, cap, hy, _, _⟩ := hi2
  refine h A cap co hc I0 σ0 M0 w0 a w hm0 ⟨hI, σ, hev, fun j => ?_, h1, h2⟩
  show RelS hI σ (upd e i _ j) _
  unfold upd
  by_cases hj : j = i
  · subst hj
    rw [if_pos rfl]
    exact ⟨hy, rfl⟩
  · rw [if_neg hj]
    exact he j
end
/-- One slot told by weaker words. -/
theorem gh_sub {P : Program} {n m : Nat} {e : Nat → SV} {M : List Blk} (i : Nat) {s' : SV} (h : SubS (e i) s') : Gh n m ⟨e, M⟩ ⟨upd e i s', M⟩ := gh_env fun j => by
  unfold upd
  by_cases hj : j = i
  · subst hj; rw [if_pos rfl]; exact h
  · rw [if_neg hj]; exact SubS.refl _
def cloneC (t sz by_ : Nat) (z : List Value) : C :=
 (.seq (.reg false [⟨some 2, .mv (.k (.one (.c (.v (.slice none 0 0))))), none⟩])
 (.seq (.seq (.reg false [⟨some 3, .mv (.t 0), none⟩, ⟨some 4, .eqb false (.t 3) (.k (.one (.c (.v (.slice none 0 0))))), none⟩])
 (.cond (.t 4)
 (.seq (.reg false [⟨some 2, .mv (.k (.one (.c (.v (.slice none 0 0))))), none⟩])
 .ret)
 .skip))
 (.seq (.reg false [⟨some 5, .bsl t sz 0 z [], none⟩, ⟨some 6, .mv (.t 0), none⟩, ⟨some 7, .app t sz by_ z (.t 5) (.t 6), none⟩, ⟨some 2, .mv (.t 7), none⟩])
 .ret)))
section
variable {P : Program} {f t sz by_ : Nat} {z : List Value} {α : Type} [Inhabited α] {c : α → Nat → CV}
set_option maxRecDepth 20000 in
/-- A list cloned, as rows of one's own. -/
theorem cloneO_rc (hF : Fun P f 8 (cloneC t sz by_ z) [.t 2]) (l : List α) (hl : l.length * by_ ≤ 140737488355328) {M : List Blk} (hMB : ∀ x ∈ M, ltB M.length x) :
    CallR P M f [immP sz c l] (.p (.one (.arr sz M.length 1 0 l.length))) (M ++ [.rows t sz 1 (rowsL sz c l) false]) := by
  have hB : ∀ x ∈ M ++ [Blk.rows t sz 1 (rowsL sz c l) false], ltB (M ++ [Blk.rows t sz 1 (rowsL sz c l) false]).length x := ltM_app hMB (by simp only [List.mem_singleton, forall_eq]; exact rowsL_ltB _ _ _ _ _)
  refine callR_intro hF (by simp) ?_
  by_cases h0 : l.length = 0
  case neg =>
    refine V_sound ?_
    simp only [cloneC, go_sem, show 0 < l.length from by omega, gl, set_last, List.length_map, List.length_range, imm_rowsL']
    refine ⟨hl, fin_own (.inr rfl) (Gh.refl _) [] (cnd := True) rfl trivial (List.append_nil _).symm (leS_of rfl) ?_ ?_ hB⟩
    · rw [List.length_append]; omega
    · simp only [go_sem, List.length_append]
  obtain rfl : l = [] := List.eq_nil_of_length_eq_zero h0
  refine run_null (i := 0) rfl (fun A cap => ?_)
  cases A with
  | none =>
    refine V_sound ?_
    simp only [cloneC, go_sem]
    refine fin_own (.inr rfl) ((gh_born 2 t sz (by simp only [go_sem])).trans ((gh_trunc (b := M.length) 0 gl).trans (gh_move (b := M.length) (c := M.length) 2 0 0 (by rw [set_last]; exact gl) (by rw [set_last]; exact gl) (by simp only [go_sem])))) [] (cnd := True) rfl trivial ?_ ?_ ?_ ?_ hB
    · simp only [set_last, List.append_nil]; rfl
    · exact leS_of rfl
    · rw [List.length_append]; omega
    · simp only [go_sem, List.length_append]
  | some ad =>
    refine run_seqV ?_
    simp only [cloneC, go_sem]
    refine run_seqV ?_
    simp only [go_sem]
    refine run_gh (gh_sub (P := P) 0 (s' := .p (immP sz c ([] : List α))) ?_) ?_
    · simp only [go_sem]
      exact sub_slice0 _ _ _ _
    refine V_sound ?_
    simp only [go_sem, gl, set_last]
    refine ⟨by omega, fin_own (.inr rfl) (Gh.refl _) [] (cnd := True) rfl trivial ?_ (leS_of rfl) ?_ ?_ hB⟩
    · simp only [List.append_nil, List.range_zero, List.map_nil]; rfl
    · rw [List.length_append]; omega
    · simp only [go_sem, List.length_append]
set_option maxRecDepth 20000 in
/-- A list cloned, that nobody writes any more. -/
theorem clone_rc (hF : Fun P f 8 (cloneC t sz by_ z) [.t 2]) (l : List α) (hl : l.length * by_ ≤ 140737488355328) (M : List Blk) : CallR P M f [immP sz c l] (.p (immP sz c l)) M := by
  refine callPS hF (Nat.le_of_ble_eq_true rfl) (by simp only [go_sem]) (by simp only [go_sem]) ?_ M
  by_cases h0 : l.length = 0
  case neg =>
    refine run_seqV ?_
    simp only [cloneC, go_sem]
    refine run_seqV ?_
    simp only [go_sem, show 0 < l.length from by omega]
    refine run_seqV ?_
    simp only [go_sem, imm_rowsL', List.length_map, List.length_range]
    refine ⟨hl, run_gh (gh_freeze (b := 0) (l := rowsL sz c l) rfl (rowsL_closed l)) ?_⟩
    refine V_sound ?_
    simp only [go_sem, rowsL_len, Nat.le_refl]
    exact subS_p (subP_one (frz_sub' l))
  obtain rfl : l = [] := List.eq_nil_of_length_eq_zero h0
  refine run_null (i := 0) rfl (fun A cap => ?_)
  cases A with
  | none =>
    refine V_sound ?_
    simp only [cloneC, go_sem]
    exact subS_p (subP_one nil_sub)
  | some ad =>
    refine run_seqV ?_
    simp only [cloneC, go_sem]
    refine run_seqV ?_
    simp only [go_sem]
    refine run_gh (gh_sub (P := P) 0 (s' := .p (immP sz c ([] : List α))) ?_) ?_
    · simp only [go_sem]
      exact sub_slice0 _ _ _ _
    refine run_seqV ?_
    simp only [go_sem, List.range_zero]
    refine ⟨by omega, run_gh (gh_freeze (b := 0) (l := rowsL sz c ([] : List α)) rfl (rowsL_closed _)) ?_⟩
    refine V_sound ?_
    simp only [go_sem, rowsL_len, Nat.le_refl]
    exact subS_p (subP_one (frz_sub' ([] : List α)))
end
end Go.Proofs.YtcmkhlfjcdchmaaGreatAbs
end
section
namespace Go.Proofs.YtcmkhlfjcdchmaaGreat.A
open Go Go.Proofs.YtcmkhlfjcdchmaaGreatAbs
structure Smp where
  t : Int
  v : Int
instance : Inhabited Smp := ⟨⟨0, 0⟩⟩
instance : DecidableEq Smp := fun a b => if h : a.t = b.t ∧ a.v = b.v then isTrue (by cases a; cases b; simp_all) else isFalse (fun e => h (by rw [e]; exact ⟨rfl, rfl⟩))
@[go_sem] def Smp.c (x : Smp) : Nat → CV
  | 0 => .v (.int .i64 x.t)
  | _ => .v (.int .i64 x.v)
abbrev smpCV (l : List Smp) : CV := immL 2 Smp.c l
abbrev smpL (l : List Smp) : Pt := .one (.c (smpCV l))
abbrev smpA (s : Smp) : Pt := .agg [.c (.v (.int .i64 s.t)), .c (.v (.int .i64 s.v))]
def smOk (s : Smp) : Bool := decide (0 ≤ s.t) && decide (s.t ≤ 1099511627776) && decide (-1099511627776 ≤ s.v) && decide (s.v ≤ 1099511627776)
def smAt (l : List Smp) (i : Nat) : Bool := smOk (l.getD i default) && (i == 0 || decide ((l.getD (i - 1) default).t < (l.getD i default).t))
def smsOk (l : List Smp) : Bool := decide (l.length ≤ 64) && (List.range l.length).all (smAt l)
theorem all_f {n k : Nat} {p : Nat → Bool} (hk : k < n) (h : p k = false) : (List.range n).all p = false := by
  rw [List.all_eq_false]
  exact ⟨k, List.mem_range.2 hk, by simp [h]⟩
theorem all_t {n : Nat} {p : Nat → Bool} (h : ∀ i, i < n → p i = true) : (List.range n).all p = true := by
  rw [List.all_eq_true]
  exact fun i hi => h i (List.mem_range.1 hi)
theorem smsOk_f {l : List Smp} {k : Nat} (hk : k < l.length) (h : smAt l k = false) : smsOk l = false := by rw [smsOk, all_f hk h, Bool.and_false]
theorem smsOk_t {l : List Smp} (h : ∀ i, i < l.length → smAt l i = true) : smsOk l = decide (l.length ≤ 64) := by rw [smsOk, all_t h, Bool.and_true]
theorem wpr {k : Nat} (h0 : 0 < k) (hk : k ≤ 140737488355328) : (IntKind.i64.wrap ((k : Int) - 1)).toNat = k - 1 := by rw [w64p h0 (by omega)]; rfl
theorem smAt_key (l : List Smp) {k : Nat} (hk : k ≤ 140737488355328) : (decide ((l.getD k default).t < 0) || decide (1099511627776 < (l.getD k default).t) || decide ((l.getD k default).v < -1099511627776) || decide (1099511627776 < (l.getD k default).v) || decide (0 < (k : Int)) && decide ((l.getD k default).t ≤ (l.getD (IntKind.i64.wrap ((k : Int) - 1)).toNat default).t)) = !smAt l k := by
  unfold smAt smOk
  rw [Bool.eq_iff_iff]
  by_cases h0 : k = 0
  · subst h0
    simp only [Bool.or_eq_true, Bool.and_eq_true, Bool.not_eq_true', Bool.and_eq_false_iff, Bool.or_eq_false_iff, decide_eq_true_eq, decide_eq_false_iff_not]
    simp
  · rw [wpr (by omega) hk]
    have e : (k == 0) = false := by simpa using h0
    simp only [e, Bool.false_or, Bool.or_eq_true, Bool.and_eq_true, Bool.not_eq_true', Bool.and_eq_false_iff, Bool.or_eq_false_iff, decide_eq_true_eq, decide_eq_false_iff_not]
    omega
set_option maxRecDepth 20000 in
theorem bCheck_rc (l : List Smp) (hl : l.length ≤ 140737488355328) (M : List Blk) : CallR Tryz.prog M n_block_Check [smpL l] (.i (if smsOk l then 0 else 1)) M := by
  refine callP F_block_Check (Nat.le_of_ble_eq_true rfl) (by simp only [go_sem]) (by simp only [go_sem]) ?_ M
  simp only [c_block_Check, go_sem]
  refine ⟨fun hc => ?_, fun hc => ?_⟩
  · rw [smsOk, decide_eq_false (by omega), Bool.false_and]; rfl
  refine V_loop (ι := Nat) (J := fun k => k ≤ l.length ∧ ∀ i, i < k → smAt l i = true) (env := fun k => [(0, .p (smpL l)), (8, .p (smpL l)), (9, .i l.length), (10, .i k)]) (mem := fun _ => []) (μ := fun k => l.length - k) 0 ⟨Nat.zero_le _, fun j hj => by omega⟩ (into0 (by simp only [go_sem])) ?_
  rintro k ⟨hk, hok⟩
  simp only [go_sem]
  rw [smAt_key l (by omega)]
  refine ⟨fun h1 => ⟨by omega, fun hc => ?_, fun hc => ?_, fun hc => ⟨k + 1, ⟨by omega, fun j hj => ?_⟩, by omega, into0 ?_⟩⟩, fun h1 => ?_⟩
  · have hc := (Bool.and_eq_true_iff.1 hc).2
    rw [w64p (by simpa using hc) (by omega)]
    omega
  · rw [smsOk_f h1 (by simpa using hc)]; rfl
  · by_cases e : j = k
    · subst e; simpa using hc
    · exact hok j (by omega)
  · simp only [go_sem, w64s (show k < 9223372036854775807 by omega)]
  · rw [smsOk_t (fun i hi => hok i (by omega)), decide_eq_true (by omega)]; rfl
set_option maxRecDepth 20000 in
theorem rMay_rc (l : List Smp) (hl : l.length ≤ 140737488355328) (M : List Blk) : CallR Tryz.prog M n_windroseref11_May [smpL l] (.b (smsOk l)) M := by
  refine callP F_windroseref11_May (Nat.le_of_ble_eq_true rfl) (by simp only [go_sem]) (by simp only [go_sem]) ?_ M
  simp only [c_windroseref11_May, go_sem]
  refine V_loop (ι := Nat) (J := fun k => k ≤ l.length ∧ ∀ i, i < k → smAt l i = true) (env := fun k => [(0, .p (smpL l)), (3, .i k)]) (mem := fun _ => []) (μ := fun k => l.length - k) 0 ⟨Nat.zero_le _, fun j hj => by omega⟩ (into0 (by simp only [go_sem])) ?_
  rintro k ⟨hk, hok⟩
  simp only [go_sem]
  rw [smAt_key l (by omega)]
  refine ⟨fun h1 => ⟨by omega, fun _ => by omega, fun _ => by omega, fun _ => by omega, fun hc => ?_, fun _ => by omega, fun hc => ?_, fun hc => ⟨k + 1, ⟨by omega, fun j hj => ?_⟩, by omega, into0 ?_⟩⟩, fun h1 => ?_⟩
  · have hc := (Bool.and_eq_true_iff.1 hc).2
    rw [w64p (by simpa using hc) (by omega)]
    omega
  · rw [smsOk_f h1 (by simpa using hc)]
  · by_cases e : j = k
    · subst e; simpa using hc
    · exact hok j (by omega)
  · simp only [go_sem, w64s (show k < 9223372036854775807 by omega)]
  · rw [smsOk_t (fun i hi => hok i (by omega))]
    simp only [decide_eq_decide]
    omega
theorem smp_eq (x y : Smp) : eqCells [1, 1] (cellsUp (Smp.c x) 0 2) (cellsUp (Smp.c y) 0 2) = some (decide (x = y)) := by
  simp only [go_sem, if_true, Option.some.injEq, Bool.and_true]
  rw [Bool.eq_iff_iff]
  cases x; cases y
  simp
end Go.Proofs.YtcmkhlfjcdchmaaGreat.A
end
section
set_option maxRecDepth 100000
namespace Go.Proofs.YtcmkhlfjcdchmaaGreat.A
open Go Go.Proofs.YtcmkhlfjcdchmaaGreatAbs

/-- windrose/label.Parse -/
def c_label_Parse : C :=
 (.seq (.reg false [⟨some 2, .alloc 99 2 [.string ⟨#[]⟩, .slice none 0 0], none⟩, ⟨some 3, .mv (ki 0), none⟩])
 (.seq (.reg false [⟨some 15, .mv (.t 0), none⟩, ⟨some 16, .call (kf 118) [(.t 15), (.k (.one (.c (.v (.string ⟨#[123]⟩)))))], none⟩, ⟨some 14, .mv (.t 16), none⟩, ⟨some 17, .ex (.t 14) 0, none⟩, ⟨some 18, .ex (.t 14) 1, none⟩, ⟨some 19, .ex (.t 14) 2, none⟩, ⟨some 4, .mv (.t 17), none⟩, ⟨some 5, .mv (.t 18), none⟩, ⟨some 6, .mv (.t 19), none⟩])
 (.seq (.reg false [⟨some 20, .mv (.t 4), none⟩, ⟨some 21, .bld [.string ⟨#[]⟩, .slice none 0 0] [(0, 1, (.t 20))], none⟩, ⟨some 7, .alloc 99 2 [.string ⟨#[]⟩, .slice none 0 0], none⟩, ⟨none, .st 2 (.t 7) (.t 21), none⟩])
 (.seq (.seq (.reg false [⟨some 22, .mv (.t 6), none⟩, ⟨some 8, .mv (.t 22), none⟩])
 (.block 0 (.loop (.seq (.seq (.reg false [⟨some 23, .mv (.t 8), none⟩])
 (.cond (.t 23)
 .skip
 (.exit 0)))
 (.block 1 (.seq (.reg false [⟨some 25, .mv (.t 5), none⟩, ⟨some 26, .call (kf 118) [(.t 25), (.k (.one (.c (.v (.string ⟨#[61, 34]⟩)))))], none⟩, ⟨some 24, .mv (.t 26), none⟩, ⟨some 27, .ex (.t 24) 0, none⟩, ⟨some 28, .ex (.t 24) 1, none⟩, ⟨some 29, .ex (.t 24) 2, none⟩, ⟨some 9, .mv (.t 27), none⟩, ⟨some 10, .mv (.t 28), none⟩, ⟨some 11, .mv (.t 29), none⟩])
 (.seq (.reg false [⟨some 31, .mv (.t 10), none⟩, ⟨some 32, .call (kf 119) [(.t 31)], none⟩, ⟨some 30, .mv (.t 32), none⟩, ⟨some 33, .ex (.t 30) 0, none⟩, ⟨some 34, .ex (.t 30) 1, none⟩, ⟨some 35, .ex (.t 30) 2, none⟩, ⟨some 12, .mv (.t 33), none⟩, ⟨some 10, .mv (.t 34), none⟩, ⟨some 13, .mv (.t 35), none⟩])
 (.seq (.seq (.reg false [⟨some 36, .mv (.t 11), none⟩, ⟨some 37, .un .not (.t 36), none⟩, ⟨some 38, .mv (.t 37), none⟩, ⟨some 39, .mv (.t 13), some (38, false)⟩, ⟨some 40, .un .not (.t 39), some (38, false)⟩, ⟨some 41, .pick (.t 38) (kb true) (.t 40), none⟩, ⟨some 42, .mv (.t 41), none⟩, ⟨some 43, .mv (.t 10), some (42, false)⟩, ⟨some 44, .bin .eql (.t 43) (.k (.one (.c (.v (.string ⟨#[]⟩))))), some (42, false)⟩, ⟨some 45, .pick (.t 42) (kb true) (.t 44), none⟩, ⟨some 46, .mv (.t 45), none⟩, ⟨some 47, .fa 1 (.t 7), some (46, false)⟩, ⟨some 48, .ld false 1 (.t 47), some (46, false)⟩, ⟨some 49, .len (.t 48), some (46, false)⟩, ⟨some 50, .bin .eql (.t 49) (ki 4), some (46, false)⟩, ⟨some 51, .pick (.t 46) (kb true) (.t 50), none⟩])
 (.cond (.t 51)
 (.seq (.reg false [⟨some 52, .bld [.string ⟨#[]⟩, .slice none 0 0] [], none⟩, ⟨none, .st 2 (.t 2) (.t 52), none⟩, ⟨some 3, .mv (ki 2), none⟩])
 .ret)
 .skip))
 (.seq (.reg false [⟨some 53, .fa 1 (.t 7), none⟩, ⟨some 54, .ld false 1 (.t 53), none⟩, ⟨some 55, .mv (.t 9), none⟩, ⟨some 56, .mv (.t 12), none⟩, ⟨some 57, .bld [.string ⟨#[]⟩, .string ⟨#[]⟩] [(0, 1, (.t 55)), (1, 1, (.t 56))], none⟩, ⟨some 58, .bsl 128 2 1 [.string ⟨#[]⟩, .string ⟨#[]⟩] [(0, (.t 57))], none⟩, ⟨some 59, .app 128 2 32 [.string ⟨#[]⟩, .string ⟨#[]⟩] (.t 54) (.t 58), none⟩, ⟨some 60, .fa 1 (.t 7), none⟩, ⟨none, .st 1 (.t 60) (.t 59), none⟩])
 (.seq (.seq (.reg false [⟨some 61, .mv (.t 10), none⟩, ⟨some 62, .ix (.t 61) (ki 0), none⟩, ⟨some 63, .bin .eql (.t 62) (.k (.one (.c (.v (.int .u8 44))))), none⟩, ⟨some 8, .mv (.t 63), none⟩])
 (.seq (.reg false [⟨some 64, .mv (.t 8), none⟩, ⟨some 65, .un .not (.t 64), none⟩, ⟨some 66, .mv (.t 65), none⟩, ⟨some 67, .mv (.t 10), some (66, true)⟩, ⟨some 68, .bin .neq (.t 67) (.k (.one (.c (.v (.string ⟨#[125]⟩))))), some (66, true)⟩, ⟨some 69, .pick (.t 66) (.t 68) (kb false), none⟩])
 (.cond (.t 69)
 (.seq (.reg false [⟨some 70, .bld [.string ⟨#[]⟩, .slice none 0 0] [], none⟩, ⟨none, .st 2 (.t 2) (.t 70), none⟩, ⟨some 3, .mv (ki 2), none⟩])
 .ret)
 .skip)))
 (.reg false [⟨some 71, .mv (.t 10), none⟩, ⟨some 72, .sls (.t 71) (some (ki 1)) none, none⟩, ⟨some 5, .mv (.t 72), none⟩])))))))))))
 (.seq (.reg false [⟨some 73, .fa 1 (.t 7), none⟩, ⟨some 74, .ld false 1 (.t 73), none⟩, ⟨some 75, .call (kf 120) [(.t 74), (kf 121)], none⟩])
 (.seq (.seq (.reg false [⟨some 76, .ld true 2 (.t 7), none⟩, ⟨some 77, .call (kf 123) [(.t 76)], none⟩, ⟨some 78, .bin .neq (.t 77) (ki 0), none⟩])
 (.cond (.t 78)
 (.seq (.reg false [⟨some 79, .bld [.string ⟨#[]⟩, .slice none 0 0] [], none⟩, ⟨none, .st 2 (.t 2) (.t 79), none⟩, ⟨some 3, .mv (ki 2), none⟩])
 .ret)
 .skip))
 (.seq (.reg false [⟨some 80, .ld true 2 (.t 7), none⟩, ⟨none, .st 2 (.t 2) (.t 80), none⟩, ⟨some 3, .mv (ki 0), none⟩])
 .ret)))))))
abbrev n_label_Parse : Nat := 96
theorem F_label_Parse : Fun Tryz.prog n_label_Parse 81 c_label_Parse [.l true 2 2, .t 3] := ⟨⟨Tryz.f96, _, Tryz.func96, by kernel_rfl, rfl, rfl, by kernel_rfl, by kernel_rfl⟩⟩
/-- windrose/label.Print -/
def c_label_Print : C :=
 (.seq (.reg false [⟨some 1, .box 99 2 (.t 0), none⟩, ⟨some 2, .mv (.k (.one (.c (.v (.string ⟨#[]⟩))))), none⟩, ⟨some 3, .mv (ki 0), none⟩])
 (.seq (.seq (.reg false [⟨some 10, .ld true 2 (.t 1), none⟩, ⟨some 11, .call (kf 123) [(.t 10)], none⟩, ⟨some 4, .mv (.t 11), none⟩])
 (.seq (.reg false [⟨some 12, .mv (.t 4), none⟩, ⟨some 13, .bin .neq (.t 12) (ki 0), none⟩])
 (.cond (.t 13)
 (.seq (.reg false [⟨some 14, .mv (.t 4), none⟩, ⟨some 2, .mv (.k (.one (.c (.v (.string ⟨#[]⟩))))), none⟩, ⟨some 3, .mv (.t 14), none⟩])
 .ret)
 .skip)))
 (.seq (.seq (.reg false [⟨some 15, .fa 1 (.t 1), none⟩, ⟨some 16, .ld false 1 (.t 15), none⟩, ⟨some 17, .len (.t 16), none⟩, ⟨some 18, .bin .eql (.t 17) (ki 0), none⟩])
 (.cond (.t 18)
 (.seq (.reg false [⟨some 19, .fa 0 (.t 1), none⟩, ⟨some 20, .ld false 1 (.t 19), none⟩, ⟨some 2, .mv (.t 20), none⟩, ⟨some 3, .mv (ki 0), none⟩])
 .ret)
 .skip))
 (.seq (.reg false [⟨some 5, .alloc 147 2 [.pointer none, .slice none 0 0], none⟩])
 (.seq (.reg false [⟨some 21, .fa 0 (.t 1), none⟩, ⟨some 22, .ld false 1 (.t 21), none⟩, ⟨some 23, .call (kf 124) [(.t 5), (.t 22)], none⟩])
 (.seq (.seq (.reg false [⟨some 24, .fa 1 (.t 1), none⟩, ⟨some 25, .ld false 1 (.t 24), none⟩, ⟨some 26, .len (.t 25), none⟩, ⟨some 27, .mv (ki 0), none⟩])
 (.block 0 (.loop (.seq (.reg false [⟨some 28, .bin .lss (.t 27) (.t 26), none⟩])
 (.seq (.cond (.t 28)
 .skip
 (.exit 0))
 (.seq (.block 1 (.seq (.reg false [⟨some 29, .mv (.t 27), none⟩, ⟨some 30, .ia 2 (.t 25) (.t 27), none⟩, ⟨some 31, .ld true 2 (.t 30), none⟩, ⟨some 7, .alloc 128 2 [.string ⟨#[]⟩, .string ⟨#[]⟩], none⟩, ⟨some 6, .mv (.t 29), none⟩, ⟨none, .st 2 (.t 7) (.t 31), none⟩])
 (.seq (.reg false [⟨some 32, .mv (.t 6), none⟩, ⟨some 33, .mn (.t 32) (ki 1), none⟩, ⟨some 34, .ix (.k (.one (.c (.v (.string ⟨#[123, 44]⟩))))) (.t 33), none⟩, ⟨some 35, .call (kf 125) [(.t 5), (.t 34)], none⟩])
 (.seq (.reg false [⟨some 36, .fa 0 (.t 7), none⟩, ⟨some 37, .ld false 1 (.t 36), none⟩, ⟨some 38, .bin .add (.t 37) (.k (.one (.c (.v (.string ⟨#[61, 34]⟩))))), none⟩, ⟨some 39, .call (kf 124) [(.t 5), (.t 38)], none⟩])
 (.seq (.seq (.reg false [⟨some 40, .fa 1 (.t 7), none⟩, ⟨some 41, .ld false 1 (.t 40), none⟩, ⟨some 42, .rng (.t 41), none⟩])
 (.block 2 (.loop (.seq (.reg false [⟨some 43, .nxt (.t 42), none⟩, ⟨some 44, .ex (.t 43) 0, none⟩])
 (.seq (.cond (.t 44)
 .skip
 (.exit 2))
 (.block 3 (.seq (.reg false [⟨some 45, .ex (.t 43) 2, none⟩, ⟨some 9, .mv (.t 45), none⟩])
 (.seq (.seq (.reg false [⟨some 46, .mv (.t 9), none⟩, ⟨some 47, .bin .eql (.t 46) (.k (.one (.c (.v (.int .i32 34))))), none⟩, ⟨some 48, .mv (.t 47), none⟩, ⟨some 49, .mv (.t 9), some (48, false)⟩, ⟨some 50, .bin .eql (.t 49) (.k (.one (.c (.v (.int .i32 92))))), some (48, false)⟩, ⟨some 51, .pick (.t 48) (kb true) (.t 50), none⟩])
 (.cond (.t 51)
 (.reg false [⟨some 52, .call (kf 125) [(.t 5), (.k (.one (.c (.v (.int .u8 92)))))], none⟩])
 .skip))
 (.reg false [⟨some 53, .mv (.t 9), none⟩, ⟨some 54, .call (kf 126) [(.t 5), (.t 53)], none⟩])))))))))
 (.reg false [⟨some 55, .call (kf 125) [(.t 5), (.k (.one (.c (.v (.int .u8 34)))))], none⟩]))))))
 (.reg false [⟨some 56, .bin .add (.t 27) (ki 1), none⟩, ⟨some 27, .mv (.t 56), none⟩])))))))
 (.seq (.reg false [⟨some 57, .call (kf 125) [(.t 5), (.k (.one (.c (.v (.int .u8 125)))))], none⟩])
 (.seq (.reg false [⟨some 58, .call (kf 127) [(.t 5)], none⟩, ⟨some 2, .mv (.t 58), none⟩, ⟨some 3, .mv (ki 0), none⟩])
 .ret))))))))
abbrev n_label_Print : Nat := 97
theorem F_label_Print : Fun Tryz.prog n_label_Print 59 c_label_Print [.t 2, .t 3] := ⟨⟨Tryz.f97, _, Tryz.func97, by kernel_rfl, rfl, rfl, by kernel_rfl, by kernel_rfl⟩⟩
/-- windrose/label.Check -/
def c_label_Check : C :=
 (.seq (.reg false [⟨some 1, .box 99 2 (.t 0), none⟩, ⟨some 2, .mv (ki 0), none⟩])
 (.seq (.seq (.reg false [⟨some 5, .fa 0 (.t 1), none⟩, ⟨some 6, .ld false 1 (.t 5), none⟩, ⟨some 7, .call (kf 145) [(.t 6)], none⟩, ⟨some 8, .un .not (.t 7), none⟩, ⟨some 9, .mv (.t 8), none⟩, ⟨some 10, .fa 1 (.t 1), some (9, false)⟩, ⟨some 11, .ld false 1 (.t 10), some (9, false)⟩, ⟨some 12, .len (.t 11), some (9, false)⟩, ⟨some 13, .bin .gtr (.t 12) (ki 4), some (9, false)⟩, ⟨some 14, .pick (.t 9) (kb true) (.t 13), none⟩])
 (.cond (.t 14)
 (.seq (.reg false [⟨some 2, .mv (ki 1), none⟩])
 .ret)
 .skip))
 (.seq (.seq (.reg false [⟨some 15, .fa 1 (.t 1), none⟩, ⟨some 16, .ld false 1 (.t 15), none⟩, ⟨some 17, .len (.t 16), none⟩, ⟨some 18, .mv (ki 0), none⟩])
 (.block 0 (.loop (.seq (.reg false [⟨some 19, .bin .lss (.t 18) (.t 17), none⟩])
 (.seq (.cond (.t 19)
 .skip
 (.exit 0))
 (.seq (.block 1 (.seq (.reg false [⟨some 20, .mv (.t 18), none⟩, ⟨some 21, .ia 2 (.t 16) (.t 18), none⟩, ⟨some 22, .ld true 2 (.t 21), none⟩, ⟨some 4, .alloc 128 2 [.string ⟨#[]⟩, .string ⟨#[]⟩], none⟩, ⟨some 3, .mv (.t 20), none⟩, ⟨none, .st 2 (.t 4) (.t 22), none⟩])
 (.seq (.reg true [⟨some 23, .fa 0 (.t 4), none⟩, ⟨some 24, .ld false 1 (.t 23), none⟩, ⟨some 25, .call (kf 145) [(.t 24)], none⟩, ⟨some 26, .un .not (.t 25), none⟩, ⟨some 27, .mv (.t 26), none⟩, ⟨some 28, .fa 1 (.t 4), some (27, false)⟩, ⟨some 29, .ld false 1 (.t 28), some (27, false)⟩, ⟨some 30, .call (kf 146) [(.t 29)], some (27, false)⟩, ⟨some 31, .un .not (.t 30), some (27, false)⟩, ⟨some 32, .pick (.t 27) (kb true) (.t 31), none⟩, ⟨some 33, .mv (.t 32), none⟩, ⟨some 34, .mv (.t 3), some (33, false)⟩, ⟨some 35, .bin .gtr (.t 34) (ki 0), some (33, false)⟩, ⟨some 36, .mv (.t 35), some (33, false)⟩, ⟨some 37, .fa 0 (.t 4), some (36, true)⟩, ⟨some 38, .ld false 1 (.t 37), some (36, true)⟩, ⟨some 39, .fa 1 (.t 1), some (36, true)⟩, ⟨some 40, .ld false 1 (.t 39), some (36, true)⟩, ⟨some 41, .mv (.t 3), some (36, true)⟩, ⟨some 42, .bin .sub (.t 41) (ki 1), some (36, true)⟩, ⟨some 43, .ia 2 (.t 40) (.t 42), some (36, true)⟩, ⟨some 44, .fa 0 (.t 43), some (36, true)⟩, ⟨some 45, .ld false 1 (.t 44), some (36, true)⟩, ⟨some 46, .bin .leq (.t 38) (.t 45), some (36, true)⟩, ⟨some 47, .pick (.t 36) (.t 46) (kb false), some (33, false)⟩, ⟨some 48, .pick (.t 33) (kb true) (.t 47), none⟩])
 (.cond (.t 48)
 (.seq (.reg false [⟨some 2, .mv (ki 1), none⟩])
 .ret)
 .skip))))
 (.reg false [⟨some 49, .bin .add (.t 18) (ki 1), none⟩, ⟨some 18, .mv (.t 49), none⟩])))))))
 (.seq (.reg false [⟨some 2, .mv (ki 0), none⟩])
 .ret))))
abbrev n_label_Check : Nat := 123
theorem F_label_Check : Fun Tryz.prog n_label_Check 50 c_label_Check [.t 2] := ⟨⟨Tryz.f123, _, Tryz.func123, by kernel_rfl, rfl, rfl, by kernel_rfl, by kernel_rfl⟩⟩
/-- windrose/windroseref03.Parse -/
def c_windroseref03_Parse : C :=
 (.seq (.reg false [⟨some 2, .alloc 99 2 [.string ⟨#[]⟩, .slice none 0 0], none⟩, ⟨some 3, .mv (kb false), none⟩])
 (.seq (.reg false [⟨some 10, .mv (.t 0), none⟩, ⟨some 11, .call (kf 104) [(.t 10), (ki 0), (.k (.one (.c (.v (.int .u8 123)))))], none⟩, ⟨some 4, .mv (.t 11), none⟩])
 (.seq (.reg false [⟨some 12, .mv (.t 0), none⟩, ⟨some 13, .mv (.t 4), none⟩, ⟨some 14, .sls (.t 12) none (some (.t 13)), none⟩, ⟨some 15, .bld [.string ⟨#[]⟩, .slice none 0 0] [(0, 1, (.t 14))], none⟩, ⟨some 5, .alloc 99 2 [.string ⟨#[]⟩, .slice none 0 0], none⟩, ⟨none, .st 2 (.t 5) (.t 15), none⟩])
 (.seq (.block 0 (.loop (.seq (.seq (.reg false [⟨some 16, .mv (.t 4), none⟩, ⟨some 17, .mv (.t 0), none⟩, ⟨some 18, .lens (.t 17), none⟩, ⟨some 19, .bin .lss (.t 16) (.t 18), none⟩])
 (.cond (.t 19)
 .skip
 (.exit 0)))
 (.block 1 (.seq (.reg false [⟨some 20, .mv (.t 4), none⟩, ⟨some 21, .bin .add (.t 20) (ki 1), none⟩, ⟨some 6, .mv (.t 21), none⟩])
 (.seq (.reg false [⟨some 22, .mv (.t 0), none⟩, ⟨some 23, .mv (.t 6), none⟩, ⟨some 24, .call (kf 104) [(.t 22), (.t 23), (.k (.one (.c (.v (.int .u8 61)))))], none⟩, ⟨some 7, .mv (.t 24), none⟩])
 (.seq (.seq (.reg false [⟨some 25, .mv (.t 7), none⟩, ⟨some 26, .bin .add (.t 25) (ki 1), none⟩, ⟨some 27, .mv (.t 0), none⟩, ⟨some 28, .lens (.t 27), none⟩, ⟨some 29, .bin .geq (.t 26) (.t 28), none⟩, ⟨some 30, .mv (.t 29), none⟩, ⟨some 31, .mv (.t 0), some (30, false)⟩, ⟨some 32, .mv (.t 7), some (30, false)⟩, ⟨some 33, .bin .add (.t 32) (ki 1), some (30, false)⟩, ⟨some 34, .ix (.t 31) (.t 33), some (30, false)⟩, ⟨some 35, .bin .neq (.t 34) (.k (.one (.c (.v (.int .u8 34))))), some (30, false)⟩, ⟨some 36, .pick (.t 30) (kb true) (.t 35), none⟩, ⟨some 37, .mv (.t 36), none⟩, ⟨some 38, .fa 1 (.t 5), some (37, false)⟩, ⟨some 39, .ld false 1 (.t 38), some (37, false)⟩, ⟨some 40, .len (.t 39), some (37, false)⟩, ⟨some 41, .bin .eql (.t 40) (ki 4), some (37, false)⟩, ⟨some 42, .pick (.t 37) (kb true) (.t 41), none⟩])
 (.cond (.t 42)
 (.seq (.reg false [⟨some 43, .bld [.string ⟨#[]⟩, .slice none 0 0] [], none⟩, ⟨none, .st 2 (.t 2) (.t 43), none⟩, ⟨some 3, .mv (kb false), none⟩])
 .ret)
 .skip))
 (.seq (.reg false [⟨some 44, .mv (.t 0), none⟩, ⟨some 45, .mv (.t 6), none⟩, ⟨some 46, .mv (.t 7), none⟩, ⟨some 47, .sls (.t 44) (some (.t 45)) (some (.t 46)), none⟩, ⟨some 48, .bld [.string ⟨#[]⟩, .string ⟨#[]⟩] [(0, 1, (.t 47))], none⟩, ⟨some 8, .alloc 128 2 [.string ⟨#[]⟩, .string ⟨#[]⟩], none⟩, ⟨none, .st 2 (.t 8) (.t 48), none⟩])
 (.seq (.reg false [⟨some 49, .mv (.t 7), none⟩, ⟨some 50, .bin .add (.t 49) (ki 2), none⟩, ⟨some 4, .mv (.t 50), none⟩])
 (.seq (.block 2 (.loop (.seq (.seq (.reg false [⟨some 51, .mv (.t 4), none⟩, ⟨some 52, .mv (.t 0), none⟩, ⟨some 53, .lens (.t 52), none⟩, ⟨some 54, .bin .lss (.t 51) (.t 53), none⟩, ⟨some 55, .mv (.t 54), none⟩, ⟨some 56, .mv (.t 0), some (55, true)⟩, ⟨some 57, .mv (.t 4), some (55, true)⟩, ⟨some 58, .ix (.t 56) (.t 57), some (55, true)⟩, ⟨some 59, .bin .neq (.t 58) (.k (.one (.c (.v (.int .u8 34))))), some (55, true)⟩, ⟨some 60, .pick (.t 55) (.t 59) (kb false), none⟩])
 (.cond (.t 60)
 .skip
 (.exit 2)))
 (.block 3 (.seq (.seq (.reg false [⟨some 61, .mv (.t 0), none⟩, ⟨some 62, .mv (.t 4), none⟩, ⟨some 63, .ix (.t 61) (.t 62), none⟩, ⟨some 64, .bin .eql (.t 63) (.k (.one (.c (.v (.int .u8 92))))), none⟩])
 (.cond (.t 64)
 (.seq (.reg false [⟨some 65, .mv (.t 4), none⟩, ⟨some 66, .bin .add (.t 65) (ki 1), none⟩, ⟨some 4, .mv (.t 66), none⟩])
 (.seq (.reg false [⟨some 67, .mv (.t 4), none⟩, ⟨some 68, .mv (.t 0), none⟩, ⟨some 69, .lens (.t 68), none⟩, ⟨some 70, .bin .eql (.t 67) (.t 69), none⟩, ⟨some 71, .mv (.t 70), none⟩, ⟨some 72, .mv (.t 0), some (71, false)⟩, ⟨some 73, .mv (.t 4), some (71, false)⟩, ⟨some 74, .ix (.t 72) (.t 73), some (71, false)⟩, ⟨some 75, .bin .neq (.t 74) (.k (.one (.c (.v (.int .u8 34))))), some (71, false)⟩, ⟨some 76, .mv (.t 75), some (71, false)⟩, ⟨some 77, .mv (.t 0), some (76, true)⟩, ⟨some 78, .mv (.t 4), some (76, true)⟩, ⟨some 79, .ix (.t 77) (.t 78), some (76, true)⟩, ⟨some 80, .bin .neq (.t 79) (.k (.one (.c (.v (.int .u8 92))))), some (76, true)⟩, ⟨some 81, .pick (.t 76) (.t 80) (kb false), some (71, false)⟩, ⟨some 82, .pick (.t 71) (kb true) (.t 81), none⟩])
 (.cond (.t 82)
 (.seq (.reg false [⟨some 83, .bld [.string ⟨#[]⟩, .slice none 0 0] [], none⟩, ⟨none, .st 2 (.t 2) (.t 83), none⟩, ⟨some 3, .mv (kb false), none⟩])
 .ret)
 .skip)))
 .skip))
 (.seq (.reg true [⟨some 84, .fa 1 (.t 8), none⟩, ⟨some 85, .ld false 1 (.t 84), none⟩, ⟨some 86, .mv (.t 0), none⟩, ⟨some 87, .mv (.t 4), none⟩, ⟨some 88, .mv (.t 4), none⟩, ⟨some 89, .bin .add (.t 88) (ki 1), none⟩, ⟨some 90, .sls (.t 86) (some (.t 87)) (some (.t 89)), none⟩, ⟨some 91, .bin .add (.t 85) (.t 90), none⟩, ⟨some 92, .fa 1 (.t 8), none⟩, ⟨none, .st 1 (.t 92) (.t 91), none⟩])
 (.reg false [⟨some 93, .mv (.t 4), none⟩, ⟨some 94, .bin .add (.t 93) (ki 1), none⟩, ⟨some 4, .mv (.t 94), none⟩])))))))
 (.seq (.reg false [⟨some 95, .mv (.t 4), none⟩, ⟨some 96, .bin .add (.t 95) (ki 1), none⟩, ⟨some 4, .mv (.t 96), none⟩])
 (.seq (.seq (.reg false [⟨some 97, .mv (.t 4), none⟩, ⟨some 98, .mv (.t 0), none⟩, ⟨some 99, .lens (.t 98), none⟩, ⟨some 100, .bin .geq (.t 97) (.t 99), none⟩, ⟨some 101, .mv (.t 100), none⟩, ⟨some 102, .mv (.t 0), some (101, false)⟩, ⟨some 103, .mv (.t 4), some (101, false)⟩, ⟨some 104, .ix (.t 102) (.t 103), some (101, false)⟩, ⟨some 105, .bin .neq (.t 104) (.k (.one (.c (.v (.int .u8 44))))), some (101, false)⟩, ⟨some 106, .mv (.t 105), some (101, false)⟩, ⟨some 107, .mv (.t 0), some (106, true)⟩, ⟨some 108, .mv (.t 4), some (106, true)⟩, ⟨some 109, .sls (.t 107) (some (.t 108)) none, some (106, true)⟩, ⟨some 110, .bin .neq (.t 109) (.k (.one (.c (.v (.string ⟨#[125]⟩))))), some (106, true)⟩, ⟨some 111, .pick (.t 106) (.t 110) (kb false), some (101, false)⟩, ⟨some 112, .pick (.t 101) (kb true) (.t 111), none⟩])
 (.cond (.t 112)
 (.seq (.reg false [⟨some 113, .bld [.string ⟨#[]⟩, .slice none 0 0] [], none⟩, ⟨none, .st 2 (.t 2) (.t 113), none⟩, ⟨some 3, .mv (kb false), none⟩])
 .ret)
 .skip))
 (.seq (.reg false [⟨some 9, .mv (ki 0), none⟩])
 (.seq (.block 4 (.loop (.seq (.seq (.reg true [⟨some 114, .mv (.t 9), none⟩, ⟨some 115, .fa 1 (.t 5), none⟩, ⟨some 116, .ld false 1 (.t 115), none⟩, ⟨some 117, .len (.t 116), none⟩, ⟨some 118, .bin .lss (.t 114) (.t 117), none⟩, ⟨some 119, .mv (.t 118), none⟩, ⟨some 120, .fa 1 (.t 5), some (119, true)⟩, ⟨some 121, .ld false 1 (.t 120), some (119, true)⟩, ⟨some 122, .mv (.t 9), some (119, true)⟩, ⟨some 123, .ia 2 (.t 121) (.t 122), some (119, true)⟩, ⟨some 124, .fa 0 (.t 123), some (119, true)⟩, ⟨some 125, .ld false 1 (.t 124), some (119, true)⟩, ⟨some 126, .fa 0 (.t 8), some (119, true)⟩, ⟨some 127, .ld false 1 (.t 126), some (119, true)⟩, ⟨some 128, .bin .lss (.t 125) (.t 127), some (119, true)⟩, ⟨some 129, .pick (.t 119) (.t 128) (kb false), none⟩])
 (.cond (.t 129)
 .skip
 (.exit 4)))
 (.block 5 (.reg false [⟨some 130, .mv (.t 9), none⟩, ⟨some 131, .bin .add (.t 130) (ki 1), none⟩, ⟨some 9, .mv (.t 131), none⟩])))))
 (.seq (.rgx [[], [], [1], [], [2, 1, 3], [0, 4, 2, 1, 3], [], [6], [5, 0, 4, 2, 1, 3, 7, 6], [], [9], [], [10, 9, 11], [8, 5, 0, 4, 2, 1, 3, 7, 6, 12, 10, 9, 11], [0, 1, 2, 3, 4, 5, 6, 7, 8, 9, 10, 11, 12, 13], [14, 0, 1, 2, 3, 4, 5, 6, 7, 8, 9, 10, 11, 12, 13]] [⟨some 132, .bsl 128 2 0 [.string ⟨#[]⟩, .string ⟨#[]⟩] [], none⟩, ⟨some 133, .fa 1 (.t 5), none⟩, ⟨some 134, .ld false 1 (.t 133), none⟩, ⟨some 135, .mv (.t 9), none⟩, ⟨some 136, .slc 2 (.t 134) none (some (.t 135)), none⟩, ⟨some 137, .app 128 2 32 [.string ⟨#[]⟩, .string ⟨#[]⟩] (.t 132) (.t 136), none⟩, ⟨some 138, .ld true 2 (.t 8), none⟩, ⟨some 139, .bsl 128 2 1 [.string ⟨#[]⟩, .string ⟨#[]⟩] [(0, (.t 138))], none⟩, ⟨some 140, .app 128 2 32 [.string ⟨#[]⟩, .string ⟨#[]⟩] (.t 137) (.t 139), none⟩, ⟨some 141, .fa 1 (.t 5), none⟩, ⟨some 142, .ld false 1 (.t 141), none⟩, ⟨some 143, .mv (.t 9), none⟩, ⟨some 144, .slc 2 (.t 142) (some (.t 143)) none, none⟩, ⟨some 145, .app 128 2 32 [.string ⟨#[]⟩, .string ⟨#[]⟩] (.t 140) (.t 144), none⟩, ⟨some 146, .fa 1 (.t 5), none⟩, ⟨none, .st 1 (.t 146) (.t 145), none⟩])
 (.seq (.reg false [⟨some 147, .mv (.t 0), none⟩, ⟨some 148, .mv (.t 4), none⟩, ⟨some 149, .ix (.t 147) (.t 148), none⟩, ⟨some 150, .bin .eql (.t 149) (.k (.one (.c (.v (.int .u8 125))))), none⟩])
 (.cond (.t 150)
 (.reg false [⟨some 151, .mv (.t 0), none⟩, ⟨some 152, .lens (.t 151), none⟩, ⟨some 4, .mv (.t 152), none⟩])
 .skip)))))))))))))))))
 (.seq (.seq (.reg false [⟨some 153, .ld true 2 (.t 5), none⟩, ⟨some 154, .call (kf 105) [(.t 153)], none⟩, ⟨some 155, .un .not (.t 154), none⟩])
 (.cond (.t 155)
 (.seq (.reg false [⟨some 156, .bld [.string ⟨#[]⟩, .slice none 0 0] [], none⟩, ⟨none, .st 2 (.t 2) (.t 156), none⟩, ⟨some 3, .mv (kb false), none⟩])
 .ret)
 .skip))
 (.seq (.reg false [⟨some 157, .ld true 2 (.t 5), none⟩, ⟨none, .st 2 (.t 2) (.t 157), none⟩, ⟨some 3, .mv (kb true), none⟩])
 .ret))))))
abbrev n_windroseref03_Parse : Nat := 83
theorem F_windroseref03_Parse : Fun Tryz.prog n_windroseref03_Parse 158 c_windroseref03_Parse [.l true 2 2, .t 3] := ⟨⟨Tryz.f83, _, Tryz.func83, by kernel_rfl, rfl, rfl, by kernel_rfl, by kernel_rfl⟩⟩
/-- windrose/windroseref03.Text -/
def c_windroseref03_Text : C :=
 (.seq (.reg false [⟨some 1, .box 99 2 (.t 0), none⟩, ⟨some 2, .mv (.k (.one (.c (.v (.string ⟨#[]⟩))))), none⟩])
 (.seq (.reg false [⟨some 7, .fa 0 (.t 1), none⟩, ⟨some 8, .ld false 1 (.t 7), none⟩, ⟨some 3, .mv (.t 8), none⟩])
 (.seq (.seq (.reg false [⟨some 4, .mv (ki 0), none⟩])
 (.block 0 (.loop (.seq (.seq (.reg false [⟨some 9, .mv (.t 4), none⟩, ⟨some 10, .fa 1 (.t 1), none⟩, ⟨some 11, .ld false 1 (.t 10), none⟩, ⟨some 12, .len (.t 11), none⟩, ⟨some 13, .bin .lss (.t 9) (.t 12), none⟩])
 (.cond (.t 13)
 .skip
 (.exit 0)))
 (.seq (.block 1 (.seq (.seq (.reg false [⟨some 16, .mv (.t 4), none⟩, ⟨some 17, .bin .eql (.t 16) (ki 0), none⟩])
 (.cond (.t 17)
 (.reg false [⟨some 18, .mv (.t 3), none⟩, ⟨some 19, .bin .add (.t 18) (.k (.one (.c (.v (.string ⟨#[123]⟩))))), none⟩, ⟨some 3, .mv (.t 19), none⟩])
 (.reg false [⟨some 20, .mv (.t 3), none⟩, ⟨some 21, .bin .add (.t 20) (.k (.one (.c (.v (.string ⟨#[44]⟩))))), none⟩, ⟨some 3, .mv (.t 21), none⟩])))
 (.seq (.reg false [⟨some 22, .mv (.t 3), none⟩, ⟨some 23, .fa 1 (.t 1), none⟩, ⟨some 24, .ld false 1 (.t 23), none⟩, ⟨some 25, .mv (.t 4), none⟩, ⟨some 26, .ia 2 (.t 24) (.t 25), none⟩, ⟨some 27, .fa 0 (.t 26), none⟩, ⟨some 28, .ld false 1 (.t 27), none⟩, ⟨some 29, .bin .add (.t 22) (.t 28), none⟩, ⟨some 30, .bin .add (.t 29) (.k (.one (.c (.v (.string ⟨#[61, 34]⟩))))), none⟩, ⟨some 3, .mv (.t 30), none⟩])
 (.seq (.reg false [⟨some 31, .fa 1 (.t 1), none⟩, ⟨some 32, .ld false 1 (.t 31), none⟩, ⟨some 33, .mv (.t 4), none⟩, ⟨some 34, .ia 2 (.t 32) (.t 33), none⟩, ⟨some 35, .fa 1 (.t 34), none⟩, ⟨some 36, .ld false 1 (.t 35), none⟩, ⟨some 5, .mv (.t 36), none⟩])
 (.seq (.seq (.reg false [⟨some 6, .mv (ki 0), none⟩])
 (.block 2 (.loop (.seq (.seq (.reg false [⟨some 37, .mv (.t 6), none⟩, ⟨some 38, .mv (.t 5), none⟩, ⟨some 39, .lens (.t 38), none⟩, ⟨some 40, .bin .lss (.t 37) (.t 39), none⟩])
 (.cond (.t 40)
 .skip
 (.exit 2)))
 (.seq (.block 3 (.seq (.seq (.reg false [⟨some 43, .mv (.t 5), none⟩, ⟨some 44, .mv (.t 6), none⟩, ⟨some 45, .ix (.t 43) (.t 44), none⟩, ⟨some 46, .bin .eql (.t 45) (.k (.one (.c (.v (.int .u8 34))))), none⟩, ⟨some 47, .mv (.t 46), none⟩, ⟨some 48, .mv (.t 5), some (47, false)⟩, ⟨some 49, .mv (.t 6), some (47, false)⟩, ⟨some 50, .ix (.t 48) (.t 49), some (47, false)⟩, ⟨some 51, .bin .eql (.t 50) (.k (.one (.c (.v (.int .u8 92))))), some (47, false)⟩, ⟨some 52, .pick (.t 47) (kb true) (.t 51), none⟩])
 (.cond (.t 52)
 (.reg false [⟨some 53, .mv (.t 3), none⟩, ⟨some 54, .bin .add (.t 53) (.k (.one (.c (.v (.string ⟨#[92]⟩))))), none⟩, ⟨some 3, .mv (.t 54), none⟩])
 .skip))
 (.reg false [⟨some 55, .mv (.t 3), none⟩, ⟨some 56, .mv (.t 5), none⟩, ⟨some 57, .mv (.t 6), none⟩, ⟨some 58, .mv (.t 6), none⟩, ⟨some 59, .bin .add (.t 58) (ki 1), none⟩, ⟨some 60, .sls (.t 56) (some (.t 57)) (some (.t 59)), none⟩, ⟨some 61, .bin .add (.t 55) (.t 60), none⟩, ⟨some 3, .mv (.t 61), none⟩])))
 (.reg false [⟨some 41, .mv (.t 6), none⟩, ⟨some 42, .bin .add (.t 41) (ki 1), none⟩, ⟨some 6, .mv (.t 42), none⟩]))))))
 (.reg false [⟨some 62, .mv (.t 3), none⟩, ⟨some 63, .bin .add (.t 62) (.k (.one (.c (.v (.string ⟨#[34]⟩))))), none⟩, ⟨some 3, .mv (.t 63), none⟩]))))))
 (.reg false [⟨some 14, .mv (.t 4), none⟩, ⟨some 15, .bin .add (.t 14) (ki 1), none⟩, ⟨some 4, .mv (.t 15), none⟩]))))))
 (.seq (.seq (.reg false [⟨some 64, .fa 1 (.t 1), none⟩, ⟨some 65, .ld false 1 (.t 64), none⟩, ⟨some 66, .len (.t 65), none⟩, ⟨some 67, .bin .gtr (.t 66) (ki 0), none⟩])
 (.cond (.t 67)
 (.reg false [⟨some 68, .mv (.t 3), none⟩, ⟨some 69, .bin .add (.t 68) (.k (.one (.c (.v (.string ⟨#[125]⟩))))), none⟩, ⟨some 3, .mv (.t 69), none⟩])
 .skip))
 (.seq (.reg false [⟨some 70, .mv (.t 3), none⟩, ⟨some 2, .mv (.t 70), none⟩])
 .ret)))))
abbrev n_windroseref03_Text : Nat := 84
theorem F_windroseref03_Text : Fun Tryz.prog n_windroseref03_Text 71 c_windroseref03_Text [.t 2] := ⟨⟨Tryz.f84, _, Tryz.func84, by kernel_rfl, rfl, rfl, by kernel_rfl, by kernel_rfl⟩⟩
/-- windrose/windroseref03.until -/
def c_windroseref03_until : C :=
 (.seq (.reg false [⟨some 6, .mv (ki 0), none⟩])
 (.seq (.block 0 (.loop (.seq (.seq (.reg false [⟨some 7, .mv (.t 1), none⟩, ⟨some 8, .mv (.t 0), none⟩, ⟨some 9, .lens (.t 8), none⟩, ⟨some 10, .bin .lss (.t 7) (.t 9), none⟩, ⟨some 11, .mv (.t 10), none⟩, ⟨some 12, .mv (.t 0), some (11, true)⟩, ⟨some 13, .mv (.t 1), some (11, true)⟩, ⟨some 14, .ix (.t 12) (.t 13), some (11, true)⟩, ⟨some 15, .mv (.t 2), some (11, true)⟩, ⟨some 16, .bin .neq (.t 14) (.t 15), some (11, true)⟩, ⟨some 17, .pick (.t 11) (.t 16) (kb false), none⟩])
 (.cond (.t 17)
 .skip
 (.exit 0)))
 (.block 1 (.reg false [⟨some 18, .mv (.t 1), none⟩, ⟨some 19, .bin .add (.t 18) (ki 1), none⟩, ⟨some 1, .mv (.t 19), none⟩])))))
 (.seq (.reg false [⟨some 20, .mv (.t 1), none⟩, ⟨some 6, .mv (.t 20), none⟩])
 .ret)))
abbrev n_windroseref03_until : Nat := 104
theorem F_windroseref03_until : Fun Tryz.prog n_windroseref03_until 21 c_windroseref03_until [.t 6] := ⟨⟨Tryz.f104, _, Tryz.func104, by kernel_rfl, rfl, rfl, by kernel_rfl, by kernel_rfl⟩⟩
/-- windrose/windroseref03.May -/
def c_windroseref03_May : C :=
 (.seq (.reg false [⟨some 1, .box 99 2 (.t 0), none⟩, ⟨some 2, .mv (kb false), none⟩])
 (.seq (.seq (.reg false [⟨some 3, .mv (ki 0), none⟩])
 (.block 0 (.loop (.seq (.seq (.reg false [⟨some 4, .mv (.t 3), none⟩, ⟨some 5, .fa 1 (.t 1), none⟩, ⟨some 6, .ld false 1 (.t 5), none⟩, ⟨some 7, .len (.t 6), none⟩, ⟨some 8, .bin .lss (.t 4) (.t 7), none⟩])
 (.cond (.t 8)
 .skip
 (.exit 0)))
 (.seq (.block 1 (.seq (.reg true [⟨some 11, .fa 1 (.t 1), none⟩, ⟨some 12, .ld false 1 (.t 11), none⟩, ⟨some 13, .mv (.t 3), none⟩, ⟨some 14, .ia 2 (.t 12) (.t 13), none⟩, ⟨some 15, .fa 0 (.t 14), none⟩, ⟨some 16, .ld false 1 (.t 15), none⟩, ⟨some 17, .call (kf 129) [(.t 16)], none⟩, ⟨some 18, .un .not (.t 17), none⟩, ⟨some 19, .mv (.t 18), none⟩, ⟨some 20, .fa 1 (.t 1), some (19, false)⟩, ⟨some 21, .ld false 1 (.t 20), some (19, false)⟩, ⟨some 22, .mv (.t 3), some (19, false)⟩, ⟨some 23, .ia 2 (.t 21) (.t 22), some (19, false)⟩, ⟨some 24, .fa 1 (.t 23), some (19, false)⟩, ⟨some 25, .ld false 1 (.t 24), some (19, false)⟩, ⟨some 26, .call (kf 130) [(.t 25)], some (19, false)⟩, ⟨some 27, .un .not (.t 26), some (19, false)⟩, ⟨some 28, .pick (.t 19) (kb true) (.t 27), none⟩, ⟨some 29, .mv (.t 28), none⟩, ⟨some 30, .mv (.t 3), some (29, false)⟩, ⟨some 31, .bin .gtr (.t 30) (ki 0), some (29, false)⟩, ⟨some 32, .mv (.t 31), some (29, false)⟩, ⟨some 33, .fa 1 (.t 1), some (32, true)⟩, ⟨some 34, .ld false 1 (.t 33), some (32, true)⟩, ⟨some 35, .mv (.t 3), some (32, true)⟩, ⟨some 36, .bin .sub (.t 35) (ki 1), some (32, true)⟩, ⟨some 37, .ia 2 (.t 34) (.t 36), some (32, true)⟩, ⟨some 38, .fa 0 (.t 37), some (32, true)⟩, ⟨some 39, .ld false 1 (.t 38), some (32, true)⟩, ⟨some 40, .fa 1 (.t 1), some (32, true)⟩, ⟨some 41, .ld false 1 (.t 40), some (32, true)⟩, ⟨some 42, .mv (.t 3), some (32, true)⟩, ⟨some 43, .ia 2 (.t 41) (.t 42), some (32, true)⟩, ⟨some 44, .fa 0 (.t 43), some (32, true)⟩, ⟨some 45, .ld false 1 (.t 44), some (32, true)⟩, ⟨some 46, .bin .geq (.t 39) (.t 45), some (32, true)⟩, ⟨some 47, .pick (.t 32) (.t 46) (kb false), some (29, false)⟩, ⟨some 48, .pick (.t 29) (kb true) (.t 47), none⟩])
 (.cond (.t 48)
 (.seq (.reg false [⟨some 2, .mv (kb false), none⟩])
 .ret)
 .skip)))
 (.reg false [⟨some 9, .mv (.t 3), none⟩, ⟨some 10, .bin .add (.t 9) (ki 1), none⟩, ⟨some 3, .mv (.t 10), none⟩]))))))
 (.seq (.reg false [⟨some 49, .fa 0 (.t 1), none⟩, ⟨some 50, .ld false 1 (.t 49), none⟩, ⟨some 51, .call (kf 129) [(.t 50)], none⟩, ⟨some 52, .mv (.t 51), none⟩, ⟨some 53, .fa 1 (.t 1), some (52, true)⟩, ⟨some 54, .ld false 1 (.t 53), some (52, true)⟩, ⟨some 55, .len (.t 54), some (52, true)⟩, ⟨some 56, .bin .leq (.t 55) (ki 4), some (52, true)⟩, ⟨some 57, .pick (.t 52) (.t 56) (kb false), none⟩, ⟨some 2, .mv (.t 57), none⟩])
 .ret)))
abbrev n_windroseref03_May : Nat := 105
theorem F_windroseref03_May : Fun Tryz.prog n_windroseref03_May 58 c_windroseref03_May [.t 2] := ⟨⟨Tryz.f105, _, Tryz.func105, by kernel_rfl, rfl, rfl, by kernel_rfl, by kernel_rfl⟩⟩
/-- windrose/windroseref03.Name -/
def c_windroseref03_Name : C :=
 (.seq (.reg false [⟨some 2, .mv (kb false), none⟩])
 (.seq (.seq (.reg false [⟨some 3, .mv (ki 0), none⟩])
 (.block 0 (.loop (.seq (.seq (.reg false [⟨some 4, .mv (.t 3), none⟩, ⟨some 5, .mv (.t 0), none⟩, ⟨some 6, .lens (.t 5), none⟩, ⟨some 7, .bin .lss (.t 4) (.t 6), none⟩])
 (.cond (.t 7)
 .skip
 (.exit 0)))
 (.seq (.block 1 (.seq (.reg false [⟨some 10, .mv (.t 0), none⟩, ⟨some 11, .mv (.t 3), none⟩, ⟨some 12, .ix (.t 10) (.t 11), none⟩, ⟨some 13, .bin .lss (.t 12) (.k (.one (.c (.v (.int .u8 97))))), none⟩, ⟨some 14, .mv (.t 13), none⟩, ⟨some 15, .mv (.t 0), some (14, false)⟩, ⟨some 16, .mv (.t 3), some (14, false)⟩, ⟨some 17, .ix (.t 15) (.t 16), some (14, false)⟩, ⟨some 18, .bin .gtr (.t 17) (.k (.one (.c (.v (.int .u8 122))))), some (14, false)⟩, ⟨some 19, .pick (.t 14) (kb true) (.t 18), none⟩])
 (.cond (.t 19)
 (.seq (.reg false [⟨some 2, .mv (kb false), none⟩])
 .ret)
 .skip)))
 (.reg false [⟨some 8, .mv (.t 3), none⟩, ⟨some 9, .bin .add (.t 8) (ki 1), none⟩, ⟨some 3, .mv (.t 9), none⟩]))))))
 (.seq (.reg false [⟨some 20, .mv (.t 0), none⟩, ⟨some 21, .lens (.t 20), none⟩, ⟨some 22, .bin .geq (.t 21) (ki 1), none⟩, ⟨some 23, .mv (.t 22), none⟩, ⟨some 24, .mv (.t 0), some (23, true)⟩, ⟨some 25, .lens (.t 24), some (23, true)⟩, ⟨some 26, .bin .leq (.t 25) (ki 16), some (23, true)⟩, ⟨some 27, .pick (.t 23) (.t 26) (kb false), none⟩, ⟨some 2, .mv (.t 27), none⟩])
 .ret)))
abbrev n_windroseref03_Name : Nat := 129
theorem F_windroseref03_Name : Fun Tryz.prog n_windroseref03_Name 28 c_windroseref03_Name [.t 2] := ⟨⟨Tryz.f129, _, Tryz.func129, by kernel_rfl, rfl, rfl, by kernel_rfl, by kernel_rfl⟩⟩
/-- windrose/windroseref03.Val -/
def c_windroseref03_Val : C :=
 (.seq (.reg false [⟨some 2, .mv (kb false), none⟩])
 (.seq (.seq (.reg false [⟨some 3, .mv (ki 0), none⟩])
 (.block 0 (.loop (.seq (.seq (.reg false [⟨some 4, .mv (.t 3), none⟩, ⟨some 5, .mv (.t 0), none⟩, ⟨some 6, .lens (.t 5), none⟩, ⟨some 7, .bin .lss (.t 4) (.t 6), none⟩])
 (.cond (.t 7)
 .skip
 (.exit 0)))
 (.seq (.block 1 (.seq (.reg false [⟨some 10, .mv (.t 0), none⟩, ⟨some 11, .mv (.t 3), none⟩, ⟨some 12, .ix (.t 10) (.t 11), none⟩, ⟨some 13, .bin .lss (.t 12) (.k (.one (.c (.v (.int .u8 32))))), none⟩, ⟨some 14, .mv (.t 13), none⟩, ⟨some 15, .mv (.t 0), some (14, false)⟩, ⟨some 16, .mv (.t 3), some (14, false)⟩, ⟨some 17, .ix (.t 15) (.t 16), some (14, false)⟩, ⟨some 18, .bin .gtr (.t 17) (.k (.one (.c (.v (.int .u8 126))))), some (14, false)⟩, ⟨some 19, .pick (.t 14) (kb true) (.t 18), none⟩])
 (.cond (.t 19)
 (.seq (.reg false [⟨some 2, .mv (kb false), none⟩])
 .ret)
 .skip)))
 (.reg false [⟨some 8, .mv (.t 3), none⟩, ⟨some 9, .bin .add (.t 8) (ki 1), none⟩, ⟨some 3, .mv (.t 9), none⟩]))))))
 (.seq (.reg false [⟨some 20, .mv (.t 0), none⟩, ⟨some 21, .lens (.t 20), none⟩, ⟨some 22, .bin .leq (.t 21) (ki 16), none⟩, ⟨some 2, .mv (.t 22), none⟩])
 .ret)))
abbrev n_windroseref03_Val : Nat := 130
theorem F_windroseref03_Val : Fun Tryz.prog n_windroseref03_Val 23 c_windroseref03_Val [.t 2] := ⟨⟨Tryz.f130, _, Tryz.func130, by kernel_rfl, rfl, rfl, by kernel_rfl, by kernel_rfl⟩⟩
/-- windrose/label.name -/
def c_label_name : C :=
 (.seq (.reg false [⟨some 2, .mv (kb false), none⟩])
 (.seq (.seq (.reg false [⟨some 5, .mv (.t 0), none⟩, ⟨some 6, .bin .eql (.t 5) (.k (.one (.c (.v (.string ⟨#[]⟩))))), none⟩, ⟨some 7, .mv (.t 6), none⟩, ⟨some 8, .mv (.t 0), some (7, false)⟩, ⟨some 9, .lens (.t 8), some (7, false)⟩, ⟨some 10, .bin .gtr (.t 9) (ki 16), some (7, false)⟩, ⟨some 11, .pick (.t 7) (kb true) (.t 10), none⟩])
 (.cond (.t 11)
 (.seq (.reg false [⟨some 2, .mv (kb false), none⟩])
 .ret)
 .skip))
 (.seq (.seq (.reg false [⟨some 12, .mv (.t 0), none⟩, ⟨some 13, .rng (.t 12), none⟩])
 (.block 0 (.loop (.seq (.reg false [⟨some 14, .nxt (.t 13), none⟩, ⟨some 15, .ex (.t 14) 0, none⟩])
 (.seq (.cond (.t 15)
 .skip
 (.exit 0))
 (.block 1 (.seq (.reg false [⟨some 16, .ex (.t 14) 2, none⟩, ⟨some 4, .mv (.t 16), none⟩])
 (.seq (.reg false [⟨some 17, .mv (.t 4), none⟩, ⟨some 18, .bin .lss (.t 17) (.k (.one (.c (.v (.int .i32 97))))), none⟩, ⟨some 19, .mv (.t 18), none⟩, ⟨some 20, .mv (.t 4), some (19, false)⟩, ⟨some 21, .bin .gtr (.t 20) (.k (.one (.c (.v (.int .i32 122))))), some (19, false)⟩, ⟨some 22, .pick (.t 19) (kb true) (.t 21), none⟩])
 (.cond (.t 22)
 (.seq (.reg false [⟨some 2, .mv (kb false), none⟩])
 .ret)
 .skip)))))))))
 (.seq (.reg false [⟨some 2, .mv (kb true), none⟩])
 .ret))))
abbrev n_label_name : Nat := 145
theorem F_label_name : Fun Tryz.prog n_label_name 23 c_label_name [.t 2] := ⟨⟨Tryz.f145, _, Tryz.func145, by kernel_rfl, rfl, rfl, by kernel_rfl, by kernel_rfl⟩⟩
/-- windrose/label.value -/
def c_label_value : C :=
 (.seq (.reg false [⟨some 2, .mv (kb false), none⟩])
 (.seq (.seq (.reg false [⟨some 4, .mv (.t 0), none⟩, ⟨some 5, .lens (.t 4), none⟩, ⟨some 6, .mv (ki 0), none⟩])
 (.block 0 (.loop (.seq (.reg false [⟨some 7, .bin .lss (.t 6) (.t 5), none⟩])
 (.seq (.cond (.t 7)
 .skip
 (.exit 0))
 (.seq (.block 1 (.seq (.reg false [⟨some 8, .mv (.t 6), none⟩, ⟨some 3, .mv (.t 8), none⟩])
 (.seq (.reg false [⟨some 9, .mv (.t 0), none⟩, ⟨some 10, .mv (.t 3), none⟩, ⟨some 11, .ix (.t 9) (.t 10), none⟩, ⟨some 12, .bin .lss (.t 11) (.k (.one (.c (.v (.int .u8 32))))), none⟩, ⟨some 13, .mv (.t 12), none⟩, ⟨some 14, .mv (.t 0), some (13, false)⟩, ⟨some 15, .mv (.t 3), some (13, false)⟩, ⟨some 16, .ix (.t 14) (.t 15), some (13, false)⟩, ⟨some 17, .bin .gtr (.t 16) (.k (.one (.c (.v (.int .u8 126))))), some (13, false)⟩, ⟨some 18, .pick (.t 13) (kb true) (.t 17), none⟩])
 (.cond (.t 18)
 (.seq (.reg false [⟨some 2, .mv (kb false), none⟩])
 .ret)
 .skip))))
 (.reg false [⟨some 19, .bin .add (.t 6) (ki 1), none⟩, ⟨some 6, .mv (.t 19), none⟩])))))))
 (.seq (.reg false [⟨some 20, .mv (.t 0), none⟩, ⟨some 21, .lens (.t 20), none⟩, ⟨some 22, .bin .leq (.t 21) (ki 16), none⟩, ⟨some 2, .mv (.t 22), none⟩])
 .ret)))
abbrev n_label_value : Nat := 146
theorem F_label_value : Fun Tryz.prog n_label_value 23 c_label_value [.t 2] := ⟨⟨Tryz.f146, _, Tryz.func146, by kernel_rfl, rfl, rfl, by kernel_rfl, by kernel_rfl⟩⟩
/-- windrose/label.quoted -/
def c_label_quoted : C :=
 (.seq (.reg false [⟨some 2, .mv (.k (.one (.c (.v (.string ⟨#[]⟩))))), none⟩, ⟨some 3, .mv (.k (.one (.c (.v (.string ⟨#[]⟩))))), none⟩, ⟨some 4, .mv (kb false), none⟩])
 (.seq (.reg false [⟨some 5, .mv (.k (.one (.c (.v (.slice none 0 0))))), none⟩])
 (.seq (.seq (.reg false [⟨some 6, .mv (ki 0), none⟩])
 (.block 0 (.loop (.seq (.seq (.reg false [⟨some 7, .mv (.t 6), none⟩, ⟨some 8, .mv (.t 0), none⟩, ⟨some 9, .lens (.t 8), none⟩, ⟨some 10, .bin .lss (.t 7) (.t 9), none⟩])
 (.cond (.t 10)
 .skip
 (.exit 0)))
 (.seq (.block 1 (.seq (.seq (.reg false [⟨some 13, .mv (.t 0), none⟩, ⟨some 14, .mv (.t 6), none⟩, ⟨some 15, .ix (.t 13) (.t 14), none⟩])
 (.block 2 (.seq (.reg false [⟨some 17, .bin .eql (.t 15) (.k (.one (.c (.v (.int .u8 34))))), none⟩, ⟨some 16, .mv (.t 17), none⟩])
 (.cond (.t 16)
 (.seq (.reg true [⟨some 18, .mv (.t 5), none⟩, ⟨some 19, .b2s (.t 18), none⟩, ⟨some 20, .mv (.t 0), none⟩, ⟨some 21, .mv (.t 6), none⟩, ⟨some 22, .bin .add (.t 21) (ki 1), none⟩, ⟨some 23, .sls (.t 20) (some (.t 22)) none, none⟩, ⟨some 2, .mv (.t 19), none⟩, ⟨some 3, .mv (.t 23), none⟩, ⟨some 4, .mv (kb true), none⟩])
 .ret)
 (.seq (.reg false [⟨some 25, .bin .eql (.t 15) (.k (.one (.c (.v (.int .u8 92))))), none⟩, ⟨some 24, .mv (.t 25), none⟩])
 (.cond (.t 24)
 (.seq (.reg false [⟨some 26, .mv (.t 6), none⟩, ⟨some 27, .bin .add (.t 26) (ki 1), none⟩, ⟨some 6, .mv (.t 27), none⟩])
 (.seq (.reg false [⟨some 28, .mv (.t 6), none⟩, ⟨some 29, .mv (.t 0), none⟩, ⟨some 30, .lens (.t 29), none⟩, ⟨some 31, .bin .eql (.t 28) (.t 30), none⟩, ⟨some 32, .mv (.t 31), none⟩, ⟨some 33, .mv (.t 0), some (32, false)⟩, ⟨some 34, .mv (.t 6), some (32, false)⟩, ⟨some 35, .ix (.t 33) (.t 34), some (32, false)⟩, ⟨some 36, .bin .neq (.t 35) (.k (.one (.c (.v (.int .u8 34))))), some (32, false)⟩, ⟨some 37, .mv (.t 36), some (32, false)⟩, ⟨some 38, .mv (.t 0), some (37, true)⟩, ⟨some 39, .mv (.t 6), some (37, true)⟩, ⟨some 40, .ix (.t 38) (.t 39), some (37, true)⟩, ⟨some 41, .bin .neq (.t 40) (.k (.one (.c (.v (.int .u8 92))))), some (37, true)⟩, ⟨some 42, .pick (.t 37) (.t 41) (kb false), some (32, false)⟩, ⟨some 43, .pick (.t 32) (kb true) (.t 42), none⟩])
 (.cond (.t 43)
 (.seq (.reg false [⟨some 2, .mv (.k (.one (.c (.v (.string ⟨#[]⟩))))), none⟩, ⟨some 3, .mv (.k (.one (.c (.v (.string ⟨#[]⟩))))), none⟩, ⟨some 4, .mv (kb false), none⟩])
 .ret)
 .skip)))
 .skip))))))
 (.reg false [⟨some 44, .mv (.t 5), none⟩, ⟨some 45, .mv (.t 0), none⟩, ⟨some 46, .mv (.t 6), none⟩, ⟨some 47, .ix (.t 45) (.t 46), none⟩, ⟨some 48, .bsl 5 1 1 [.int .u8 0] [(0, (.t 47))], none⟩, ⟨some 49, .app 5 1 1 [.int .u8 0] (.t 44) (.t 48), none⟩, ⟨some 5, .mv (.t 49), none⟩])))
 (.reg false [⟨some 11, .mv (.t 6), none⟩, ⟨some 12, .bin .add (.t 11) (ki 1), none⟩, ⟨some 6, .mv (.t 12), none⟩]))))))
 (.seq (.reg false [⟨some 2, .mv (.k (.one (.c (.v (.string ⟨#[]⟩))))), none⟩, ⟨some 3, .mv (.k (.one (.c (.v (.string ⟨#[]⟩))))), none⟩, ⟨some 4, .mv (kb false), none⟩])
 .ret))))
abbrev n_label_quoted : Nat := 119
theorem F_label_quoted : Fun Tryz.prog n_label_quoted 50 c_label_quoted [.t 2, .t 3, .t 4] := ⟨⟨Tryz.f119, _, Tryz.func119, by kernel_rfl, rfl, rfl, by kernel_rfl, by kernel_rfl⟩⟩
/-- slices.SortFunc[[]windrose/api.Label,windrose/api.Label] -/
def c_slices_SortFunc_api_Label_api_Label : C :=
 (.seq (.reg false [⟨some 5, .mv (.t 0), none⟩, ⟨some 6, .len (.t 5), none⟩, ⟨some 4, .mv (.t 6), none⟩])
 (.reg false [⟨some 7, .mv (.t 0), none⟩, ⟨some 8, .mv (.t 4), none⟩, ⟨some 9, .mv (.t 4), none⟩, ⟨some 10, .cvi .u64 (.t 9), none⟩, ⟨some 11, .call (kf 143) [(.t 10)], none⟩, ⟨some 12, .mv (.t 1), none⟩, ⟨some 13, .call (kf 142) [(.t 7), (ki 0), (.t 8), (.t 11), (.t 12)], none⟩]))
abbrev n_slices_SortFunc_api_Label_api_Label : Nat := 120
theorem F_slices_SortFunc_api_Label_api_Label : Fun Tryz.prog n_slices_SortFunc_api_Label_api_Label 14 c_slices_SortFunc_api_Label_api_Label [] := ⟨⟨Tryz.f120, _, Tryz.func120, by kernel_rfl, rfl, rfl, by kernel_rfl, by kernel_rfl⟩⟩
/-- windrose/label.Parse$1 -/
def c_label_Parse_1 : C :=
 (.seq (.reg false [⟨some 2, .box 128 2 (.t 0), none⟩, ⟨some 3, .box 128 2 (.t 1), none⟩, ⟨some 4, .mv (ki 0), none⟩])
 (.seq (.reg false [⟨some 5, .fa 0 (.t 2), none⟩, ⟨some 6, .ld false 1 (.t 5), none⟩, ⟨some 7, .fa 0 (.t 3), none⟩, ⟨some 8, .ld false 1 (.t 7), none⟩, ⟨some 9, .call (kf 122) [(.t 6), (.t 8)], none⟩, ⟨some 4, .mv (.t 9), none⟩])
 .ret))
abbrev n_label_Parse_1 : Nat := 121
theorem F_label_Parse_1 : Fun Tryz.prog n_label_Parse_1 10 c_label_Parse_1 [.t 4] := ⟨⟨Tryz.f121, _, Tryz.func121, by kernel_rfl, rfl, rfl, by kernel_rfl, by kernel_rfl⟩⟩
/-- strings.Compare -/
def c_strings_Compare : C :=
 (.seq (.reg false [⟨some 4, .mv (ki 0), none⟩])
 (.seq (.reg false [⟨some 5, .mv (.t 0), none⟩, ⟨some 6, .mv (.t 1), none⟩, ⟨some 7, .call (kf 144) [(.t 5), (.t 6)], none⟩, ⟨some 4, .mv (.t 7), none⟩])
 .ret))
abbrev n_strings_Compare : Nat := 122
theorem F_strings_Compare : Fun Tryz.prog n_strings_Compare 8 c_strings_Compare [.t 4] := ⟨⟨Tryz.f122, _, Tryz.func122, by kernel_rfl, rfl, rfl, by kernel_rfl, by kernel_rfl⟩⟩
/-- slices.pdqsortCmpFunc[windrose/api.Label] -/
def c_slices_pdqsortCmpFunc_api_Label : C :=
 (.seq (.reg false [⟨some 10, .mv (kb true), none⟩])
 (.seq (.reg false [⟨some 11, .mv (kb true), none⟩])
 (.block 0 (.loop (.block 1 (.seq (.reg false [⟨some 21, .mv (.t 2), none⟩, ⟨some 22, .mv (.t 1), none⟩, ⟨some 23, .bin .sub (.t 21) (.t 22), none⟩, ⟨some 12, .mv (.t 23), none⟩])
 (.seq (.seq (.reg false [⟨some 24, .mv (.t 12), none⟩, ⟨some 25, .bin .leq (.t 24) (ki 12), none⟩])
 (.cond (.t 25)
 (.seq (.reg false [⟨some 26, .mv (.t 0), none⟩, ⟨some 27, .mv (.t 1), none⟩, ⟨some 28, .mv (.t 2), none⟩, ⟨some 29, .mv (.t 4), none⟩, ⟨some 30, .call (kf 156) [(.t 26), (.t 27), (.t 28), (.t 29)], none⟩])
 .ret)
 .skip))
 (.seq (.seq (.reg false [⟨some 31, .mv (.t 3), none⟩, ⟨some 32, .bin .eql (.t 31) (ki 0), none⟩])
 (.cond (.t 32)
 (.seq (.reg false [⟨some 33, .mv (.t 0), none⟩, ⟨some 34, .mv (.t 1), none⟩, ⟨some 35, .mv (.t 2), none⟩, ⟨some 36, .mv (.t 4), none⟩, ⟨some 37, .call (kf 157) [(.t 33), (.t 34), (.t 35), (.t 36)], none⟩])
 .ret)
 .skip))
 (.seq (.seq (.reg false [⟨some 38, .mv (.t 10), none⟩, ⟨some 39, .un .not (.t 38), none⟩])
 (.cond (.t 39)
 (.seq (.reg false [⟨some 40, .mv (.t 0), none⟩, ⟨some 41, .mv (.t 1), none⟩, ⟨some 42, .mv (.t 2), none⟩, ⟨some 43, .mv (.t 4), none⟩, ⟨some 44, .call (kf 158) [(.t 40), (.t 41), (.t 42), (.t 43)], none⟩])
 (.reg false [⟨some 45, .mv (.t 3), none⟩, ⟨some 46, .bin .sub (.t 45) (ki 1), none⟩, ⟨some 3, .mv (.t 46), none⟩]))
 .skip))
 (.seq (.reg false [⟨some 48, .mv (.t 0), none⟩, ⟨some 49, .mv (.t 1), none⟩, ⟨some 50, .mv (.t 2), none⟩, ⟨some 51, .mv (.t 4), none⟩, ⟨some 52, .call (kf 159) [(.t 48), (.t 49), (.t 50), (.t 51)], none⟩, ⟨some 47, .mv (.t 52), none⟩, ⟨some 53, .ex (.t 47) 0, none⟩, ⟨some 54, .ex (.t 47) 1, none⟩, ⟨some 13, .mv (.t 53), none⟩, ⟨some 14, .mv (.t 54), none⟩])
 (.seq (.seq (.reg false [⟨some 55, .mv (.t 14), none⟩, ⟨some 56, .bin .eql (.t 55) (ki 2), none⟩])
 (.cond (.t 56)
 (.seq (.reg false [⟨some 57, .mv (.t 0), none⟩, ⟨some 58, .mv (.t 1), none⟩, ⟨some 59, .mv (.t 2), none⟩, ⟨some 60, .mv (.t 4), none⟩, ⟨some 61, .call (kf 160) [(.t 57), (.t 58), (.t 59), (.t 60)], none⟩])
 (.seq (.reg false [⟨some 62, .mv (.t 2), none⟩, ⟨some 63, .bin .sub (.t 62) (ki 1), none⟩, ⟨some 64, .mv (.t 13), none⟩, ⟨some 65, .mv (.t 1), none⟩, ⟨some 66, .bin .sub (.t 64) (.t 65), none⟩, ⟨some 67, .bin .sub (.t 63) (.t 66), none⟩, ⟨some 13, .mv (.t 67), none⟩])
 (.reg false [⟨some 14, .mv (ki 1), none⟩])))
 .skip))
 (.seq (.seq (.reg false [⟨some 68, .mv (.t 10), none⟩, ⟨some 69, .mv (.t 68), none⟩, ⟨some 70, .mv (.t 11), some (69, true)⟩, ⟨some 71, .pick (.t 69) (.t 70) (kb false), none⟩, ⟨some 72, .mv (.t 71), none⟩, ⟨some 73, .mv (.t 14), some (72, true)⟩, ⟨some 74, .bin .eql (.t 73) (ki 1), some (72, true)⟩, ⟨some 75, .pick (.t 72) (.t 74) (kb false), none⟩])
 (.cond (.t 75)
 (.seq (.reg false [⟨some 76, .mv (.t 0), none⟩, ⟨some 77, .mv (.t 1), none⟩, ⟨some 78, .mv (.t 2), none⟩, ⟨some 79, .mv (.t 4), none⟩, ⟨some 80, .call (kf 161) [(.t 76), (.t 77), (.t 78), (.t 79)], none⟩])
 (.cond (.t 80)
 .ret
 .skip))
 .skip))
 (.seq (.seq (.reg true [⟨some 81, .mv (.t 1), none⟩, ⟨some 82, .bin .gtr (.t 81) (ki 0), none⟩, ⟨some 83, .mv (.t 82), none⟩, ⟨some 84, .mv (.t 4), some (83, true)⟩, ⟨some 85, .mv (.t 0), some (83, true)⟩, ⟨some 86, .mv (.t 1), some (83, true)⟩, ⟨some 87, .bin .sub (.t 86) (ki 1), some (83, true)⟩, ⟨some 88, .ia 2 (.t 85) (.t 87), some (83, true)⟩, ⟨some 89, .ld true 2 (.t 88), some (83, true)⟩, ⟨some 90, .mv (.t 0), some (83, true)⟩, ⟨some 91, .mv (.t 13), some (83, true)⟩, ⟨some 92, .ia 2 (.t 90) (.t 91), some (83, true)⟩, ⟨some 93, .ld true 2 (.t 92), some (83, true)⟩, ⟨some 94, .call (.t 84) [(.t 89), (.t 93)], some (83, true)⟩, ⟨some 95, .bin .lss (.t 94) (ki 0), some (83, true)⟩, ⟨some 96, .un .not (.t 95), some (83, true)⟩, ⟨some 97, .pick (.t 83) (.t 96) (kb false), none⟩])
 (.cond (.t 97)
 (.seq (.reg false [⟨some 98, .mv (.t 0), none⟩, ⟨some 99, .mv (.t 1), none⟩, ⟨some 100, .mv (.t 2), none⟩, ⟨some 101, .mv (.t 13), none⟩, ⟨some 102, .mv (.t 4), none⟩, ⟨some 103, .call (kf 162) [(.t 98), (.t 99), (.t 100), (.t 101), (.t 102)], none⟩, ⟨some 15, .mv (.t 103), none⟩])
 (.seq (.reg false [⟨some 104, .mv (.t 15), none⟩, ⟨some 1, .mv (.t 104), none⟩])
 (.exit 1)))
 .skip))
 (.seq (.reg false [⟨some 106, .mv (.t 0), none⟩, ⟨some 107, .mv (.t 1), none⟩, ⟨some 108, .mv (.t 2), none⟩, ⟨some 109, .mv (.t 13), none⟩, ⟨some 110, .mv (.t 4), none⟩, ⟨some 111, .call (kf 163) [(.t 106), (.t 107), (.t 108), (.t 109), (.t 110)], none⟩, ⟨some 105, .mv (.t 111), none⟩, ⟨some 112, .ex (.t 105) 0, none⟩, ⟨some 113, .ex (.t 105) 1, none⟩, ⟨some 16, .mv (.t 112), none⟩, ⟨some 17, .mv (.t 113), none⟩])
 (.seq (.reg false [⟨some 114, .mv (.t 17), none⟩, ⟨some 11, .mv (.t 114), none⟩])
 (.seq (.reg false [⟨some 115, .mv (.t 16), none⟩, ⟨some 116, .mv (.t 1), none⟩, ⟨some 117, .bin .sub (.t 115) (.t 116), none⟩, ⟨some 118, .mv (.t 2), none⟩, ⟨some 119, .mv (.t 16), none⟩, ⟨some 120, .bin .sub (.t 118) (.t 119), none⟩, ⟨some 18, .mv (.t 117), none⟩, ⟨some 19, .mv (.t 120), none⟩])
 (.seq (.reg false [⟨some 121, .mv (.t 12), none⟩, ⟨some 122, .bin .quo (.t 121) (ki 8), none⟩, ⟨some 20, .mv (.t 122), none⟩])
 (.seq (.reg false [⟨some 123, .mv (.t 18), none⟩, ⟨some 124, .mv (.t 19), none⟩, ⟨some 125, .bin .lss (.t 123) (.t 124), none⟩])
 (.cond (.t 125)
 (.seq (.reg false [⟨some 126, .mv (.t 18), none⟩, ⟨some 127, .mv (.t 20), none⟩, ⟨some 128, .bin .geq (.t 126) (.t 127), none⟩, ⟨some 10, .mv (.t 128), none⟩])
 (.seq (.reg false [⟨some 129, .mv (.t 0), none⟩, ⟨some 130, .mv (.t 1), none⟩, ⟨some 131, .mv (.t 16), none⟩, ⟨some 132, .mv (.t 3), none⟩, ⟨some 133, .mv (.t 4), none⟩, ⟨some 134, .call (kf 142) [(.t 129), (.t 130), (.t 131), (.t 132), (.t 133)], none⟩])
 (.reg false [⟨some 135, .mv (.t 16), none⟩, ⟨some 136, .bin .add (.t 135) (ki 1), none⟩, ⟨some 1, .mv (.t 136), none⟩])))
 (.seq (.reg false [⟨some 137, .mv (.t 19), none⟩, ⟨some 138, .mv (.t 20), none⟩, ⟨some 139, .bin .geq (.t 137) (.t 138), none⟩, ⟨some 10, .mv (.t 139), none⟩])
 (.seq (.reg false [⟨some 140, .mv (.t 0), none⟩, ⟨some 141, .mv (.t 16), none⟩, ⟨some 142, .bin .add (.t 141) (ki 1), none⟩, ⟨some 143, .mv (.t 2), none⟩, ⟨some 144, .mv (.t 3), none⟩, ⟨some 145, .mv (.t 4), none⟩, ⟨some 146, .call (kf 142) [(.t 140), (.t 142), (.t 143), (.t 144), (.t 145)], none⟩])
 (.reg false [⟨some 147, .mv (.t 16), none⟩, ⟨some 2, .mv (.t 147), none⟩]))))))))))))))))))))))
abbrev n_slices_pdqsortCmpFunc_api_Label : Nat := 142
theorem F_slices_pdqsortCmpFunc_api_Label : Fun Tryz.prog n_slices_pdqsortCmpFunc_api_Label 148 c_slices_pdqsortCmpFunc_api_Label [] := ⟨⟨Tryz.f142, _, Tryz.func142, by kernel_rfl, rfl, rfl, by kernel_rfl, by kernel_rfl⟩⟩
/-- internal/bytealg.CompareString -/
def c_bytealg_CompareString : C :=
 (.seq (.reg false [⟨some 4, .mv (ki 0), none⟩])
 (.seq (.reg false [⟨some 5, .mv (.t 0), none⟩, ⟨some 6, .mv (.t 1), none⟩, ⟨some 7, .call (kf 166) [(.t 5), (.t 6)], none⟩, ⟨some 4, .mv (.t 7), none⟩])
 .ret))
abbrev n_bytealg_CompareString : Nat := 144
theorem F_bytealg_CompareString : Fun Tryz.prog n_bytealg_CompareString 8 c_bytealg_CompareString [.t 4] := ⟨⟨Tryz.f144, _, Tryz.func144, by kernel_rfl, rfl, rfl, by kernel_rfl, by kernel_rfl⟩⟩
/-- slices.insertionSortCmpFunc[windrose/api.Label] -/
def c_slices_insertionSortCmpFunc_api_Label : C :=
 (.seq (.reg false [⟨some 10, .mv (.t 1), none⟩, ⟨some 11, .bin .add (.t 10) (ki 1), none⟩, ⟨some 8, .mv (.t 11), none⟩])
 (.block 0 (.loop (.seq (.seq (.reg false [⟨some 12, .mv (.t 8), none⟩, ⟨some 13, .mv (.t 2), none⟩, ⟨some 14, .bin .lss (.t 12) (.t 13), none⟩])
 (.cond (.t 14)
 .skip
 (.exit 0)))
 (.seq (.block 1 (.seq (.reg false [⟨some 17, .mv (.t 8), none⟩, ⟨some 9, .mv (.t 17), none⟩])
 (.block 2 (.loop (.seq (.seq (.reg true [⟨some 18, .mv (.t 9), none⟩, ⟨some 19, .mv (.t 1), none⟩, ⟨some 20, .bin .gtr (.t 18) (.t 19), none⟩, ⟨some 21, .mv (.t 20), none⟩, ⟨some 22, .mv (.t 3), some (21, true)⟩, ⟨some 23, .mv (.t 0), some (21, true)⟩, ⟨some 24, .mv (.t 9), some (21, true)⟩, ⟨some 25, .ia 2 (.t 23) (.t 24), some (21, true)⟩, ⟨some 26, .ld true 2 (.t 25), some (21, true)⟩, ⟨some 27, .mv (.t 0), some (21, true)⟩, ⟨some 28, .mv (.t 9), some (21, true)⟩, ⟨some 29, .bin .sub (.t 28) (ki 1), some (21, true)⟩, ⟨some 30, .ia 2 (.t 27) (.t 29), some (21, true)⟩, ⟨some 31, .ld true 2 (.t 30), some (21, true)⟩, ⟨some 32, .call (.t 22) [(.t 26), (.t 31)], some (21, true)⟩, ⟨some 33, .bin .lss (.t 32) (ki 0), some (21, true)⟩, ⟨some 34, .pick (.t 21) (.t 33) (kb false), none⟩])
 (.cond (.t 34)
 .skip
 (.exit 2)))
 (.seq (.block 3 (.reg true [⟨some 37, .mv (.t 0), none⟩, ⟨some 38, .mv (.t 9), none⟩, ⟨some 39, .mv (.t 0), none⟩, ⟨some 40, .mv (.t 9), none⟩, ⟨some 41, .bin .sub (.t 40) (ki 1), none⟩, ⟨some 42, .mv (.t 0), none⟩, ⟨some 43, .mv (.t 9), none⟩, ⟨some 44, .bin .sub (.t 43) (ki 1), none⟩, ⟨some 45, .ia 2 (.t 42) (.t 44), none⟩, ⟨some 46, .ld true 2 (.t 45), none⟩, ⟨some 47, .mv (.t 0), none⟩, ⟨some 48, .mv (.t 9), none⟩, ⟨some 49, .ia 2 (.t 47) (.t 48), none⟩, ⟨some 50, .ld true 2 (.t 49), none⟩, ⟨some 51, .ia 2 (.t 37) (.t 38), none⟩, ⟨none, .st 2 (.t 51) (.t 46), none⟩, ⟨some 52, .ia 2 (.t 39) (.t 41), none⟩, ⟨none, .st 2 (.t 52) (.t 50), none⟩]))
 (.reg false [⟨some 35, .mv (.t 9), none⟩, ⟨some 36, .bin .sub (.t 35) (ki 1), none⟩, ⟨some 9, .mv (.t 36), none⟩])))))))
 (.reg false [⟨some 15, .mv (.t 8), none⟩, ⟨some 16, .bin .add (.t 15) (ki 1), none⟩, ⟨some 8, .mv (.t 16), none⟩]))))))
abbrev n_slices_insertionSortCmpFunc_api_Label : Nat := 156
theorem F_slices_insertionSortCmpFunc_api_Label : Fun Tryz.prog n_slices_insertionSortCmpFunc_api_Label 53 c_slices_insertionSortCmpFunc_api_Label [] := ⟨⟨Tryz.f156, _, Tryz.func156, by kernel_rfl, rfl, rfl, by kernel_rfl, by kernel_rfl⟩⟩
/-- (*strings.Builder).WriteString -/
def c_strings_Builder_WriteString : C :=
 (.seq (.reg false [⟨some 4, .mv (ki 0), none⟩, ⟨some 5, .mv (.k (.one (.c (.v (.nilIface))))), none⟩])
 (.seq (.reg false [⟨some 6, .mv (.t 0), none⟩, ⟨some 7, .call (kf 147) [(.t 6)], none⟩])
 (.seq (.reg false [⟨some 8, .mv (.t 0), none⟩, ⟨some 9, .mv (.t 0), none⟩, ⟨some 10, .nilck (.t 9), none⟩, ⟨some 11, .fa 1 (.t 10), none⟩, ⟨some 12, .ld false 1 (.t 11), none⟩, ⟨some 13, .mv (.t 1), none⟩, ⟨some 14, .aps 5 (.t 12) (.t 13), none⟩, ⟨some 15, .nilck (.t 8), none⟩, ⟨some 16, .fa 1 (.t 15), none⟩, ⟨none, .st 1 (.t 16) (.t 14), none⟩])
 (.seq (.reg false [⟨some 17, .mv (.t 1), none⟩, ⟨some 18, .lens (.t 17), none⟩, ⟨some 4, .mv (.t 18), none⟩, ⟨some 5, .mv (.k (.one (.c (.v (.nilIface))))), none⟩])
 .ret))))
abbrev n_strings_Builder_WriteString : Nat := 124
theorem F_strings_Builder_WriteString : Fun Tryz.prog n_strings_Builder_WriteString 19 c_strings_Builder_WriteString [.t 4, .t 5] := ⟨⟨Tryz.f124, _, Tryz.func124, by kernel_rfl, rfl, rfl, by kernel_rfl, by kernel_rfl⟩⟩
/-- (*strings.Builder).WriteByte -/
def c_strings_Builder_WriteByte : C :=
 (.seq (.reg false [⟨some 4, .mv (.k (.one (.c (.v (.nilIface))))), none⟩])
 (.seq (.reg false [⟨some 5, .mv (.t 0), none⟩, ⟨some 6, .call (kf 147) [(.t 5)], none⟩])
 (.seq (.reg false [⟨some 7, .mv (.t 0), none⟩, ⟨some 8, .mv (.t 0), none⟩, ⟨some 9, .nilck (.t 8), none⟩, ⟨some 10, .fa 1 (.t 9), none⟩, ⟨some 11, .ld false 1 (.t 10), none⟩, ⟨some 12, .mv (.t 1), none⟩, ⟨some 13, .bsl 5 1 1 [.int .u8 0] [(0, (.t 12))], none⟩, ⟨some 14, .app 5 1 1 [.int .u8 0] (.t 11) (.t 13), none⟩, ⟨some 15, .nilck (.t 7), none⟩, ⟨some 16, .fa 1 (.t 15), none⟩, ⟨none, .st 1 (.t 16) (.t 14), none⟩])
 (.seq (.reg false [⟨some 4, .mv (.k (.one (.c (.v (.nilIface))))), none⟩])
 .ret))))
abbrev n_strings_Builder_WriteByte : Nat := 125
theorem F_strings_Builder_WriteByte : Fun Tryz.prog n_strings_Builder_WriteByte 17 c_strings_Builder_WriteByte [.t 4] := ⟨⟨Tryz.f125, _, Tryz.func125, by kernel_rfl, rfl, rfl, by kernel_rfl, by kernel_rfl⟩⟩
/-- (*strings.Builder).WriteRune -/
def c_strings_Builder_WriteRune : C :=
 (.seq (.reg false [⟨some 4, .mv (ki 0), none⟩, ⟨some 5, .mv (.k (.one (.c (.v (.nilIface))))), none⟩])
 (.seq (.reg false [⟨some 7, .mv (.t 0), none⟩, ⟨some 8, .call (kf 147) [(.t 7)], none⟩])
 (.seq (.reg false [⟨some 9, .mv (.t 0), none⟩, ⟨some 10, .nilck (.t 9), none⟩, ⟨some 11, .fa 1 (.t 10), none⟩, ⟨some 12, .ld false 1 (.t 11), none⟩, ⟨some 13, .len (.t 12), none⟩, ⟨some 6, .mv (.t 13), none⟩])
 (.seq (.reg false [⟨some 14, .mv (.t 0), none⟩, ⟨some 15, .mv (.t 0), none⟩, ⟨some 16, .nilck (.t 15), none⟩, ⟨some 17, .fa 1 (.t 16), none⟩, ⟨some 18, .ld false 1 (.t 17), none⟩, ⟨some 19, .mv (.t 1), none⟩, ⟨some 20, .call (kf 148) [(.t 18), (.t 19)], none⟩, ⟨some 21, .nilck (.t 14), none⟩, ⟨some 22, .fa 1 (.t 21), none⟩, ⟨none, .st 1 (.t 22) (.t 20), none⟩])
 (.seq (.reg false [⟨some 23, .mv (.t 0), none⟩, ⟨some 24, .nilck (.t 23), none⟩, ⟨some 25, .fa 1 (.t 24), none⟩, ⟨some 26, .ld false 1 (.t 25), none⟩, ⟨some 27, .len (.t 26), none⟩, ⟨some 28, .mv (.t 6), none⟩, ⟨some 29, .bin .sub (.t 27) (.t 28), none⟩, ⟨some 4, .mv (.t 29), none⟩, ⟨some 5, .mv (.k (.one (.c (.v (.nilIface))))), none⟩])
 .ret)))))
abbrev n_strings_Builder_WriteRune : Nat := 126
theorem F_strings_Builder_WriteRune : Fun Tryz.prog n_strings_Builder_WriteRune 30 c_strings_Builder_WriteRune [.t 4, .t 5] := ⟨⟨Tryz.f126, _, Tryz.func126, by kernel_rfl, rfl, rfl, by kernel_rfl, by kernel_rfl⟩⟩
/-- unicode/utf8.AppendRune -/
def c_utf8_AppendRune : C :=
 (.seq (.reg false [⟨some 4, .mv (.k (.one (.c (.v (.slice none 0 0))))), none⟩])
 (.seq (.seq (.reg false [⟨some 5, .mv (.t 1), none⟩, ⟨some 6, .cvi .u32 (.t 5), none⟩, ⟨some 7, .bin .leq (.t 6) (.k (.one (.c (.v (.int .u32 127))))), none⟩])
 (.cond (.t 7)
 (.seq (.reg false [⟨some 8, .mv (.t 0), none⟩, ⟨some 9, .mv (.t 1), none⟩, ⟨some 10, .cvi .u8 (.t 9), none⟩, ⟨some 11, .bsl 5 1 1 [.int .u8 0] [(0, (.t 10))], none⟩, ⟨some 12, .app 5 1 1 [.int .u8 0] (.t 8) (.t 11), none⟩, ⟨some 4, .mv (.t 12), none⟩])
 .ret)
 .skip))
 (.seq (.reg false [⟨some 13, .mv (.t 0), none⟩, ⟨some 14, .mv (.t 1), none⟩, ⟨some 15, .call (kf 168) [(.t 13), (.t 14)], none⟩, ⟨some 4, .mv (.t 15), none⟩])
 .ret)))
abbrev n_utf8_AppendRune : Nat := 148
theorem F_utf8_AppendRune : Fun Tryz.prog n_utf8_AppendRune 16 c_utf8_AppendRune [.t 4] := ⟨⟨Tryz.f148, _, Tryz.func148, by kernel_rfl, rfl, rfl, by kernel_rfl, by kernel_rfl⟩⟩
/-- cmp.Compare[int] -/
def c_cmp_Compare_int : C :=
 (.seq (.reg false [⟨some 4, .mv (ki 0), none⟩])
 (.seq (.reg false [⟨some 7, .mv (.t 0), none⟩, ⟨some 8, .call (kf 115) [(.t 7)], none⟩, ⟨some 5, .mv (.t 8), none⟩])
 (.seq (.reg false [⟨some 9, .mv (.t 1), none⟩, ⟨some 10, .call (kf 115) [(.t 9)], none⟩, ⟨some 6, .mv (.t 10), none⟩])
 (.seq (.seq (.reg false [⟨some 11, .mv (.t 5), none⟩])
 (.cond (.t 11)
 (.seq (.seq (.reg false [⟨some 12, .mv (.t 6), none⟩])
 (.cond (.t 12)
 (.seq (.reg false [⟨some 4, .mv (ki 0), none⟩])
 .ret)
 .skip))
 (.seq (.reg false [⟨some 4, .mv (ki (-1)), none⟩])
 .ret))
 .skip))
 (.seq (.seq (.reg false [⟨some 13, .mv (.t 6), none⟩])
 (.cond (.t 13)
 (.seq (.reg false [⟨some 4, .mv (ki 1), none⟩])
 .ret)
 .skip))
 (.seq (.seq (.reg false [⟨some 14, .mv (.t 0), none⟩, ⟨some 15, .mv (.t 1), none⟩, ⟨some 16, .bin .lss (.t 14) (.t 15), none⟩])
 (.cond (.t 16)
 (.seq (.reg false [⟨some 4, .mv (ki (-1)), none⟩])
 .ret)
 .skip))
 (.seq (.seq (.reg false [⟨some 17, .mv (.t 0), none⟩, ⟨some 18, .mv (.t 1), none⟩, ⟨some 19, .bin .gtr (.t 17) (.t 18), none⟩])
 (.cond (.t 19)
 (.seq (.reg false [⟨some 4, .mv (ki 1), none⟩])
 .ret)
 .skip))
 (.seq (.reg false [⟨some 4, .mv (ki 0), none⟩])
 .ret))))))))
abbrev n_cmp_Compare_int : Nat := 93
theorem F_cmp_Compare_int : Fun Tryz.prog n_cmp_Compare_int 20 c_cmp_Compare_int [.t 4] := ⟨⟨Tryz.f93, _, Tryz.func93, by kernel_rfl, rfl, rfl, by kernel_rfl, by kernel_rfl⟩⟩
/-- cmp.isNaN[int] -/
def c_cmp_isNaN_int : C :=
 (.seq (.reg false [⟨some 2, .mv (kb false), none⟩])
 (.seq (.reg false [⟨some 3, .mv (.t 0), none⟩, ⟨some 4, .mv (.t 0), none⟩, ⟨some 5, .bin .neq (.t 3) (.t 4), none⟩, ⟨some 2, .mv (.t 5), none⟩])
 .ret))
abbrev n_cmp_isNaN_int : Nat := 115
theorem F_cmp_isNaN_int : Fun Tryz.prog n_cmp_isNaN_int 6 c_cmp_isNaN_int [.t 2] := ⟨⟨Tryz.f115, _, Tryz.func115, by kernel_rfl, rfl, rfl, by kernel_rfl, by kernel_rfl⟩⟩
end Go.Proofs.YtcmkhlfjcdchmaaGreat.A
end
section
namespace Go.Proofs.YtcmkhlfjcdchmaaGreatAbs
open Go Go.RowKit
def isC (sz : Nat) : C :=
 (.seq (.reg false [⟨some 10, .mv (.t 1), none⟩, ⟨some 11, .bin .add (.t 10) (ki 1), none⟩, ⟨some 8, .mv (.t 11), none⟩])
 (.block 0 (.loop (.seq (.seq (.reg false [⟨some 12, .mv (.t 8), none⟩, ⟨some 13, .mv (.t 2), none⟩, ⟨some 14, .bin .lss (.t 12) (.t 13), none⟩])
 (.cond (.t 14)
 .skip
 (.exit 0)))
 (.seq (.block 1 (.seq (.reg false [⟨some 17, .mv (.t 8), none⟩, ⟨some 9, .mv (.t 17), none⟩])
 (.block 2 (.loop (.seq (.seq (.reg true [⟨some 18, .mv (.t 9), none⟩, ⟨some 19, .mv (.t 1), none⟩, ⟨some 20, .bin .gtr (.t 18) (.t 19), none⟩, ⟨some 21, .mv (.t 20), none⟩, ⟨some 22, .mv (.t 3), some (21, true)⟩, ⟨some 23, .mv (.t 0), some (21, true)⟩, ⟨some 24, .mv (.t 9), some (21, true)⟩, ⟨some 25, .ia sz (.t 23) (.t 24), some (21, true)⟩, ⟨some 26, .ld true sz (.t 25), some (21, true)⟩, ⟨some 27, .mv (.t 0), some (21, true)⟩, ⟨some 28, .mv (.t 9), some (21, true)⟩, ⟨some 29, .bin .sub (.t 28) (ki 1), some (21, true)⟩, ⟨some 30, .ia sz (.t 27) (.t 29), some (21, true)⟩, ⟨some 31, .ld true sz (.t 30), some (21, true)⟩, ⟨some 32, .call (.t 22) [(.t 26), (.t 31)], some (21, true)⟩, ⟨some 33, .bin .lss (.t 32) (ki 0), some (21, true)⟩, ⟨some 34, .pick (.t 21) (.t 33) (kb false), none⟩])
 (.cond (.t 34)
 .skip
 (.exit 2)))
 (.seq (.block 3 (.reg true [⟨some 37, .mv (.t 0), none⟩, ⟨some 38, .mv (.t 9), none⟩, ⟨some 39, .mv (.t 0), none⟩, ⟨some 40, .mv (.t 9), none⟩, ⟨some 41, .bin .sub (.t 40) (ki 1), none⟩, ⟨some 42, .mv (.t 0), none⟩, ⟨some 43, .mv (.t 9), none⟩, ⟨some 44, .bin .sub (.t 43) (ki 1), none⟩, ⟨some 45, .ia sz (.t 42) (.t 44), none⟩, ⟨some 46, .ld true sz (.t 45), none⟩, ⟨some 47, .mv (.t 0), none⟩, ⟨some 48, .mv (.t 9), none⟩, ⟨some 49, .ia sz (.t 47) (.t 48), none⟩, ⟨some 50, .ld true sz (.t 49), none⟩, ⟨some 51, .ia sz (.t 37) (.t 38), none⟩, ⟨none, .st sz (.t 51) (.t 46), none⟩, ⟨some 52, .ia sz (.t 39) (.t 41), none⟩, ⟨none, .st sz (.t 52) (.t 50), none⟩]))
 (.reg false [⟨some 35, .mv (.t 9), none⟩, ⟨some 36, .bin .sub (.t 35) (ki 1), none⟩, ⟨some 9, .mv (.t 36), none⟩])))))))
 (.reg false [⟨some 15, .mv (.t 8), none⟩, ⟨some 16, .bin .add (.t 15) (ki 1), none⟩, ⟨some 8, .mv (.t 16), none⟩]))))))
/-- An element goes down to its place. -/
def sink {α : Type} (lt : α → α → Bool) (d : α) (l : List α) : Nat → List α
  | 0 => l
  | j + 1 => if lt (l.getD (j + 1) d) (l.getD j d) then sink lt d ((l.set (j + 1) (l.getD j d)).set j (l.getD (j + 1) d)) j else l
def sortTo {α : Type} (lt : α → α → Bool) (d : α) (l : List α) : Nat → List α
  | 0 => l
  | i + 1 => sink lt d (sortTo lt d l i) i
theorem sink_length {α : Type} {lt : α → α → Bool} {d : α} : ∀ {j : Nat} {l : List α}, (sink lt d l j).length = l.length
  | 0, l => rfl
  | j + 1, l => by
    rw [sink]
    split
    · rw [sink_length]; simp
    · rfl
theorem sortTo_length {α : Type} {lt : α → α → Bool} {d : α} {l : List α} : ∀ {i : Nat}, (sortTo lt d l i).length = l.length
  | 0 => rfl
  | i + 1 => by rw [sortTo, sink_length, sortTo_length]
theorem sink_mem {α : Type} {lt : α → α → Bool} {d : α} {p : α → Prop} : ∀ {j : Nat} {l : List α}, j < l.length → (∀ x ∈ l, p x) → ∀ x ∈ sink lt d l j, p x
  | 0, l, _, h => h
  | j + 1, l, hj, h => by
    rw [sink]
    split
    · refine sink_mem (by simp; omega) (fun x hx => ?_)
      have g : ∀ i, i < l.length → p (l.getD i d) := fun i hi => h _ (by rw [List.getD_eq_getElem?_getD, List.getElem?_eq_getElem hi]; exact List.getElem_mem hi)
      rcases List.mem_or_eq_of_mem_set hx with hx | rfl
      · rcases List.mem_or_eq_of_mem_set hx with hx | rfl
        · exact h x hx
        · exact g j (by omega)
      · exact g (j + 1) hj
    · exact h
theorem sortTo_mem {α : Type} {lt : α → α → Bool} {d : α} {p : α → Prop} {l : List α} (h : ∀ x ∈ l, p x) : ∀ {i : Nat}, i ≤ l.length → ∀ x ∈ sortTo lt d l i, p x
  | 0, _ => h
  | i + 1, hi => by rw [sortTo]; exact sink_mem (by rw [sortTo_length]; omega) (sortTo_mem h (by omega))
theorem sink_map {α β : Type} {lt : α → α → Bool} {lt' : β → β → Bool} {d : α} {d' : β} {f : α → β} (hlt : ∀ x y, lt' (f x) (f y) = lt x y) : ∀ {j : Nat} {l : List α}, j < l.length → sink lt' d' (l.map f) j = (sink lt d l j).map f
  | 0, l, _ => rfl
  | j + 1, l, hj => by
    have g : ∀ i, i < l.length → (l.map f).getD i d' = f (l.getD i d) := fun i hi => by simp [List.getD_eq_getElem?_getD, hi]
    rw [sink, sink, g _ hj, g j (by omega), hlt]
    split
    · rw [← sink_map hlt (by simp; omega)]
      congr 1
      rw [List.map_set, List.map_set]
    · rfl
theorem sortTo_map {α β : Type} {lt : α → α → Bool} {lt' : β → β → Bool} {d : α} {d' : β} {f : α → β} (hlt : ∀ x y, lt' (f x) (f y) = lt x y) {l : List α} : ∀ {i : Nat}, i ≤ l.length → sortTo lt' d' (l.map f) i = (sortTo lt d l i).map f
  | 0, _ => rfl
  | i + 1, hi => by
    rw [sortTo, sortTo, sortTo_map hlt (by omega)]
    exact sink_map hlt (by rw [sortTo_length]; omega)
variable {P : Program} {f sz : Nat}
theorem fillL_all {l x : List AV} (h : l.length = x.length) : fillL l 0 x = x := by
  refine List.ext_getElem? (fun j => ?_)
  rw [fillL_get _ _ _ _ (by omega)]
  split
  · rw [Nat.sub_zero]
  · rw [List.getElem?_eq_none (by omega), List.getElem?_eq_none (by omega)]
set_option maxRecDepth 20000 in
theorem isort_rc (hF : Fun P f 53 (isC sz) []) (hsz : 0 < sz) {M : List Blk} {b t ver : Nat} {l : List (List AV)} {fb : Bool} (hb : M[b]? = some (.rows t sz ver l fb)) (hn : l.length ≤ 1000) (h0 : 0 < l.length) (hrow : ∀ r ∈ l, r.length = sz ∧ ∀ a ∈ r, ltA 0 a) (hMB : ∀ x ∈ M, ltB M.length x)
    (fn k : Nat) (caps : Nat → AV) (cmp : List AV → List AV → Int) (hcaps : ∀ i, i < k → ltA 0 (caps i))
    (h : ∀ x ∈ l, ∀ y ∈ l, ∀ M, CallR P M fn ([.agg x, .agg y] ++ capsL caps 0 k) (.i (cmp x y)) M) :
    CallR P M f [.one (.arr sz b ver 0 l.length), .i 0, .i l.length, .one (.fn fn k caps)] (.tup []) (M.set b (.rows t sz ver (sortTo (fun x y => decide (cmp x y < 0)) [] l l.length) fb)) := by
  have hbl : b < M.length := getElem?_lt hb
  refine callR_intro hF (by simp) ?_
  refine V_sound ?_
  simp only [isC, go_sem]
  have hlow : ∀ {n : Nat} {a : AV}, ltA 0 a → ltA n a := by
    intro n a
    induction a with
    | c x => exact fun h => h
    | ptr b v i j => intro h; exact absurd h (Nat.not_lt_zero _)
    | arr sz b v i j => intro h; exact absurd h (Nat.not_lt_zero _)
    | ip m c => exact fun h => h
    | fn f k caps ih => exact fun h i hi => ih i (h i hi)
  have hMB' : ∀ l' : List (List AV), (∀ r ∈ l', r.length = sz ∧ ∀ a ∈ r, ltA 0 a) → ∀ x ∈ M.set b (.rows t sz ver l' fb), ltB (M.set b (.rows t sz ver l' fb)).length x := by
    intro l' hl' x hx
    rw [List.length_set]
    rcases List.mem_or_eq_of_mem_set hx with hx | rfl
    · exact hMB x hx
    · exact fun r hr a ha => hlow ((hl' r hr).2 a ha)
  have hget : ∀ x, (M.set b x)[b]? = some x := fun x => by rw [List.getElem?_set, if_pos rfl, if_pos hbl]
  refine V_loop (ι := Nat) (J := fun i => 1 ≤ i ∧ i ≤ l.length) (env := fun i => [(0, .p (.one (.arr sz b ver 0 l.length))), (1, .i 0), (2, .i l.length), (3, .p (.one (.fn fn k caps))), (8, .i i)])
    (mem := fun i => M.set b (.rows t sz ver (sortTo (fun x y => decide (cmp x y < 0)) [] l i) fb)) (μ := fun i => l.length - i) 1 ⟨Nat.le_refl _, h0⟩ ?_ ?_
  · refine ⟨[], ?_, by simp, ?_, hMB' _ (sortTo_mem hrow (by omega))⟩
    · simp only [List.append_nil, sortTo, sink]
      exact (set_self hb).symm
    · simp only [go_sem, List.length_set]
      exact ⟨hbl, fun i hi => hlow (hcaps i hi), by decide⟩
  rintro i ⟨hi1, hi2⟩
  simp only [go_sem]
  refine ⟨fun h1 => ?_, fun h1 => ?_⟩
  · refine V_loop (ι := Nat × List (List AV)) (J := fun p => p.1 ≤ i ∧ p.2.length = l.length ∧ (∀ r ∈ p.2, r ∈ l) ∧ sink (fun x y => decide (cmp x y < 0)) [] p.2 p.1 = sortTo (fun x y => decide (cmp x y < 0)) [] l (i + 1)) (env := fun p => [(0, .p (.one (.arr sz b ver 0 l.length))), (1, .i 0), (2, .i l.length), (3, .p (.one (.fn fn k caps))), (8, .i i), (9, .i p.1)])
      (mem := fun p => M.set b (.rows t sz ver p.2 fb)) (μ := fun p => p.1) (i, sortTo (fun x y => decide (cmp x y < 0)) [] l i) ⟨Nat.le_refl _, sortTo_length, sortTo_mem (fun x hx => hx) (by omega), rfl⟩ ?_ ?_
    · refine ⟨[], by simp, by simp, ?_, hMB' _ (sortTo_mem hrow (by omega))⟩
      simp only [go_sem, List.length_set]
      exact ⟨hbl, fun i hi => hlow (hcaps i hi)⟩
    rintro ⟨j, cur⟩ ⟨hj, hlen, hmem, hs⟩
    simp only at hj hlen hmem hs
    have hg : ∀ j, j < cur.length → (cur.getD j []) ∈ l := fun j h => hmem _ (by rw [List.getD_eq_getElem?_getD, List.getElem?_eq_getElem h]; exact List.getElem_mem h)
    have htk : ∀ j, j < cur.length → List.take sz (cur.getD j []) = cur.getD j [] := fun j h => List.take_of_length_le (Nat.le_of_eq (hrow _ (hg j h)).1)
    have hle : ∀ j, j < cur.length → sz ≤ (cur.getD j []).length := fun j h => Nat.le_of_eq (hrow _ (hg j h)).1.symm
    rcases j with _ | j
    · simp only [go_sem, hget]
      refine callg0 (r := .i 0) (fun h => Bool.noConfusion h) ?_
      have hs' : cur = sortTo (fun x y => decide (cmp x y < 0)) [] l (i + 1) := hs
      simp only [go_sem]
      refine ⟨fun h => absurd h (by decide), fun _ => ⟨i + 1, ⟨by omega, by omega⟩, by omega, [], by rw [hs', List.append_nil], by rw [List.length_set]; exact Nat.le_refl _, ?_, hMB' _ (sortTo_mem hrow (by omega))⟩⟩
      simp only [go_sem, List.length_set]
      exact ⟨hbl, fun i hi => hlow (hcaps i hi), w64s (by omega)⟩
    · have e1 : IntKind.i64.wrap (((j + 1 : Nat) : Int) - 1) = (j : Int) := by rw [w64p (by omega) (by omega)]; rfl
      have e2 : (0 : Int) < ((j + 1 : Nat) : Int) := by omega
      simp only [go_sem, hget, e1, e2, Int.toNat_natCast]
      refine ⟨⟨by omega, by omega, hsz⟩, ⟨by omega, hle _ (by omega)⟩, ⟨by omega, by omega, hsz⟩, ⟨by omega, hle _ (by omega)⟩, ?_⟩
      rw [htk _ (by omega), htk _ (by omega)]
      refine callg0 (r := .i (cmp (cur.getD (j + 1) []) (cur.getD j []))) (fun _ => h _ (hg _ (by omega)) _ (hg _ (by omega))) ?_
      simp only [go_sem, hget, e1, e2, Int.toNat_natCast, List.set_set]
      rw [htk _ (by omega), htk _ (by omega)]
      have hf : ∀ a b, a < cur.length → b < cur.length → fillL (cur.getD a []) 0 (cur.getD b []) = cur.getD b [] := fun a b h1 h2 => fillL_all ((hrow _ (hg a h1)).1.trans (hrow _ (hg b h2)).1.symm)
      have hne : (cur.set (j + 1) (cur.getD j [])).getD j [] = cur.getD j [] := by
        rw [List.getD_eq_getElem?_getD, List.getD_eq_getElem?_getD, List.getElem?_set, if_neg (by omega)]
      rw [hf _ _ (by omega) (by omega), hne, hf _ _ (by omega) (by omega)]
      refine ⟨fun hc => ⟨⟨by omega, by omega, hsz⟩, ⟨by omega, hle _ (by omega)⟩, ⟨by omega, by omega, hsz⟩, ⟨by omega, hle _ (by omega)⟩, ⟨by omega, by omega, hsz⟩, ⟨by omega, hle _ (by omega), (hrow _ (hg _ (by omega))).1⟩, ⟨by omega, by omega, hsz⟩, ⟨by rw [List.length_set]; omega, hle _ (by omega), (hrow _ (hg _ (by omega))).1⟩, ?_⟩, fun hc => ?_⟩
      · have hs' : sink (fun x y => decide (cmp x y < 0)) [] ((cur.set (j + 1) (cur.getD j [])).set j (cur.getD (j + 1) [])) j = sortTo (fun x y => decide (cmp x y < 0)) [] l (i + 1) := by
          rw [← hs, sink, if_pos (decide_eq_true hc)]
        have hm' : ∀ r ∈ (cur.set (j + 1) (cur.getD j [])).set j (cur.getD (j + 1) []), r ∈ l := by
          intro r hr
          rcases List.mem_or_eq_of_mem_set hr with hr | rfl
          · rcases List.mem_or_eq_of_mem_set hr with hr | rfl
            · exact hmem r hr
            · exact hg _ (by omega)
          · exact hg _ (by omega)
        refine ⟨(j, _), ⟨by simp only []; omega, by simp [hlen], hm', hs'⟩, by simp only []; omega, [], by rw [List.append_nil], by rw [List.length_set]; exact Nat.le_refl _, ?_, hMB' _ (fun r hr => hrow r (hm' r hr))⟩
        simp only [go_sem, List.length_set]
        exact ⟨hbl, fun i hi => hlow (hcaps i hi)⟩
      · have hs' : cur = sortTo (fun x y => decide (cmp x y < 0)) [] l (i + 1) := by
          rw [← hs, sink, if_neg (by simp only [decide_eq_true_eq]; exact hc)]
        refine ⟨i + 1, ⟨by omega, by omega⟩, by omega, [], by rw [← hs', List.append_nil], by rw [List.length_set]; exact Nat.le_refl _, ?_, hMB' _ (sortTo_mem hrow (by omega))⟩
        simp only [go_sem, List.length_set]
        exact ⟨hbl, fun i hi => hlow (hcaps i hi), w64s (by omega)⟩
  · have e : i = l.length := by omega
    subst e
    refine fin_own (.inl rfl) (Gh.refl _) [] (qs := []) (cnd := True) ?_ trivial ?_ ?_ ?_ ?_ ?_
    · rfl
    · simp only [List.append_nil]
    · show leS (SV.tup []) (SV.tup []); rw [leS_self]; trivial
    · rw [List.length_set]; exact Nat.le_refl _
    · simp only [go_sem]
    · exact hMB' _ (sortTo_mem hrow (Nat.le_refl _))
end Go.Proofs.YtcmkhlfjcdchmaaGreatAbs
end
section
namespace Go.Proofs.YtcmkhlfjcdchmaaGreatAbs
open Go Go.RowKit
def eqC (sz : Nat) (ks : List Nat) : C :=
 (.seq (.reg false [⟨some 4, .mv (kb false), none⟩])
 (.seq (.seq (.reg false [⟨some 6, .mv (.t 0), none⟩, ⟨some 7, .len (.t 6), none⟩, ⟨some 8, .mv (.t 1), none⟩, ⟨some 9, .len (.t 8), none⟩, ⟨some 10, .bin .neq (.t 7) (.t 9), none⟩])
 (.cond (.t 10)
 (.seq (.reg false [⟨some 4, .mv (kb false), none⟩])
 .ret)
 .skip))
 (.seq (.seq (.reg false [⟨some 11, .mv (.t 0), none⟩, ⟨some 12, .len (.t 11), none⟩, ⟨some 13, .mv (ki 0), none⟩])
 (.block 0 (.loop (.seq (.reg false [⟨some 14, .bin .lss (.t 13) (.t 12), none⟩])
 (.seq (.cond (.t 14)
 .skip
 (.exit 0))
 (.seq (.block 1 (.seq (.reg false [⟨some 15, .mv (.t 13), none⟩, ⟨some 5, .mv (.t 15), none⟩])
 (.seq (.reg true [⟨some 16, .mv (.t 0), none⟩, ⟨some 17, .mv (.t 5), none⟩, ⟨some 18, .ia sz (.t 16) (.t 17), none⟩, ⟨some 19, .ld true sz (.t 18), none⟩, ⟨some 20, .mv (.t 1), none⟩, ⟨some 21, .mv (.t 5), none⟩, ⟨some 22, .ia sz (.t 20) (.t 21), none⟩, ⟨some 23, .ld true sz (.t 22), none⟩, ⟨some 24, .eqa ks true (.t 19) (.t 23), none⟩])
 (.cond (.t 24)
 (.seq (.reg false [⟨some 4, .mv (kb false), none⟩])
 .ret)
 .skip))))
 (.reg false [⟨some 25, .bin .add (.t 13) (ki 1), none⟩, ⟨some 13, .mv (.t 25), none⟩])))))))
 (.seq (.reg false [⟨some 4, .mv (kb true), none⟩])
 .ret))))
def rsameC (sz : Nat) (ks : List Nat) : C :=
 (.seq (.reg false [⟨some 4, .mv (kb false), none⟩])
 (.seq (.seq (.reg false [⟨some 6, .mv (.t 0), none⟩, ⟨some 7, .len (.t 6), none⟩, ⟨some 8, .mv (.t 1), none⟩, ⟨some 9, .len (.t 8), none⟩, ⟨some 10, .bin .neq (.t 7) (.t 9), none⟩])
 (.cond (.t 10)
 (.seq (.reg false [⟨some 4, .mv (kb false), none⟩])
 .ret)
 .skip))
 (.seq (.seq (.reg false [⟨some 5, .mv (ki 0), none⟩])
 (.block 0 (.loop (.seq (.seq (.reg false [⟨some 11, .mv (.t 5), none⟩, ⟨some 12, .mv (.t 0), none⟩, ⟨some 13, .len (.t 12), none⟩, ⟨some 14, .bin .lss (.t 11) (.t 13), none⟩])
 (.cond (.t 14)
 .skip
 (.exit 0)))
 (.seq (.block 1 (.seq (.reg true [⟨some 17, .mv (.t 0), none⟩, ⟨some 18, .mv (.t 5), none⟩, ⟨some 19, .ia sz (.t 17) (.t 18), none⟩, ⟨some 20, .ld true sz (.t 19), none⟩, ⟨some 21, .mv (.t 1), none⟩, ⟨some 22, .mv (.t 5), none⟩, ⟨some 23, .ia sz (.t 21) (.t 22), none⟩, ⟨some 24, .ld true sz (.t 23), none⟩, ⟨some 25, .eqa ks true (.t 20) (.t 24), none⟩])
 (.cond (.t 25)
 (.seq (.reg false [⟨some 4, .mv (kb false), none⟩])
 .ret)
 .skip)))
 (.reg false [⟨some 15, .mv (.t 5), none⟩, ⟨some 16, .bin .add (.t 15) (ki 1), none⟩, ⟨some 5, .mv (.t 16), none⟩]))))))
 (.seq (.reg false [⟨some 4, .mv (kb true), none⟩])
 .ret))))
def eqfC (t sz : Nat) (z : List Value) : C :=
 (.seq (.reg false [⟨some 6, .mv (kb false), none⟩])
 (.seq (.seq (.reg false [⟨some 10, .mv (.t 0), none⟩, ⟨some 11, .len (.t 10), none⟩, ⟨some 12, .mv (.t 1), none⟩, ⟨some 13, .len (.t 12), none⟩, ⟨some 14, .bin .neq (.t 11) (.t 13), none⟩])
 (.cond (.t 14)
 (.seq (.reg false [⟨some 6, .mv (kb false), none⟩])
 .ret)
 .skip))
 (.seq (.seq (.reg false [⟨some 15, .mv (.t 0), none⟩, ⟨some 16, .len (.t 15), none⟩, ⟨some 17, .mv (ki 0), none⟩])
 (.block 0 (.loop (.seq (.reg false [⟨some 18, .bin .lss (.t 17) (.t 16), none⟩])
 (.seq (.cond (.t 18)
 .skip
 (.exit 0))
 (.seq (.block 1 (.seq (.reg false [⟨some 19, .mv (.t 17), none⟩, ⟨some 20, .ia sz (.t 15) (.t 17), none⟩, ⟨some 21, .ld true sz (.t 20), none⟩, ⟨some 8, .alloc t sz z, none⟩, ⟨some 7, .mv (.t 19), none⟩, ⟨none, .st sz (.t 8) (.t 21), none⟩])
 (.seq (.reg false [⟨some 22, .mv (.t 1), none⟩, ⟨some 23, .mv (.t 7), none⟩, ⟨some 24, .ia sz (.t 22) (.t 23), none⟩, ⟨some 25, .ld true sz (.t 24), none⟩, ⟨some 9, .alloc t sz z, none⟩, ⟨none, .st sz (.t 9) (.t 25), none⟩])
 (.seq (.reg false [⟨some 26, .mv (.t 2), none⟩, ⟨some 27, .ld true sz (.t 8), none⟩, ⟨some 28, .ld true sz (.t 9), none⟩, ⟨some 29, .call (.t 26) [(.t 27), (.t 28)], none⟩, ⟨some 30, .un .not (.t 29), none⟩])
 (.cond (.t 30)
 (.seq (.reg false [⟨some 6, .mv (kb false), none⟩])
 .ret)
 .skip)))))
 (.reg false [⟨some 31, .bin .add (.t 17) (ki 1), none⟩, ⟨some 17, .mv (.t 31), none⟩])))))))
 (.seq (.reg false [⟨some 6, .mv (kb true), none⟩])
 .ret))))
def idxC (sz : Nat) : C :=
 (.seq (.reg false [⟨some 4, .mv (ki 0), none⟩])
 (.seq (.seq (.reg false [⟨some 6, .mv (.t 0), none⟩, ⟨some 7, .len (.t 6), none⟩, ⟨some 8, .mv (ki 0), none⟩])
 (.block 0 (.loop (.seq (.reg false [⟨some 9, .bin .lss (.t 8) (.t 7), none⟩])
 (.seq (.cond (.t 9)
 .skip
 (.exit 0))
 (.seq (.block 1 (.seq (.reg false [⟨some 10, .mv (.t 8), none⟩, ⟨some 5, .mv (.t 10), none⟩])
 (.seq (.reg false [⟨some 11, .mv (.t 1), none⟩, ⟨some 12, .mv (.t 0), none⟩, ⟨some 13, .mv (.t 5), none⟩, ⟨some 14, .ia sz (.t 12) (.t 13), none⟩, ⟨some 15, .ld true sz (.t 14), none⟩, ⟨some 16, .call (.t 11) [(.t 15)], none⟩])
 (.cond (.t 16)
 (.seq (.reg false [⟨some 17, .mv (.t 5), none⟩, ⟨some 4, .mv (.t 17), none⟩])
 .ret)
 .skip))))
 (.reg false [⟨some 18, .bin .add (.t 8) (ki 1), none⟩, ⟨some 8, .mv (.t 18), none⟩])))))))
 (.seq (.reg false [⟨some 4, .mv (ki (-1)), none⟩])
 .ret)))
section
variable {α : Type} [Inhabited α]
/-- Two lists compared, element by element. -/
def eqL (eq : α → α → Bool) (l m : List α) : Bool := decide (l.length = m.length) && (List.range l.length).all fun i => eq (l.getD i default) (m.getD i default)
theorem eqL_f {eq : α → α → Bool} {l m : List α} {k : Nat} (hk : k < l.length) (h : eq (l.getD k default) (m.getD k default) = false) : eqL eq l m = false := by
  have : ((List.range l.length).all fun i => eq (l.getD i default) (m.getD i default)) = false := by
    rw [List.all_eq_false]
    exact ⟨k, List.mem_range.2 hk, by simp only [h]; decide⟩
  rw [eqL, this, Bool.and_false]
theorem eqL_t {eq : α → α → Bool} {l m : List α} (hl : l.length = m.length) (h : ∀ i, i < l.length → eq (l.getD i default) (m.getD i default) = true) : eqL eq l m = true := by
  have : ((List.range l.length).all fun i => eq (l.getD i default) (m.getD i default)) = true := by
    rw [List.all_eq_true]
    exact fun i hi => h i (List.mem_range.1 hi)
  rw [eqL, this, decide_eq_true hl]; rfl
theorem getD_ext {l m : List α} (hl : l.length = m.length) (h : ∀ i, i < l.length → l.getD i default = m.getD i default) : l = m := by
  refine List.ext_getElem hl (fun i h1 h2 => ?_)
  have := h i h1
  rwa [getD_get h1, getD_get h2] at this
theorem eqL_dec [DecidableEq α] (l m : List α) : eqL (fun x y => decide (x = y)) l m = decide (l = m) := by
  rw [Bool.eq_iff_iff]
  simp only [eqL, Bool.and_eq_true, decide_eq_true_eq, List.all_eq_true, List.mem_range]
  exact ⟨fun h => getD_ext h.1 h.2, fun h => by subst h; exact ⟨rfl, fun _ _ => rfl⟩⟩
variable {P : Program} {f t sz : Nat} {ks : List Nat} {z : List Value} {c : α → Nat → CV} {eq : α → α → Bool}
theorem eq_rc (hF : Fun P f 26 (eqC sz ks) [.t 4]) (heq : ∀ x y : α, eqCells ks (cellsUp (c x) 0 sz) (cellsUp (c y) 0 sz) = some (eq x y)) (l m : List α) (hl : l.length ≤ 140737488355328) (M : List Blk) :
    CallR P M f [immP sz c l, immP sz c m] (.b (eqL eq l m)) M := by
  refine callP hF (Nat.le_of_ble_eq_true rfl) (by simp only [go_sem]) (by simp only [go_sem]) ?_ M
  simp only [eqC, go_sem]
  refine ⟨fun hc => ?_, fun hc => ?_⟩
  · rw [eqL, decide_eq_false (by simpa using hc), Bool.false_and]
  have hlm : l.length = m.length := by
    have hh : (l.length : Int) = m.length := by simpa using hc
    omega
  refine V_loop (ι := Nat) (J := fun k => k ≤ l.length ∧ ∀ i, i < k → eq (l.getD i default) (m.getD i default) = true) (env := fun k => [(0, .p (immP sz c l)), (1, .p (immP sz c m)), (12, .i l.length), (13, .i k)]) (mem := fun _ => []) (μ := fun k => l.length - k) 0 ⟨Nat.zero_le _, fun j hj => by omega⟩ (into0 (by simp only [go_sem])) ?_
  rintro k ⟨hk, hok⟩
  simp only [go_sem, heq]
  refine ⟨fun h1 => ⟨by omega, by omega, fun hc => ?_, fun hc => ⟨k + 1, ⟨by omega, fun j hj => ?_⟩, by omega, into0 ?_⟩⟩, fun h1 => ?_⟩
  · rw [eqL_f h1 (by simpa using hc)]
  · by_cases e : j = k
    · subst e; simpa using hc
    · exact hok j (by omega)
  · simp only [go_sem, w64s (show k < 9223372036854775807 by omega)]
  · rw [eqL_t hlm (fun i hi => hok i (by omega))]
theorem rsame_rc (hF : Fun P f 26 (rsameC sz ks) [.t 4]) (heq : ∀ x y : α, eqCells ks (cellsUp (c x) 0 sz) (cellsUp (c y) 0 sz) = some (eq x y)) (l m : List α) (hl : l.length ≤ 140737488355328) (M : List Blk) :
    CallR P M f [immP sz c l, immP sz c m] (.b (eqL eq l m)) M := by
  refine callP hF (Nat.le_of_ble_eq_true rfl) (by simp only [go_sem]) (by simp only [go_sem]) ?_ M
  simp only [rsameC, go_sem]
  refine ⟨fun hc => ?_, fun hc => ?_⟩
  · rw [eqL, decide_eq_false (by simpa using hc), Bool.false_and]
  have hlm : l.length = m.length := by
    have hh : (l.length : Int) = m.length := by simpa using hc
    omega
  refine V_loop (ι := Nat) (J := fun k => k ≤ l.length ∧ ∀ i, i < k → eq (l.getD i default) (m.getD i default) = true) (env := fun k => [(0, .p (immP sz c l)), (1, .p (immP sz c m)), (5, .i k)]) (mem := fun _ => []) (μ := fun k => l.length - k) 0 ⟨Nat.zero_le _, fun j hj => by omega⟩ (into0 (by simp only [go_sem])) ?_
  rintro k ⟨hk, hok⟩
  simp only [go_sem, heq]
  refine ⟨fun h1 => ⟨by omega, by omega, fun hc => ?_, fun hc => ⟨k + 1, ⟨by omega, fun j hj => ?_⟩, by omega, into0 ?_⟩⟩, fun h1 => ?_⟩
  · rw [eqL_f h1 (by simpa using hc)]
  · by_cases e : j = k
    · subst e; simpa using hc
    · exact hok j (by omega)
  · simp only [go_sem, w64s (show k < 9223372036854775807 by omega)]
  · rw [eqL_t hlm (fun i hi => hok i (by omega))]
theorem fill_up (c : Nat → CV) (v : List AV) (n : Nat) (h : v.length = n) : fillL v 0 (cellsUp c 0 n) = cellsUp c 0 n := fillL_all (by rw [h, cellsUp_length])
/-- slices.EqualFunc, of elements and a function that compares two. -/
theorem eqf_rc (hF : Fun P f 32 (eqfC t sz z) [.t 6]) (hz : z.length = sz) (fn k : Nat) (caps : Nat → AV) (hcaps : ∀ i, i < k → ltA 0 (caps i)) (l m : List α) (hl : l.length ≤ 140737488355328)
    (h : ∀ i, i < l.length → l.length = m.length → ∀ M, CallR P M fn ([.agg (cellsUp (c (l.getD i default)) 0 sz), .agg (cellsUp (c (m.getD i default)) 0 sz)] ++ capsL caps 0 k) (.b (eq (l.getD i default) (m.getD i default))) M) (M : List Blk) :
    CallR P M f [immP sz c l, immP sz c m, .one (.fn fn k caps)] (.b (eqL eq l m)) M := by
  refine callP hF (Nat.le_of_ble_eq_true rfl) (by simp only [go_sem]; exact hcaps) (by simp only [go_sem]) ?_ M
  simp only [eqfC, go_sem]
  refine ⟨fun hc => ?_, fun hc => ?_⟩
  · rw [eqL, decide_eq_false (by simpa using hc), Bool.false_and]
  have hlm : l.length = m.length := by
    have hh : (l.length : Int) = m.length := by simpa using hc
    omega
  refine V_loop (ι := Nat) (J := fun k => k ≤ l.length ∧ ∀ i, i < k → eq (l.getD i default) (m.getD i default) = true) (env := fun i => [(0, .p (immP sz c l)), (1, .p (immP sz c m)), (2, .p (.one (.fn fn k caps))), (15, .p (immP sz c l)), (16, .i l.length), (17, .i i)]) (mem := fun _ => []) (μ := fun k => l.length - k) 0 ⟨Nat.zero_le _, fun j hj => by omega⟩ (into0 (by simp only [go_sem]; exact hcaps)) ?_
  rintro i ⟨hk, hok⟩
  have hf : ∀ x : α, fillL (zc z) 0 (cellsUp (c x) 0 sz) = cellsUp (c x) 0 sz := fun x => fill_up _ _ _ (by simp [zc, hz])
  have hf' : ∀ x : α, fillL (List.map (fun v => AV.c (CV.v v)) z) 0 (cellsUp (c x) 0 sz) = cellsUp (c x) 0 sz := hf
  have htk : ∀ x : α, (cellsUp (c x) 0 sz).take sz = cellsUp (c x) 0 sz := fun x => List.take_of_length_le (by rw [cellsUp_length]; exact Nat.le_refl _)
  simp only [go_sem, cellsUp_length, hf', htk, List.length_map, hz]
  refine ⟨fun h1 => ⟨by omega, by omega, ?_⟩, fun h1 => ?_⟩
  · refine call0 (h i h1 hlm) ?_
    simp only [go_sem]
    refine ⟨fun hc => ?_, fun hc => ⟨i + 1, ⟨by omega, fun j hj => ?_⟩, by omega, into0 ?_⟩⟩
    · rw [eqL_f h1 (by simpa using hc)]
    · by_cases e : j = i
      · subst e; simpa using hc
      · exact hok j (by omega)
    · simp only [go_sem, w64s (show i < 9223372036854775807 by omega)]
      exact hcaps
  · rw [eqL_t hlm (fun i hi => hok i (by omega))]
/-- slices.IndexFunc. -/
theorem idx_rc {p : α → Bool} (hF : Fun P f 19 (idxC sz) [.t 4]) (fn k : Nat) (caps : Nat → AV) (hcaps : ∀ i, i < k → ltA 0 (caps i)) (l : List α) (hl : l.length ≤ 140737488355328)
    (h : ∀ i, i < l.length → ∀ M, CallR P M fn ([.agg (cellsUp (c (l.getD i default)) 0 sz)] ++ capsL caps 0 k) (.b (p (l.getD i default))) M) (M : List Blk) :
    CallR P M f [immP sz c l, .one (.fn fn k caps)] (.i (if l.findIdx p < l.length then (l.findIdx p : Int) else -1)) M := by
  refine callP hF (Nat.le_of_ble_eq_true rfl) (by simp only [go_sem]; exact hcaps) (by simp only [go_sem]) ?_ M
  simp only [idxC, go_sem]
  refine V_loop (ι := Nat) (J := fun k => k ≤ l.length ∧ ∀ i, i < k → p (l.getD i default) = false) (env := fun i => [(0, .p (immP sz c l)), (1, .p (.one (.fn fn k caps))), (7, .i l.length), (8, .i i)]) (mem := fun _ => []) (μ := fun k => l.length - k) 0 ⟨Nat.zero_le _, fun i hi => absurd hi (Nat.not_lt_zero _)⟩ (into0 (by simp only [go_sem]; exact hcaps)) ?_
  rintro i ⟨hk, hne⟩
  simp only [go_sem]
  refine ⟨fun h1 => ⟨by omega, ?_⟩, fun h1 => ?_⟩
  · refine call0 (h i h1) ?_
    simp only [go_sem]
    refine ⟨fun hc => ?_, fun hc => ⟨i + 1, ⟨by omega, fun j hj => ?_⟩, by omega, into0 ?_⟩⟩
    · have : l.findIdx p = i := by
        rw [List.findIdx_eq h1]
        refine ⟨by rwa [getD_get h1] at hc, fun j hj => ?_⟩
        have := hne j hj
        rwa [getD_get (show j < l.length by omega)] at this
      rw [this, if_pos h1]
    · by_cases e : j = i
      · subst e; exact hc
      · exact hne j (by omega)
    · simp only [go_sem, w64s (show i < 9223372036854775807 by omega)]
      exact hcaps
  · rw [if_neg]
    have : l.findIdx p = l.length := by
      rw [List.findIdx_eq_length]
      intro y hy
      obtain ⟨j, hj, rfl⟩ := List.mem_iff_getElem.1 hy
      have := hne j (by omega)
      rwa [getD_get hj] at this
    omega
end
end Go.Proofs.YtcmkhlfjcdchmaaGreatAbs
end
section
namespace Go.Proofs.YtcmkhlfjcdchmaaGreatAbs
open Go Go.RowKit
def delC (t sz by_ : Nat) (z : List Value) : C :=
 (.seq (.reg false [⟨some 6, .mv (.k (.one (.c (.v (.slice none 0 0))))), none⟩])
 (.seq (.reg false [⟨some 8, .mv (.t 0), none⟩, ⟨some 9, .mv (.t 1), none⟩, ⟨some 10, .mv (.t 2), none⟩, ⟨some 11, .mv (.t 0), none⟩, ⟨some 12, .len (.t 11), none⟩, ⟨some 13, .s3 (.t 8) (some (.t 9)) (some (.t 10)) (some (.t 12)), none⟩])
 (.seq (.seq (.reg false [⟨some 14, .mv (.t 1), none⟩, ⟨some 15, .mv (.t 2), none⟩, ⟨some 16, .bin .eql (.t 14) (.t 15), none⟩])
 (.cond (.t 16)
 (.seq (.reg false [⟨some 17, .mv (.t 0), none⟩, ⟨some 6, .mv (.t 17), none⟩])
 .ret)
 .skip))
 (.seq (.reg false [⟨some 18, .mv (.t 0), none⟩, ⟨some 19, .len (.t 18), none⟩, ⟨some 7, .mv (.t 19), none⟩])
 (.seq (.reg true [⟨some 20, .mv (.t 0), none⟩, ⟨some 21, .mv (.t 1), none⟩, ⟨some 22, .slc sz (.t 20) none (some (.t 21)), none⟩, ⟨some 23, .mv (.t 0), none⟩, ⟨some 24, .mv (.t 2), none⟩, ⟨some 25, .slc sz (.t 23) (some (.t 24)) none, none⟩, ⟨some 26, .app t sz by_ z (.t 22) (.t 25), none⟩, ⟨some 0, .mv (.t 26), none⟩])
 (.seq (.reg false [⟨some 27, .mv (.t 0), none⟩, ⟨some 28, .mv (.t 0), none⟩, ⟨some 29, .len (.t 28), none⟩, ⟨some 30, .mv (.t 7), none⟩, ⟨some 31, .slc sz (.t 27) (some (.t 29)) (some (.t 30)), none⟩, ⟨none, .clr sz z (.t 31), none⟩])
 (.seq (.reg false [⟨some 32, .mv (.t 0), none⟩, ⟨some 6, .mv (.t 32), none⟩])
 .ret)))))))
def delfC (t sz : Nat) (z : List Value) (fi : Nat) : C :=
 (.seq (.reg false [⟨some 4, .mv (.k (.one (.c (.v (.slice none 0 0))))), none⟩])
 (.seq (.reg false [⟨some 8, .mv (.t 0), none⟩, ⟨some 9, .mv (.t 1), none⟩, ⟨some 10, .call (kf fi) [(.t 8), (.t 9)], none⟩, ⟨some 5, .mv (.t 10), none⟩])
 (.seq (.seq (.reg false [⟨some 11, .mv (.t 5), none⟩, ⟨some 12, .bin .eql (.t 11) (ki (-1)), none⟩])
 (.cond (.t 12)
 (.seq (.reg false [⟨some 13, .mv (.t 0), none⟩, ⟨some 4, .mv (.t 13), none⟩])
 .ret)
 .skip))
 (.seq (.seq (.reg false [⟨some 14, .mv (.t 5), none⟩, ⟨some 15, .bin .add (.t 14) (ki 1), none⟩, ⟨some 6, .mv (.t 15), none⟩])
 (.block 0 (.loop (.seq (.seq (.reg false [⟨some 16, .mv (.t 6), none⟩, ⟨some 17, .mv (.t 0), none⟩, ⟨some 18, .len (.t 17), none⟩, ⟨some 19, .bin .lss (.t 16) (.t 18), none⟩])
 (.cond (.t 19)
 .skip
 (.exit 0)))
 (.seq (.block 1 (.seq (.reg false [⟨some 22, .mv (.t 0), none⟩, ⟨some 23, .mv (.t 6), none⟩, ⟨some 24, .ia sz (.t 22) (.t 23), none⟩, ⟨some 25, .ld true sz (.t 24), none⟩, ⟨some 7, .alloc t sz z, none⟩, ⟨none, .st sz (.t 7) (.t 25), none⟩])
 (.seq (.reg false [⟨some 26, .mv (.t 1), none⟩, ⟨some 27, .ld true sz (.t 7), none⟩, ⟨some 28, .call (.t 26) [(.t 27)], none⟩, ⟨some 29, .un .not (.t 28), none⟩])
 (.cond (.t 29)
 (.seq (.reg false [⟨some 30, .mv (.t 0), none⟩, ⟨some 31, .mv (.t 5), none⟩, ⟨some 32, .ld true sz (.t 7), none⟩, ⟨some 33, .ia sz (.t 30) (.t 31), none⟩, ⟨none, .st sz (.t 33) (.t 32), none⟩])
 (.reg false [⟨some 34, .mv (.t 5), none⟩, ⟨some 35, .bin .add (.t 34) (ki 1), none⟩, ⟨some 5, .mv (.t 35), none⟩]))
 .skip))))
 (.reg false [⟨some 20, .mv (.t 6), none⟩, ⟨some 21, .bin .add (.t 20) (ki 1), none⟩, ⟨some 6, .mv (.t 21), none⟩]))))))
 (.seq (.reg false [⟨some 36, .mv (.t 0), none⟩, ⟨some 37, .mv (.t 5), none⟩, ⟨some 38, .slc sz (.t 36) (some (.t 37)) none, none⟩, ⟨none, .clr sz z (.t 38), none⟩])
 (.seq (.reg false [⟨some 39, .mv (.t 0), none⟩, ⟨some 40, .mv (.t 5), none⟩, ⟨some 41, .slc sz (.t 39) none (some (.t 40)), none⟩, ⟨some 4, .mv (.t 41), none⟩])
 .ret))))))
section
variable {P : Program} {f fi t sz by_ : Nat} {z : List Value}
theorem ltB_take {n t sz v : Nat} {l l' : List (List AV)} {f f' : Bool} (h : ltB n (.rows t sz v l f)) (hs : ∀ r ∈ l', r ∈ l) : ltB n (.rows t sz v l' f') := fun r hr => h r (hs r hr)
set_option maxRecDepth 20000 in
theorem del_rc (hF : Fun P f 33 (delC t sz by_ z) [.t 6]) {M : List Blk} {b v i j : Nat} {l : List (List AV)} {fb : Bool} (hb : M[b]? = some (.rows t sz v l fb)) (hij : i < j) (hj : j ≤ l.length) (hn : l.length < 140737488355328) (hMB : ∀ x ∈ M, ltB M.length x) :
    CallR P M f [.one (.arr sz b v 0 l.length), .i i, .i j] (.p (.one (.arr sz b v 0 (i + (l.length - j))))) (M.set b (.rows t sz v (l.take i ++ l.drop j) false)) := by
  have hbl : b < M.length := getElem?_lt hb
  refine callR_intro hF (by simp) (V_sound ?_)
  have h1 : ((i : Int) = (j : Int)) = False := by simp only [eq_iff_iff, iff_false]; omega
  have h2 : (i = l.length) = False := by simp only [eq_iff_iff, iff_false]; omega
  have hfin : ∀ (X : List (List AV)) (f' : Bool), X.take (i + (l.length - j)) = l.take i ++ l.drop j → ∀ e : Nat → SV, resL e [] [.t 6] = some ([.one (.arr sz b v 0 (i + (l.length - j)))], True) →
      FinK 33 M.length [RV.t 6] (.p (.one (.arr sz b v 0 (i + (l.length - j))))) (M.set b (.rows t sz v (l.take i ++ l.drop j) false)) .ret ⟨e, M.set b (.rows t sz v X f')⟩ := by
    intro X f' hX e he
    refine fin_own (.inr rfl) (gh_trunc (b := b) (i + (l.length - j)) (gb hbl)) [] (cnd := True) he trivial ?_ (leS_of rfl) ?_ ?_ ?_
    · simp only [List.append_nil, List.set_set, hX]
    · rw [List.length_set]; exact Nat.le_refl _
    · simp only [go_sem, List.length_set]; exact hbl
    · refine ltM_set hMB (ltB_take (hMB _ (List.mem_of_getElem? hb)) (fun r hr => ?_))
      rcases List.mem_append.1 hr with hr | hr
      · exact List.mem_of_mem_take hr
      · exact List.mem_of_mem_drop hr
  have hti : (l.take i).length = i := by rw [List.length_take]; omega
  by_cases hjl : j = l.length
  · subst hjl
    have h5 : (l.length = l.length ∧ ¬ (l.length : Int) = 0) = True := eq_true ⟨rfl, by omega⟩
    have h6 : ((i : Int) = (l.length : Int) ∧ ¬ (i : Int) = 0) = False := by simp only [eq_iff_iff, iff_false]; omega
    have hlen : (List.take i l ++ List.drop i l).length = l.length := by rw [List.take_append_drop]
    have h7 : ((l.length : Int) = 0) = False := by simp only [eq_iff_iff, iff_false]; omega
    simp only [delC, go_sem, hb, h1, h2, gb hbl, h5, h7, List.range_zero, if_true, if_false, h6, hlen, List.set_set, not_false_eq_true, and_self, true_and]
    have hx := hfin (List.take i (List.take i l ++ List.drop i l) ++ List.replicate (l.length - i) (List.map (fun v => AV.c (CV.v v)) z) ++ List.drop (i + (l.length - i)) (List.take i l ++ List.drop i l)) fb (by
      rw [Nat.sub_self, Nat.add_zero, List.drop_length, List.append_nil, List.take_append_drop, List.append_assoc, List.take_left' hti])
    simp only [Nat.sub_self, Nat.add_zero, List.drop_length, List.append_nil] at hx
    exact ⟨by omega, by omega, by omega, by omega, by omega, by omega, hx _ (by simp only [go_sem])⟩
  · have h5 : (j = l.length ∧ ¬ (j : Int) = 0) = False := by simp only [eq_iff_iff, iff_false]; omega
    have h6 : (((i + (l.length - j) : Nat) : Int) = (l.length : Int) ∧ ¬ ((i + (l.length - j) : Nat) : Int) = 0) = False := by simp only [eq_iff_iff, iff_false]; omega
    have h6' : (i + (l.length - j) = l.length) = False := by simp only [eq_iff_iff, iff_false]; omega
    simp only [delC, go_sem, hb, h1, h2, gb hbl, h5, if_true, if_false, h6, h6', List.set_set, false_and]
    have e1 : List.take (l.length - j) (List.drop j l) = List.drop j l := List.take_of_length_le (by rw [List.length_drop]; exact Nat.le_refl _)
    have hl2 : (List.take i l ++ List.drop j l).length = i + (l.length - j) := by rw [List.length_append, hti, List.length_drop]
    rw [e1]
    have hl3 : (List.take i l ++ List.drop j l ++ List.drop (i + (l.length - j)) l).length = l.length := by
      rw [List.length_append, hl2, List.length_drop]; omega
    refine ⟨by omega, by omega, by omega, by omega, by omega, by omega, hfin _ _ ?_ _ ?_⟩
    · rw [List.append_assoc, List.take_left']
      · rw [List.take_left' hl2]
      · rw [List.take_left' hl2]; exact hl2
    · simp only [go_sem]
variable {α : Type} [Inhabited α] {c : α → Nat → CV}
theorem filter_idx {p : α → Bool} {l : List α} (h : ¬ l.findIdx p < l.length) : l.filter (fun x => !p x) = l := by
  rw [List.filter_eq_self]
  intro x hx
  have : l.findIdx p = l.length := by have : l.findIdx p ≤ l.length := List.findIdx_le_length; omega
  rw [List.findIdx_eq_length] at this
  rw [this x hx]; rfl
theorem filter_at {p : α → Bool} {l : List α} (h : l.findIdx p < l.length) : (l.take (l.findIdx p + 1)).filter (fun x => !p x) = l.take (l.findIdx p) := by
  rw [take_succ_getD default h, List.filter_append]
  have h1 : p (l.getD (l.findIdx p) default) = true := by
    rw [getD_get h]
    exact List.findIdx_getElem (w := h)
  have h2 : (l.take (l.findIdx p)).filter (fun x => !p x) = l.take (l.findIdx p) := by
    rw [List.filter_eq_self]
    intro x hx
    obtain ⟨i, hi, rfl⟩ := List.mem_iff_getElem.1 hx
    rw [List.length_take] at hi
    rw [List.getElem_take]
    have := List.not_of_lt_findIdx (p := p) (xs := l) (i := i) (by omega)
    simpa using this
  rw [h2, List.filter_cons]
  simp only [h1, Bool.not_true, Bool.false_eq_true, if_false, List.filter_nil, List.append_nil]
set_option maxRecDepth 20000 in
/-- slices.DeleteFunc of rows of one's own. -/
theorem delf_rc {p : α → Bool} (hF : Fun P f 42 (delfC t sz z fi) [.t 4]) (hI : Fun P fi 19 (idxC sz) [.t 4]) (hz : z.length = sz) (hsz : 0 < sz) {M : List Blk} {b v : Nat} {fb : Bool} {l : List α} (hb : M[b]? = some (.rows t sz v (rowsL sz c l) fb)) (hl : l.length < 140737488355328) (hMB : ∀ x ∈ M, ltB M.length x)
    (fn k : Nat) (caps : Nat → AV) (hcaps : ∀ i, i < k → ltA 0 (caps i)) (h : ∀ i, i < l.length → ∀ M, CallR P M fn ([.agg (cellsUp (c (l.getD i default)) 0 sz)] ++ capsL caps 0 k) (.b (p (l.getD i default))) M) :
    CallR P M f [.one (.arr sz b v 0 l.length), .one (.fn fn k caps)] (.p (.one (.arr sz b v 0 (l.filter fun x => !p x).length))) (M.set b (.rows t sz v (rowsL sz c (l.filter fun x => !p x)) false)) := by
  have hbl : b < M.length := getElem?_lt hb
  have hcM : ∀ n i, i < k → ltA n (caps i) := fun n i hi => ltA_up1 (Nat.zero_le _) (hcaps i hi)
  have hfb : ∀ X : List α, ∀ x ∈ M.set b (.rows t sz v (rowsL sz c X) false), ltB (M.set b (.rows t sz v (rowsL sz c X) false)).length x := fun X => ltM_set hMB (rowsL_ltB _ _ _ _ _)
  refine callR_intro hF (by simp) ?_
  refine run_seqV ?_
  simp only [delfC, go_sem]
  refine run_seqV ?_
  simp only [go_sem]
  have hI2 : CallR P M fi [.one (.arr sz b v 0 l.length), .one (.fn fn k caps)] (.i (if l.findIdx p < l.length then (l.findIdx p : Int) else -1)) M :=
    callR_lend (idx_rc hI fn k caps hcaps l (by omega) h []) ⟨snapL l hb, Snap.same _ hcaps, trivial⟩ (by simp only [go_sem])
  refine call1 hI2 (by simp only [go_sem]) (fun h => Bool.noConfusion h) ?_
  simp only [go_sem]
  refine run_seqV ?_
  by_cases hat : l.findIdx p < l.length
  case neg =>
    rw [if_neg hat]
    have hd := filter_idx hat
    rw [hd]
    simp only [go_sem]
    refine fin_own (.inr rfl) (gh_trunc (b := b) l.length hb) [] (cnd := True) rfl trivial ?_ (leS_of rfl) ?_ ?_ ?_
    · have : (rowsL sz c l).take l.length = rowsL sz c l := List.take_of_length_le (by rw [rowsL_len]; exact Nat.le_refl _)
      simp only [this, List.append_nil]
    · rw [List.length_set]; exact Nat.le_refl _
    · simp only [go_sem, List.length_set]; exact hbl
    · exact hfb _
  rw [if_pos hat]
  simp only [go_sem]
  obtain ⟨q, hq⟩ : ∃ q, q = l.findIdx p := ⟨_, rfl⟩
  have hat1 := filter_at hat
  rw [← hq] at hat hat1 ⊢
  have e1 : IntKind.i64.wrap ((q : Int) + 1) = ((q + 1 : Nat) : Int) := w64s (by omega)
  have e0 : ((q : Int) = -1) = False := by simp only [eq_iff_iff, iff_false]; omega
  refine run_seqV ?_
  simp only [go_sem, e1]
  obtain ⟨F, hF0⟩ : ∃ F : List α → List α, F = fun x => x.filter (fun y => !p y) := ⟨_, rfl⟩
  have hFl : ∀ x : List α, (x.filter fun y => !p y) = F x := fun x => by rw [hF0]
  simp only [hFl] at hat1 hfb ⊢
  have hFa : ∀ (x : List α) (y : α), F (x ++ [y]) = F x ++ (if p y then [] else [y]) := fun x y => by
    rw [hF0]; simp only [List.filter_append, List.filter_cons, List.filter_nil]
    cases p y <;> simp
  refine R_loop (ι := Nat × List α) (J := fun d => d.1 ≤ l.length ∧ (F (l.take d.1)).length < d.1 ∧ d.2.length = l.length ∧ d.2.take (F (l.take d.1)).length = F (l.take d.1) ∧ d.2.drop d.1 = l.drop d.1)
    (env := fun d => [(0, .p (.one (.arr sz b v 0 l.length))), (1, .p (.one (.fn fn k caps))), (5, .i (F (l.take d.1)).length), (6, .i d.1)])
    (mem := fun d => M.set b (.rows t sz v (rowsL sz c d.2) fb)) (μ := fun d => l.length - d.1) (q + 1, l) ⟨hat, ?_, rfl, ?_, rfl⟩ ⟨[], ?_, ?_, ?_, ?_⟩ ?_
  · rw [hat1, List.length_take]; omega
  · rw [hat1, List.length_take, Nat.min_eq_left (by omega)]
  · rw [List.append_nil, set_self hb]
  · rw [List.length_set]; exact Nat.le_refl _
  · simp only [go_sem, hat1, List.length_take, List.length_set, Nat.min_eq_left (Nat.le_of_lt hat)]
    exact ⟨hbl, hcM _⟩
  · exact ltM_set hMB (rowsL_ltB _ _ _ _ _)
  rintro ⟨j, cur⟩ ⟨hj, hij, hcl2, htk, hdr⟩
  simp only at hj hij hcl2 htk hdr
  refine run_seqV ?_
  simp only [go_sem, gb hbl, rowsL_len, hcl2]
  obtain ⟨i, hi⟩ : ∃ i, i = (F (l.take j)).length := ⟨_, rfl⟩
  rw [← hi] at hij htk ⊢
  have e2 : IntKind.i64.wrap ((i : Int) + 1) = ((i + 1 : Nat) : Int) := w64s (by omega)
  have e3 : IntKind.i64.wrap ((j : Int) + 1) = ((j + 1 : Nat) : Int) := w64s (by omega)
  have hf' : ∀ x : α, fillL (List.map (fun v => AV.c (CV.v v)) z) 0 (cellsUp (c x) 0 sz) = cellsUp (c x) 0 sz := fun x => fill_up _ _ _ (by simp [hz])
  have hfx : ∀ x y : α, fillL (cellsUp (c y) 0 sz) 0 (cellsUp (c x) 0 sz) = cellsUp (c x) 0 sz := fun x y => fill_up _ _ _ (cellsUp_length _ _ _)
  have htk0 : ∀ x : α, (cellsUp (c x) 0 sz).take sz = cellsUp (c x) 0 sz := fun x => List.take_of_length_le (by rw [cellsUp_length]; exact Nat.le_refl _)
  refine ⟨fun h1 => ?_, fun h1 => ?_⟩
  · have hx : cur.getD j default = l.getD j default := by
      have a := drop_getD (d := (default : α)) (l := cur) (k := j) (by omega)
      have b := drop_getD (d := (default : α)) (l := l) (k := j) h1
      rw [a, b] at hdr
      exact (List.cons.inj hdr).1
    have hdr' : cur.drop (j + 1) = l.drop (j + 1) := by
      have := congrArg List.tail hdr
      simpa using this
    have hrow : (rowsL sz c cur).getD j [] = cellsUp (c (l.getD j default)) 0 sz := by rw [rowsL_getD (by omega), hx]
    have htj : l.take (j + 1) = l.take j ++ [l.getD j default] := take_succ_getD default h1
    have hcall := h j h1
    refine run_seq ?_
    refine run_block ?_
    refine run_seqV ?_
    simp only [go_sem, gb hbl, rowsL_len, hbl, hcl2, hrow, List.length_set, gl2, sl2, hf', htk0, cellsUp_length, List.length_map, hz]
    generalize l.getD j default = x at hx hrow htj hcall ⊢
    refine ⟨by omega, by omega, ?_⟩
    refine run_seqV ?_
    simp only [go_sem, gl2, htk0, cellsUp_length]
    refine call0 hcall ?_
    simp only [go_sem]
    cases hpx : p x with
    | true =>
      have hn : F (l.take (j + 1)) = F (l.take j) := by rw [htj, hFa, hpx]; simp
      refine V_sound ?_
      simp only [go_sem, Bool.not_true]
      refine V_sound ?_
      simp only [go_sem, e3]
      refine ⟨(j + 1, cur), ⟨h1, by show (F (l.take (j + 1))).length < j + 1; rw [hn, ← hi]; omega, hcl2, by simp only [hn]; rw [← hi]; exact htk, hdr'⟩, by simp only []; omega, [_], rfl, by rw [List.length_set]; exact Nat.le_refl _, ?_, ltM_set hMB (rowsL_ltB _ _ _ _ _)⟩
      simp only [go_sem, List.length_set, hn, ← hi]
      exact ⟨hbl, hcM _⟩
    | false =>
      have hn : F (l.take (j + 1)) = F (l.take j) ++ [x] := by rw [htj, hFa, hpx]; simp
      have hi' : (F (l.take (j + 1))).length = i + 1 := by rw [hn, List.length_append, ← hi]; rfl
      refine V_sound ?_
      have hrl : (rowsL sz c cur).getD i [] = cellsUp (c (cur.getD i default)) 0 sz := rowsL_getD (by omega)
      simp only [go_sem, Bool.not_false, gl2, ga, sa, gb, hbl, List.length_set, rowsL_len, hcl2, List.set_set, e2, htk0, hrl, hfx, cellsUp_length, rowsL_set]
      refine ⟨by omega, by omega, V_sound ?_⟩
      simp only [go_sem, e3]
      refine ⟨(j + 1, cur.set i x), ⟨h1, by show (F (l.take (j + 1))).length < j + 1; rw [hi']; omega, by simp only [List.length_set]; exact hcl2, ?_, ?_⟩, by simp only []; omega, [_], rfl, by rw [List.length_set]; exact Nat.le_refl _, ?_, ltM_set hMB (rowsL_ltB _ _ _ _ _)⟩
      · show (cur.set i x).take (F (l.take (j + 1))).length = F (l.take (j + 1))
        rw [hi', hn, ← htk, take_succ_getD default (by rw [List.length_set]; omega), List.take_set_of_le (Nat.le_refl _), getD_set_self (by omega)]
      · simp only []
        rw [List.drop_set_of_lt (by omega)]; exact hdr'
      · simp only [go_sem, List.length_set, hi']
        exact ⟨hbl, hcM _⟩
  · have hjn : j = l.length := by omega
    subst hjn
    rw [List.take_length] at hi htk
    refine V_sound ?_
    have hil : (i = l.length ∧ ¬ (i : Int) = 0) = False := by simp only [eq_iff_iff, iff_false]; omega
    simp only [go_sem, gb hbl, rowsL_len, hcl2, List.length_set, hbl, hil, if_false, List.set_set, ← hi]
    refine ⟨by omega, by omega, by omega, fin_own (.inr rfl) (gh_trunc (b := b) i (gb hbl)) [] (cnd := True) rfl trivial ?_ (leS_of rfl) ?_ ?_ (hfb _)⟩
    · have hti : (List.take i (rowsL sz c cur)).length = i := by rw [List.length_take, rowsL_len]; omega
      simp only [List.set_set, List.append_nil]
      rw [List.append_assoc, List.take_left' hti, rowsL_take, htk]
    · rw [List.length_set]; exact Nat.le_refl _
    · simp only [go_sem, List.length_set]
      exact hbl
end
end Go.Proofs.YtcmkhlfjcdchmaaGreatAbs
end
section
namespace Go.Proofs.YtcmkhlfjcdchmaaGreat.A
open Go Go.Proofs.YtcmkhlfjcdchmaaGreatAbs
theorem isNaN_rc (a : Int) (M : List Blk) : CallR Tryz.prog M n_cmp_isNaN_int [.i a] (.b false) M := by
  refine callP F_cmp_isNaN_int (Nat.le_of_ble_eq_true rfl) (by simp only [go_sem]) (by simp only [go_sem]) ?_ M
  simp only [c_cmp_isNaN_int, go_sem, bne_self_eq_false]
def cmpI (a b : Int) : Int := if a < b then -1 else if b < a then 1 else 0
theorem cmpI_lt (a b : Int) : (cmpI a b < 0) = (a < b) := by
  unfold cmpI
  split <;> rename_i h
  · simp [h]
  · split <;> simp [h]
theorem cmpI_eq (a b : Int) : (cmpI a b == 0) = decide (a = b) := by
  unfold cmpI
  split <;> rename_i h
  · simp; omega
  · split <;> simp <;> omega
theorem CompareI_rc (a b : Int) (M : List Blk) : CallR Tryz.prog M n_cmp_Compare_int [.i a, .i b] (.i (cmpI a b)) M := by
  refine callP F_cmp_Compare_int (Nat.le_of_ble_eq_true rfl) (by simp only [go_sem]) (by simp only [go_sem]) ?_ M
  simp only [c_cmp_Compare_int, go_sem]
  refine call0 (isNaN_rc _) ?_
  simp only [go_sem]
  refine call0 (isNaN_rc _) ?_
  simp only [go_sem, cmpI]
  grind
theorem at1_rc (x : Smp) (k : Int) (M : List Blk) : CallR Tryz.prog M n_samples_at_1 [smpA x, .i k] (.i (cmpI x.t k)) M := by
  refine callP F_samples_at_1 (Nat.le_of_ble_eq_true rfl) (by simp only [go_sem]) (by simp only [go_sem]) ?_ M
  simp only [c_samples_at_1, go_sem]
  refine call0 (CompareI_rc _ _) ?_
  simp only [go_sem]
/-- Where a time is in samples, or would be. -/
def atS (l : List Smp) (t : Int) : Nat := bsF (fun i => decide (cmpI (l.getD i default).t t < 0)) 0 l.length
def hitS (l : List Smp) (t : Int) : Bool := decide (atS l t < l.length) && (cmpI (l.getD (atS l t) default).t t == 0)
theorem atS_le (l : List Smp) (t : Int) : atS l t ≤ l.length := (bsF_le l.length 0 l.length (by omega) (Nat.zero_le _)).2
theorem at_rc (l : List Smp) (hl : l.length ≤ 140737488355328) (t : Int) (M : List Blk) : CallR Tryz.prog M n_samples_at [smpL l, .i t] (.tup [.i (atS l t : Nat), .b (hitS l t)]) M := by
  refine callP F_samples_at (Nat.le_of_ble_eq_true rfl) (by simp only [go_sem]) (by simp only [go_sem]) ?_ M
  simp only [c_samples_at, go_sem]
  refine call0 (fun M => bs_rc F_slices_BinarySearchFunc_api_Sample_api_Sample_int l.length (by omega) (fun i j => (l.getD i default).c j) (.i t) n_samples_at_1 0 (fun _ => default) (fun i => cmpI (l.getD i default).t t) (by simp only [go_sem]) (fun i hi => absurd hi (Nat.not_lt_zero _)) (fun i hi M => at1_rc (l.getD i default) t M) M) ?_
  simp only [go_sem]
  exact ⟨rfl, rfl⟩
theorem ovl_smp : Ovl Tryz.prog 152 2 := ⟨⟨_, 47, 4, 33, Tryz.func152, by kernel_rfl, by kernel_rfl, by kernel_rfl, by kernel_rfl, by kernel_rfl, by kernel_rfl⟩⟩
def putS (l : List Smp) (s : Smp) : List Smp × Int :=
  if smsOk l = false then ([], 1) else if smOk s = false then (l, 1) else if hitS l s.t = true then (l, if l.getD (atS l s.t) default = s then 7 else 8) else if l.length = 64 then (l, 6) else (l.take (atS l s.t) ++ s :: l.drop (atS l s.t), 0)
theorem smsOk_one (s : Smp) : smsOk [s] = smOk s := by simp [smsOk, smAt, List.range_succ]
theorem smsOk_len {l : List Smp} (h : smsOk l = true) : l.length ≤ 64 := by
  unfold smsOk at h
  simpa using (Bool.and_eq_true_iff.1 h).1
theorem smp_ext {x y : Smp} (h : (x.t == y.t && x.v == y.v) = true) : x = y := by
  cases x; cases y
  simp at h
  rw [h.1, h.2]
theorem smp_ne {x y : Smp} (h : (x.t == y.t && x.v == y.v) = false) : x ≠ y := by
  rintro rfl
  simp at h
theorem putS_lt (l : List Smp) (s : Smp) : ltS 0 (.tup [smpL (putS l s).1, .i (putS l s).2]) := by simp only [go_sem]
set_option maxRecDepth 20000 in
theorem Put_rc (l : List Smp) (hl : l.length ≤ 140737488355328) (s : Smp) (M : List Blk) : CallR Tryz.prog M n_samples_Put [smpL l, smpA s] (.tup [smpL (putS l s).1, .i (putS l s).2]) M := by
  refine callPG F_samples_Put (Nat.le_of_ble_eq_true rfl) (by simp only [go_sem]) ?_ M
  refine run_seqV ?_
  simp only [go_sem]
  refine run_seqV ?_
  simp only [go_sem]
  refine call0 (bCheck_rc l hl) ?_
  simp only [go_sem]
  cases hok : smsOk l with
  | false =>
    have hp : putS l s = ([], 1) := by rw [putS, if_pos hok]
    rw [hp]
    simp only [Bool.false_eq_true, if_false, go_sem]
    exact fin0 (.inr rfl) rfl trivial (subS_tup2 (subP_one (nil_sub (α := Smp))) (SubP.refl _)) (by simp only [go_sem])
  | true =>
    have hl64 := smsOk_len hok
    simp only [if_true, go_sem]
    refine run_seqV ?_
    simp only [go_sem]
    refine call1 (cloneO_rc (c := Smp.c) F_slices_Clone_api_Sample_api_Sample l (by omega) (by simp only [go_sem, ltB])) (by simp only [go_sem]) (fun h => Bool.noConfusion h) ?_
    simp only [go_sem]
    refine run_seqV ?_
    simp only [go_sem]
    refine callL (at_rc l hl s.t []) ⟨snapL l rfl, Snap.same _ trivial, trivial⟩ (by simp only [go_sem]) ?_
    simp only [go_sem]
    have hend : ∀ (l : List Smp) (n : Int) (e : Nat → SV) (X : List Blk) (v : Nat) (f : Bool), e 4 = .p (.one (.arr 2 1 v 0 l.length)) → e 5 = .i n → X[1]? = some (.rows 33 2 v (rowsL 2 Smp.c l) f) → FinK 53 0 [.t 4, .t 5] (.tup [smpL l, .i n]) [] .ret ⟨e, X⟩ := by
      intro l n e X v f h4 h5 hX
      refine finQ (.inr rfl) (gh_freeze (b := 1) (l := rowsL 2 Smp.c l) hX (rowsL_closed l)) (qs := [.one (.c (.imm 2 l.length fun i j => toC (((rowsL 2 Smp.c l).getD (0 + i) []).getD j default))), .i n]) (cnd := True) ?_ trivial (subS_tup2 (subP_one (frz_sub l)) (SubP.refl _)) (by simp only [go_sem])
      simp only [go_sem, h4, h5, Nat.zero_add]
    refine run_seqV ?_
    simp only [go_sem]
    refine callL (bCheck_rc [s] (Nat.le_of_ble_eq_true rfl) []) ⟨snapL [s] rfl, trivial⟩ (by simp only [go_sem]) ?_
    simp only [go_sem, smsOk_one]
    cases hs : smOk s with
    | false =>
      have hp : putS l s = (l, 1) := by rw [putS, if_neg (by rw [hok]; decide), if_pos hs]
      rw [hp]
      simp only [Bool.false_eq_true, if_false, go_sem]
      exact hend l 1 _ _ _ _ (by simp only [go_sem]) (by simp only [go_sem]) rfl
    | true =>
    have hat := atS_le l s.t
    have hhit : hitS l s.t = true → atS l s.t < l.length := fun h => by
      unfold hitS at h
      exact of_decide_eq_true (Bool.and_eq_true_iff.1 h).1
    have hp : putS l s = if hitS l s.t = true then (l, if l.getD (atS l s.t) default = s then 7 else 8) else if l.length = 64 then (l, 6) else (l.take (atS l s.t) ++ s :: l.drop (atS l s.t), 0) := by
      rw [putS, if_neg (by rw [hok]; decide), if_neg (by rw [hs]; decide)]
    rw [hp]
    have hins := ins_rc (M := [.rows 33 2 0 [[.c (.v (.int .i64 s.t)), .c (.v (.int .i64 s.v))]] true, .rows 33 2 1 (rowsL 2 Smp.c l) false, .rows 33 2 0 [[.c (.v (.int .i64 s.t)), .c (.v (.int .i64 s.v))]] true, .rows 33 2 0 [[.c (.v (.int .i64 s.t)), .c (.v (.int .i64 s.v))]] true]) (b := 1) (c := 3) (i := atS l s.t) (l := rowsL 2 Smp.c l) (row := cellsUp (Smp.c s) 0 2) F_slices_Insert_api_Sample_api_Sample ovl_smp (by decide) (by decide) rfl rfl (by rw [rowsL_len]; exact hat) (by rw [rowsL_len]; omega) (by rw [rowsL_len]; omega) (by
      simp only [go_sem, ltB]
      exact fun r hr => (rowsL_row r hr).2 4)
    rw [rowsL_ins, rowsL_len] at hins
    have hil : (l.take (atS l s.t) ++ s :: l.drop (atS l s.t)).length = l.length + 1 := by
      simp only [List.length_append, List.length_cons, List.length_take, List.length_drop]; omega
    cases hh : hitS l s.t with
    | true =>
      have hr := hhit hh
      have hg := rowsL_getD (sz := 2) (c := Smp.c) hr
      simp only [hh, hg, smp_eq, go_sem, hs]
      refine ⟨by omega, hr, fun he => ?_, fun he => ?_⟩
      · rw [if_pos (smp_ext he)]
        exact hend l 7 _ _ _ _ (by simp only [go_sem]) (by simp only [go_sem]) rfl
      · rw [if_neg (smp_ne he)]
        exact hend l 8 _ _ _ _ (by simp only [go_sem]) (by simp only [go_sem]) rfl
    | false =>
      by_cases hr : atS l s.t < l.length
      case' pos =>
        have hg := rowsL_getD (sz := 2) (c := Smp.c) hr
        simp only [hh, hg, go_sem]
      case' neg =>
        have hg : (rowsL 2 Smp.c l).getD (atS l s.t) [] = [] := by rw [List.getD_eq_getElem?_getD, List.getElem?_eq_none (by rw [rowsL_len]; omega)]; rfl
        simp only [hh, hg, go_sem]
      all_goals
        refine ⟨fun h64 => ?_, fun h64 => ?_⟩
        · rw [if_pos (by omega)]
          exact hend l 6 _ _ _ _ (by simp only [go_sem]) (by simp only [go_sem]) rfl
        · have h64' : ¬ l.length = 64 := by
            intro h
            rw [h] at h64
            exact absurd h64 (by decide)
          rw [if_neg h64']
          refine run_seqV ?_
          simp only [go_sem]
          refine call1 hins (by simp only [go_sem]) (fun h => Bool.noConfusion h) ?_
          rw [← hil]
          simp only [go_sem]
          refine run_ret ?_
          exact hend (l.take (atS l s.t) ++ s :: l.drop (atS l s.t)) 0 _ _ _ _ (by simp only [go_sem]) (by simp only [go_sem]) rfl
def zSmp : Smp := ⟨0, 0⟩
def getS (l : List Smp) (t : Int) : Smp × Bool := if hitS l t = true ∧ smsOk l = true then (l.getD (atS l t) default, true) else (zSmp, false)
theorem hit_lt {l : List Smp} {t : Int} (h : hitS l t = true) : atS l t < l.length := by
  unfold hitS at h
  exact of_decide_eq_true (Bool.and_eq_true_iff.1 h).1
set_option maxRecDepth 20000 in
theorem Get_rc (l : List Smp) (hl : l.length ≤ 140737488355328) (t : Int) (M : List Blk) : CallR Tryz.prog M n_samples_Get [smpL l, .i t] (.tup [smpA (getS l t).1, .b (getS l t).2]) M := by
  refine callP F_samples_Get (Nat.le_of_ble_eq_true rfl) (by simp only [go_sem]) (by simp only [go_sem]) ?_ M
  simp only [c_samples_Get, go_sem]
  refine call0 (at_rc l hl t) ?_
  simp only [go_sem]
  refine callg0 (fun _ => bCheck_rc l hl) ?_
  simp only [go_sem]
  cases hh : hitS l t with
  | false =>
    have hg : getS l t = (zSmp, false) := by rw [getS, if_neg (by rw [hh]; simp)]
    simp only [hg, zSmp, go_sem]
  | true =>
    have hr := hit_lt hh
    cases hk : smsOk l with
    | false =>
      have hg : getS l t = (zSmp, false) := by rw [getS, if_neg (by rw [hk]; simp)]
      simp only [hg, zSmp, go_sem]
    | true =>
      have hg : getS l t = (l.getD (atS l t) default, true) := by rw [getS, if_pos ⟨hh, hk⟩]
      simp only [hg, go_sem]
      omega
def rangeS (l : List Smp) (a b : Int) : List Smp := if smsOk l = true then (l.drop (atS l a)).take (atS l b - atS l a) else []
set_option maxRecDepth 20000 in
theorem Range_rc (l : List Smp) (hl : l.length ≤ 140737488355328) (a b : Int) (M : List Blk) : CallR Tryz.prog M n_samples_Range [smpL l, .i a, .i b] (.p (smpL (rangeS l a b))) M := by
  refine callP F_samples_Range (Nat.le_of_ble_eq_true rfl) (by simp only [go_sem]) (by simp only [go_sem]) ?_ M
  simp only [c_samples_Range, go_sem]
  refine call0 (bCheck_rc l hl) ?_
  simp only [go_sem]
  cases hk : smsOk l with
  | false =>
    have hg : rangeS l a b = [] := by rw [rangeS, if_neg (by rw [hk]; simp)]
    simp only [hg, go_sem, List.length_nil]
  | true =>
    have hg : rangeS l a b = (l.drop (atS l a)).take (atS l b - atS l a) := by rw [rangeS, if_pos hk]
    have h64 := smsOk_len hk
    have h1 := atS_le l a
    have h2 := atS_le l b
    simp only [go_sem]
    refine call0 (at_rc l hl a) ?_
    simp only [go_sem]
    refine call0 (at_rc l hl b) ?_
    simp only [go_sem]
    have hm : (if atS l a < atS l b then (atS l b : Int) else (atS l a : Int)).toNat - atS l a = atS l b - atS l a := by split <;> omega
    rw [hm]
    refine ⟨⟨by omega, by split <;> omega, by split <;> omega⟩, call1 (clone_rc F_slices_Clone_api_Sample_api_Sample ((l.drop (atS l a)).take (atS l b - atS l a)) (by rw [List.length_take, List.length_drop]; omega) _) ⟨le_slice (c := Smp.c) (by omega), trivial⟩ (fun h => Bool.noConfusion h) ?_⟩
    simp only [go_sem, hg]
def trimS (l : List Smp) (a : Int) : List Smp := if smsOk l = true then l.drop (atS l a) else []
set_option maxRecDepth 20000 in
theorem Trim_rc (l : List Smp) (hl : l.length ≤ 140737488355328) (a : Int) (M : List Blk) : CallR Tryz.prog M n_samples_Trim [smpL l, .i a] (.p (smpL (trimS l a))) M := by
  refine callP F_samples_Trim (Nat.le_of_ble_eq_true rfl) (by simp only [go_sem]) (by simp only [go_sem]) ?_ M
  simp only [c_samples_Trim, go_sem]
  refine call0 (bCheck_rc l hl) ?_
  simp only [go_sem]
  cases hk : smsOk l with
  | false =>
    have hg : trimS l a = [] := by rw [trimS, if_neg (by rw [hk]; simp)]
    simp only [hg, go_sem, List.length_nil]
  | true =>
    have hg : trimS l a = l.drop (atS l a) := by rw [trimS, if_pos hk]
    have h64 := smsOk_len hk
    have h1 := atS_le l a
    simp only [go_sem]
    refine call0 (at_rc l hl a) ?_
    simp only [go_sem]
    have e : (l.drop (atS l a)).take (l.length - atS l a) = l.drop (atS l a) := List.take_of_length_le (by rw [List.length_drop]; exact Nat.le_refl _)
    refine ⟨by omega, call1 (clone_rc F_slices_Clone_api_Sample_api_Sample ((l.drop (atS l a)).take (l.length - atS l a)) (by rw [List.length_take, List.length_drop]; omega) _) ⟨le_slice (c := Smp.c) (by omega), trivial⟩ (fun h => Bool.noConfusion h) ?_⟩
    rw [e]
    simp only [go_sem, hg]
end Go.Proofs.YtcmkhlfjcdchmaaGreat.A
end
section
namespace Go.Proofs.YtcmkhlfjcdchmaaGreat.A
open Go Go.Proofs.YtcmkhlfjcdchmaaGreatAbs
theorem rSmSame_rc (l m : List Smp) (hl : l.length ≤ 140737488355328) (M : List Blk) : CallR Tryz.prog M n_windroseref11_Same [smpL l, smpL m] (.b (decide (l = m))) M := by
  have := rsame_rc (P := Tryz.prog) (c := Smp.c) (eq := fun x y => decide (x = y)) F_windroseref11_Same smp_eq l m hl M
  rwa [eqL_dec] at this
theorem SmEqual_rc (l m : List Smp) (hl : l.length ≤ 140737488355328) (M : List Blk) : CallR Tryz.prog M n_slices_Equal_api_Sample_api_Sample [smpL l, smpL m] (.b (decide (l = m))) M := by
  have := eq_rc (P := Tryz.prog) (c := Smp.c) (eq := fun x y => decide (x = y)) F_slices_Equal_api_Sample_api_Sample smp_eq l m hl M
  rwa [eqL_dec] at this
def rgetI (l : List Smp) (t : Int) : Nat := l.findIdx fun x => decide (x.t = t)
def rgetS (l : List Smp) (t : Int) : Smp × Bool := if rgetI l t < l.length then (l.getD (rgetI l t) default, true) else (zSmp, false)
set_option maxRecDepth 20000 in
theorem rGet_rc (l : List Smp) (hl : l.length ≤ 140737488355328) (t : Int) (M : List Blk) : CallR Tryz.prog M n_windroseref12_Get [smpL l, .i t] (.tup [smpA (rgetS l t).1, .b (rgetS l t).2]) M := by
  refine callP F_windroseref12_Get (Nat.le_of_ble_eq_true rfl) (by simp only [go_sem]) (by simp only [go_sem]) ?_ M
  simp only [c_windroseref12_Get, go_sem]
  refine V_loop (ι := Nat) (J := fun k => k ≤ l.length ∧ ∀ i, i < k → (l.getD i default).t ≠ t) (env := fun k => [(0, .p (smpL l)), (1, .i t), (4, .p (.one (.ptr 0 0 0 0))), (6, .i k)]) (mem := fun _ => [.rows 33 2 0 [[.c (.v (.int .i64 0)), .c (.v (.int .i64 0))]] true]) (μ := fun k => l.length - k) 0 ⟨Nat.zero_le _, fun i hi => absurd hi (Nat.not_lt_zero _)⟩ ⟨[], by simp only [go_sem], Nat.zero_le _, by simp only [go_sem], by simp only [go_sem, ltB]⟩ ?_
  rintro k ⟨hk, hne⟩
  simp only [go_sem]
  refine ⟨fun h1 => ⟨by omega, fun hc => ⟨by omega, ?_⟩, fun hc => ⟨k + 1, ⟨by omega, fun i hi => ?_⟩, by omega, [], by simp only [go_sem], Nat.zero_le _, ?_, by simp only [go_sem, ltB]⟩⟩, fun h1 => ?_⟩
  · have : rgetI l t = k := by
      rw [rgetI, List.findIdx_eq h1]
      refine ⟨by simpa [List.getD_eq_getElem?_getD, h1] using hc, fun i hi => ?_⟩
      simpa [List.getD_eq_getElem?_getD, show i < l.length by omega] using hne i hi
    simp only [rgetS, this, if_pos h1, go_sem]
  · by_cases e : i = k
    · subst e; exact hc
    · exact hne i (by omega)
  · simp only [go_sem, w64s (show k < 9223372036854775807 by omega)]
  · have : ¬ rgetI l t < l.length := by
      have : rgetI l t = l.length := by
        rw [rgetI, List.findIdx_eq_length]
        intro y hy
        obtain ⟨j, hj, rfl⟩ := List.mem_iff_getElem.1 hy
        simpa [List.getD_eq_getElem?_getD, hj] using hne j (by omega)
      omega
    simp only [rgetS, if_neg this, zSmp, go_sem]
/-- One step of the document's pass: what is told so far, whether the sample is put. -/
def wStepS (s : Smp) (p : List Smp × Bool) (x : Smp) : List Smp × Bool :=
  let q := if (!p.2 && decide (s.t < x.t)) = true then (p.1 ++ [s], true) else p
  (q.1 ++ [x], q.2)
def wAllS (s : Smp) (l : List Smp) : List Smp × Bool := l.foldl (wStepS s) ([], false)
def withS (l : List Smp) (s : Smp) : List Smp := if (wAllS s l).2 = true then (wAllS s l).1 else (wAllS s l).1 ++ [s]
theorem foldl_take {α β : Type} [Inhabited α] (f : β → α → β) (b : β) (l : List α) {k : Nat} (hk : k < l.length) : (l.take (k + 1)).foldl f b = f ((l.take k).foldl f b) (l.getD k default) := by
  rw [take_succ_getD default hk, List.foldl_append]; rfl
theorem wAllS_len (s : Smp) (l : List Smp) : ∀ p : List Smp × Bool, (l.foldl (wStepS s) p).1.length ≤ p.1.length + 2 * l.length := by
  induction l with
  | nil => intro p; simp
  | cons x l ih =>
    intro p
    rw [List.foldl_cons]
    refine Nat.le_trans (ih _) ?_
    have : (wStepS s p x).1.length ≤ p.1.length + 2 := by
      unfold wStepS
      simp only
      split <;> simp
    simp only [List.length_cons]
    omega
theorem smp_row (a : List Smp) (x : Smp) : rowsL 2 Smp.c a ++ [[AV.c (CV.v (Value.int IntKind.i64 x.t)), AV.c (CV.v (Value.int IntKind.i64 x.v))]] = rowsL 2 Smp.c (a ++ [x]) := rowsL_app1 a x
set_option maxRecDepth 20000 in
theorem rwith_rc (l : List Smp) (hl : l.length ≤ 1000) (s : Smp) (M : List Blk) : CallR Tryz.prog M n_windroseref12_with [smpL l, smpA s] (.p (smpL (withS l s))) M := by
  refine callPG F_windroseref12_with (Nat.le_of_ble_eq_true rfl) (by simp only [go_sem]) ?_ M
  refine run_seqV ?_
  simp only [go_sem]
  refine run_seqV ?_
  simp only [go_sem]
  refine run_seqV ?_
  simp only [go_sem]
  refine run_seqV ?_
  simp only [go_sem]
  refine R_loop (ι := Nat × Nat × Bool) (J := fun p => p.1 ≤ l.length)
    (env := fun p => [(0, .p (smpL l)), (3, .p (.one (.ptr 0 0 0 0))), (5, .p (.one (.arr 2 1 p.2.1 0 (wAllS s (l.take p.1)).1.length))), (6, .b (wAllS s (l.take p.1)).2), (7, .i p.1)])
    (mem := fun p => [.rows 33 2 0 [[.c (.v (.int .i64 s.t)), .c (.v (.int .i64 s.v))]] true, .rows 33 2 p.2.1 (rowsL 2 Smp.c (wAllS s (l.take p.1)).1) p.2.2])
    (μ := fun p => l.length - p.1) (0, 0, true) (Nat.zero_le _) ⟨[], ?_, Nat.zero_le _, ?_, ?_⟩ ?_
  · simp only [go_sem, List.take_zero, wAllS, List.foldl_nil, rowsL_nil]
  · simp only [go_sem, List.take_zero, wAllS, List.foldl_nil, List.length_nil]
  · simp only [go_sem, ltB]
    exact fun r hr => (rowsL_row r hr).2 _
  rintro ⟨k, v, f⟩ hk
  simp only at hk
  refine run_seqV ?_
  simp only [go_sem]
  have hwl : (wAllS s (l.take k)).1.length ≤ 2 * k := by
    have := wAllS_len s (l.take k) ([], false)
    rw [List.length_take] at this
    simp only [List.length_nil] at this
    unfold wAllS
    omega
  refine ⟨fun h1 => ?_, fun h1 => ?_⟩
  · have hst : wAllS s (l.take (k + 1)) = wStepS s (wAllS s (l.take k)) (l.getD k default) := foldl_take _ _ _ h1
    generalize hw : wAllS s (l.take k) = W at hst hwl ⊢
    obtain ⟨ws, put⟩ := W
    refine run_seq ?_
    refine run_block ?_
    refine run_seqV ?_
    simp only at hwl
    simp only [go_sem]
    have e3 : IntKind.i64.wrap ((k : Int) + 1) = ((k + 1 : Nat) : Int) := w64s (by omega)
    have hlx : (⟨(l.getD k default).t, (l.getD k default).v⟩ : Smp) = l.getD k default := rfl
    refine ⟨fun _ => by omega, fun hp => ⟨by omega, ?_⟩, fun hp => ?_⟩
    · have hst' : wAllS s (l.take (k + 1)) = (ws ++ [s] ++ [l.getD k default], true) := by
        rw [hst, wStepS]; simp only [hp, if_true]
      refine V_sound ?_
      simp only [go_sem, smp_row, rowsL_len, List.length_append, List.length_cons, List.length_nil, Nat.zero_add, hlx]
      refine ⟨by omega, by omega, V_sound ?_⟩
      simp only [go_sem, e3]
      refine ⟨(k + 1, v + 1 + 1, false), h1, by simp only []; omega, [.rows 33 2 0 [[.c (.v (.int .i64 s.t)), .c (.v (.int .i64 s.v))]] true, .rows 33 2 0 [[.c (.v (.int .i64 (l.getD k default).t)), .c (.v (.int .i64 (l.getD k default).v))]] true], ?_, Nat.zero_le _, ?_, ?_⟩
      · simp only [hst', go_sem, smp_row]
      · simp only [go_sem, hst', List.length_append, List.length_cons, List.length_nil, Nat.zero_add]
      · simp only [go_sem, ltB]
        exact fun r hr => (rowsL_row r hr).2 _
    · have hst' : wAllS s (l.take (k + 1)) = (ws ++ [l.getD k default], put) := by
        rw [hst, wStepS]; simp only [hp, Bool.false_eq_true, if_false]
      refine V_sound ?_
      simp only [go_sem, smp_row, rowsL_len, List.length_append, List.length_cons, List.length_nil, Nat.zero_add, hlx]
      refine ⟨by omega, by omega, V_sound ?_⟩
      simp only [go_sem, e3]
      refine ⟨(k + 1, v + 1, false), h1, by simp only []; omega, [.rows 33 2 0 [[.c (.v (.int .i64 (l.getD k default).t)), .c (.v (.int .i64 (l.getD k default).v))]] true], ?_, Nat.zero_le _, ?_, ?_⟩
      · simp only [hst', go_sem, smp_row]
      · simp only [go_sem, hst', List.length_append, List.length_cons, List.length_nil, Nat.zero_add]
      · simp only [go_sem, ltB]
        exact fun r hr => (rowsL_row r hr).2 _
  · have hkl : k = l.length := by omega
    subst hkl
    rw [List.take_length] at hwl ⊢
    unfold withS
    generalize hw : wAllS s l = W at hwl ⊢
    obtain ⟨ws, put⟩ := W
    simp only at hwl
    have hend : ∀ (ws : List Smp) (e : Nat → SV) (X : List Blk) (v : Nat) (f : Bool), e 4 = .p (.one (.arr 2 1 v 0 ws.length)) → X[1]? = some (.rows 33 2 v (rowsL 2 Smp.c ws) f) → FinK 45 0 [.t 4] (.p (smpL ws)) [] .ret ⟨e, X⟩ := by
      intro ws e X v f h4 hX
      refine finQ (.inr rfl) (gh_freeze (b := 1) (l := rowsL 2 Smp.c ws) hX (rowsL_closed ws)) (qs := [.one (.c (.imm 2 ws.length fun i j => toC (((rowsL 2 Smp.c ws).getD (0 + i) []).getD j default)))]) (cnd := True) ?_ trivial (subS_p (subP_one (frz_sub ws))) (by simp only [go_sem])
      simp only [go_sem, h4, Nat.zero_add]
    refine run_seqV ?_
    simp only [go_sem, rowsL_len]
    refine ⟨fun hp => ⟨by omega, ?_⟩, fun hp => ?_⟩
    · have hput : put = false := by simpa using hp
      rw [hput]
      refine V_sound ?_
      have hl2 : ws.length + 1 = (ws ++ [s]).length := by simp
      simp only [go_sem, smp_row, hl2]
      exact hend (ws ++ [s]) _ _ _ _ (by simp only [go_sem]) rfl
    · have hput : put = true := by simpa using hp
      rw [hput]
      refine V_sound ?_
      simp only [go_sem]
      exact hend ws _ _ _ _ (by simp only [go_sem]) rfl
def rputS (l : List Smp) (s : Smp) : List Smp × Int :=
  if smOk s = false then (l, 1) else if (rgetS l s.t).2 = true ∧ (rgetS l s.t).1.v = s.v then (l, 7) else if (rgetS l s.t).2 = true then (l, 8) else if l.length = 64 then (l, 6) else (withS l s, 0)
set_option maxRecDepth 20000 in
theorem rPut_rc (l : List Smp) (hl : l.length ≤ 1000) (s : Smp) (M : List Blk) : CallR Tryz.prog M n_windroseref12_Put [smpL l, smpA s] (.tup [smpL (rputS l s).1, .i (rputS l s).2]) M := by
  refine callP F_windroseref12_Put (Nat.le_of_ble_eq_true rfl) (by simp only [go_sem]) (by simp only [go_sem]) ?_ M
  simp only [c_windroseref12_Put, go_sem]
  refine callL (rMay_rc [s] (Nat.le_of_ble_eq_true rfl) []) ⟨snapL [s] rfl, trivial⟩ (by simp only [go_sem]) ?_
  simp only [go_sem, smsOk_one]
  unfold rputS
  cases hs : smOk s with
  | false => simp only [go_sem]
  | true =>
    simp only [go_sem]
    refine call0 (rGet_rc l (by omega) s.t) ?_
    simp only [go_sem]
    generalize rgetS l s.t = G
    obtain ⟨g, there⟩ := G
    cases there with
    | false =>
      simp only [go_sem]
      refine ⟨fun h => ?_, fun h => ?_⟩
      · have : l.length = 64 := by omega
        simp only [this, go_sem]
      · have : ¬ l.length = 64 := fun e => h (by rw [e]; rfl)
        simp only [if_neg this, go_sem]
        refine call0 (rwith_rc l hl s) ?_
        simp only [go_sem]
    | true =>
      simp only [go_sem]
      refine ⟨fun h => ?_, fun h => ?_⟩
      · simp only [h, go_sem]
      · simp only [h, go_sem]
def rrangeS (l : List Smp) (a b : Int) : List Smp := l.filter fun x => decide (a ≤ x.t) && decide (x.t < b)
def rtrimS (l : List Smp) (a : Int) : List Smp := l.filter fun x => decide (a ≤ x.t)
theorem filter_take {α : Type} [Inhabited α] (p : α → Bool) (l : List α) {k : Nat} (hk : k < l.length) : (l.take (k + 1)).filter p = (l.take k).filter p ++ if p (l.getD k default) = true then [l.getD k default] else [] := by
  rw [take_succ_getD default hk, List.filter_append, List.filter_cons, List.filter_nil]
theorem filter_len {α : Type} (p : α → Bool) (l : List α) (k : Nat) : ((l.take k).filter p).length ≤ k := Nat.le_trans (List.length_filter_le ..) (by rw [List.length_take]; omega)
theorem end_smp {n : Nat} (ws : List Smp) (e : Nat → SV) (X : List Blk) (v : Nat) (f : Bool) (r b : Nat) (h4 : e r = .p (.one (.arr 2 b v 0 ws.length))) (hX : X[b]? = some (.rows 33 2 v (rowsL 2 Smp.c ws) f)) : FinK n 0 [.t r] (.p (smpL ws)) [] .ret ⟨e, X⟩ := by
  refine finQ (.inr rfl) (gh_freeze (b := b) (l := rowsL 2 Smp.c ws) hX (rowsL_closed ws)) (qs := [.one (.c (.imm 2 ws.length fun i j => toC (((rowsL 2 Smp.c ws).getD (0 + i) []).getD j default)))]) (cnd := True) ?_ trivial (subS_p (subP_one (frz_sub ws))) (by simp only [go_sem])
  simp only [go_sem, h4, Nat.zero_add]
set_option maxRecDepth 20000 in
theorem rTrim_rc (l : List Smp) (hl : l.length ≤ 140737488355) (a : Int) (M : List Blk) : CallR Tryz.prog M n_windroseref12_Trim [smpL l, .i a] (.p (smpL (rtrimS l a))) M := by
  refine callPG F_windroseref12_Trim (Nat.le_of_ble_eq_true rfl) (by simp only [go_sem]) ?_ M
  refine run_seqV ?_
  simp only [go_sem]
  refine run_seqV ?_
  simp only [go_sem]
  refine run_seqV ?_
  simp only [go_sem]
  refine R_loop (ι := Nat × Nat × Bool) (J := fun p => p.1 ≤ l.length)
    (env := fun p => [(0, .p (smpL l)), (1, .i a), (5, .p (.one (.arr 2 0 p.2.1 0 (rtrimS (l.take p.1) a).length))), (6, .i p.1)])
    (mem := fun p => [.rows 33 2 p.2.1 (rowsL 2 Smp.c (rtrimS (l.take p.1) a)) p.2.2])
    (μ := fun p => l.length - p.1) (0, 0, true) (Nat.zero_le _) ⟨[], ?_, Nat.zero_le _, ?_, ?_⟩ ?_
  · simp only [go_sem, List.take_zero, rtrimS, List.filter_nil, rowsL_nil]
  · simp only [go_sem, List.take_zero, rtrimS, List.filter_nil, List.length_nil]
  · simp only [go_sem, ltB]
    exact fun r hr => (rowsL_row r hr).2 _
  rintro ⟨k, v, f⟩ hk
  simp only at hk
  refine run_seqV ?_
  simp only [go_sem]
  refine ⟨fun h1 => ?_, fun h1 => ?_⟩
  · have hst := filter_take (fun x : Smp => decide (a ≤ x.t)) l h1
    have hle := filter_len (fun x : Smp => decide (a ≤ x.t)) l k
    have e3 : IntKind.i64.wrap ((k : Int) + 1) = ((k + 1 : Nat) : Int) := w64s (by omega)
    rw [show (l.take (k + 1)).filter (fun x : Smp => decide (a ≤ x.t)) = rtrimS (l.take (k + 1)) a from rfl, show (l.take k).filter (fun x : Smp => decide (a ≤ x.t)) = rtrimS (l.take k) a from rfl] at hst
    rw [show (l.take k).filter (fun x : Smp => decide (a ≤ x.t)) = rtrimS (l.take k) a from rfl] at hle
    generalize hw : rtrimS (l.take k) a = ws at hst hle ⊢
    refine V_sound ?_
    have hlx : ∀ x : Smp, (⟨x.t, x.v⟩ : Smp) = x := fun _ => rfl
    simp only [go_sem, smp_row, rowsL_len, e3, hlx]
    refine ⟨by omega, fun hc => ⟨by omega, by omega, ?_⟩, fun hc => ?_⟩
    · have hst' : rtrimS (l.take (k + 1)) a = ws ++ [l.getD k default] := by
        rw [hst, if_pos (by simpa using hc)]
      refine ⟨(k + 1, v + 1, false), h1, by simp only []; omega, [.rows 33 2 0 [[.c (.v (.int .i64 (l.getD k default).t)), .c (.v (.int .i64 (l.getD k default).v))]] true], ?_, Nat.zero_le _, ?_, ?_⟩
      · simp only [hst', go_sem]
      · simp only [go_sem, hst', List.length_append, List.length_cons, List.length_nil, Nat.zero_add]
      · simp only [go_sem, ltB]
        exact fun r hr => (rowsL_row r hr).2 _
    · have hst' : rtrimS (l.take (k + 1)) a = ws := by
        rw [hst, if_neg (by simpa using hc), List.append_nil]
      refine ⟨(k + 1, v, f), h1, by simp only []; omega, [], ?_, Nat.zero_le _, ?_, ?_⟩
      · simp only [hst', go_sem]
      · simp only [go_sem, hst']
      · simp only [go_sem, ltB]
        exact fun r hr => (rowsL_row r hr).2 _
  · have hkl : k = l.length := by omega
    subst hkl
    rw [List.take_length]
    refine V_sound ?_
    simp only [go_sem]
    exact end_smp (rtrimS l a) _ _ v f 4 0 (by simp only [go_sem]) rfl
set_option maxRecDepth 20000 in
theorem rRange_rc (l : List Smp) (hl : l.length ≤ 140737488355) (a b : Int) (M : List Blk) : CallR Tryz.prog M n_windroseref12_Range [smpL l, .i a, .i b] (.p (smpL (rrangeS l a b))) M := by
  refine callPG F_windroseref12_Range (Nat.le_of_ble_eq_true rfl) (by simp only [go_sem]) ?_ M
  refine run_seqV ?_
  simp only [go_sem]
  refine run_seqV ?_
  simp only [go_sem]
  refine run_seqV ?_
  simp only [go_sem]
  refine R_loop (ι := Nat × Nat × Bool) (J := fun p => p.1 ≤ l.length)
    (env := fun p => [(0, .p (smpL l)), (1, .i a), (2, .i b), (7, .p (.one (.arr 2 0 p.2.1 0 (rrangeS (l.take p.1) a b).length))), (8, .i p.1)])
    (mem := fun p => [.rows 33 2 p.2.1 (rowsL 2 Smp.c (rrangeS (l.take p.1) a b)) p.2.2])
    (μ := fun p => l.length - p.1) (0, 0, true) (Nat.zero_le _) ⟨[], ?_, Nat.zero_le _, ?_, ?_⟩ ?_
  · simp only [go_sem, List.take_zero, rrangeS, List.filter_nil, rowsL_nil]
  · simp only [go_sem, List.take_zero, rrangeS, List.filter_nil, List.length_nil]
  · simp only [go_sem, ltB]
    exact fun r hr => (rowsL_row r hr).2 _
  rintro ⟨k, v, f⟩ hk
  simp only at hk
  refine run_seqV ?_
  simp only [go_sem]
  refine ⟨fun h1 => ?_, fun h1 => ?_⟩
  · have hst := filter_take (fun x : Smp => decide (a ≤ x.t) && decide (x.t < b)) l h1
    have hle := filter_len (fun x : Smp => decide (a ≤ x.t) && decide (x.t < b)) l k
    have e3 : IntKind.i64.wrap ((k : Int) + 1) = ((k + 1 : Nat) : Int) := w64s (by omega)
    rw [show (l.take (k + 1)).filter (fun x : Smp => decide (a ≤ x.t) && decide (x.t < b)) = rrangeS (l.take (k + 1)) a b from rfl, show (l.take k).filter (fun x : Smp => decide (a ≤ x.t) && decide (x.t < b)) = rrangeS (l.take k) a b from rfl] at hst
    rw [show (l.take k).filter (fun x : Smp => decide (a ≤ x.t) && decide (x.t < b)) = rrangeS (l.take k) a b from rfl] at hle
    generalize hw : rrangeS (l.take k) a b = ws at hst hle ⊢
    refine V_sound ?_
    have hlx : ∀ x : Smp, (⟨x.t, x.v⟩ : Smp) = x := fun _ => rfl
    simp only [go_sem, smp_row, rowsL_len, e3, hlx]
    refine ⟨by omega, fun _ => by omega, fun hc => ⟨by omega, by omega, ?_⟩, fun hc => ?_⟩
    · have hst' : rrangeS (l.take (k + 1)) a b = ws ++ [l.getD k default] := by
        rw [hst, if_pos (by simpa using hc)]
      refine ⟨(k + 1, v + 1, false), h1, by simp only []; omega, [.rows 33 2 0 [[.c (.v (.int .i64 (l.getD k default).t)), .c (.v (.int .i64 (l.getD k default).v))]] true], ?_, Nat.zero_le _, ?_, ?_⟩
      · simp only [hst', go_sem]
      · simp only [go_sem, hst', List.length_append, List.length_cons, List.length_nil, Nat.zero_add]
      · simp only [go_sem, ltB]
        exact fun r hr => (rowsL_row r hr).2 _
    · have hst' : rrangeS (l.take (k + 1)) a b = ws := by
        rw [hst, if_neg (by simpa using hc), List.append_nil]
      refine ⟨(k + 1, v, f), h1, by simp only []; omega, [], ?_, Nat.zero_le _, ?_, ?_⟩
      · simp only [hst', go_sem]
      · simp only [go_sem, hst']
      · simp only [go_sem, ltB]
        exact fun r hr => (rowsL_row r hr).2 _
  · have hkl : k = l.length := by omega
    subst hkl
    rw [List.take_length]
    refine V_sound ?_
    simp only [go_sem]
    exact end_smp (rrangeS l a b) _ _ v f 6 0 (by simp only [go_sem]) rfl
end Go.Proofs.YtcmkhlfjcdchmaaGreat.A
end
