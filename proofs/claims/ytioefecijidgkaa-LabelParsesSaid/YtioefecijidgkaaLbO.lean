/- Plain law: the two readings of a text come to the same series. The law LabelParses. -/
import Derived.Test.YtioefecijidgkaaLbN
import Derived.Test.YtioefecijidgkaaLbL
set_option linter.unusedVariables false
set_option linter.unusedSimpArgs false
namespace Go.Proofs.Ytioefecijidgkaa.A
open Go Go.Proofs Go.Proofs.YtioefecijidgkaaAbs
def segR : Nat → Nat → List UInt8 → Option (List Lb)
  | 0, _, _ => none
  | n + 1, m, rest =>
    match rest.drop (fAt rest 61 + 1) with
    | [] => none
    | q :: r => if q ≠ 34 then none else if m = 4 then none else
      match quo r with
      | none => none
      | some (_, []) => none
      | some (a, x :: t) => if x = 44 then (segR n (m + 1) t).map (fun new => ⟨mkS (rest.take (fAt rest 61)), mkS a⟩ :: new) else if x = 125 ∧ t = [] then some [⟨mkS (rest.take (fAt rest 61)), mkS a⟩] else none
def segP : Nat → Nat → List UInt8 → Option (List Lb)
  | 0, _, _ => none
  | n + 1, m, rest =>
    if (Lib.cut rest [61, 34]).2.2 = false then none else
    match quo (Lib.cut rest [61, 34]).2.1 with
    | none => none
    | some (_, []) => none
    | some (a, x :: t) => if m = 4 then none else if x = 44 then (segP n (m + 1) t).map (fun new => ⟨mkS (Lib.cut rest [61, 34]).1, mkS a⟩ :: new) else if x = 125 ∧ t = [] then some [⟨mkS (Lib.cut rest [61, 34]).1, mkS a⟩] else none
theorem refG_seg : ∀ (n : Nat) (rest : List UInt8) (ls : List Lb), refG n rest ls = (segR n ls.length rest).map fun new => new.foldl insLb ls
  | 0, rest, ls => rfl
  | n + 1, rest, ls => by
    rw [refG, segR]
    cases rest.drop (fAt rest 61 + 1) with
    | nil => rfl
    | cons q r =>
      simp only
      by_cases hq : q ≠ 34
      · simp only [if_pos hq, Option.map_none]
      · simp only [if_neg hq]
        by_cases h4 : ls.length = 4
        · simp only [if_pos h4, Option.map_none]
        · simp only [if_neg h4]
          cases quo r with
          | none => rfl
          | some p =>
            obtain ⟨a, t⟩ := p
            cases t with
            | nil => rfl
            | cons x t =>
              simp only
              by_cases hx : x = 44
              · simp only [if_pos hx]
                rw [refG_seg n t, insLb_len, Option.map_map]
                rfl
              · simp only [if_neg hx]
                by_cases hy : x = 125 ∧ t = []
                · simp only [if_pos hy, Option.map_some]
                  rfl
                · simp only [if_neg hy, Option.map_none]
theorem parG_seg : ∀ (n : Nat) (rest : List UInt8) (ls : List Lb), parG n rest ls = (segP n ls.length rest).map fun new => ls ++ new
  | 0, rest, ls => rfl
  | n + 1, rest, ls => by
    rw [parG, segP]
    by_cases hc : (Lib.cut rest [61, 34]).2.2 = false
    · simp only [if_pos hc, Option.map_none]
    · simp only [if_neg hc]
      cases quo (Lib.cut rest [61, 34]).2.1 with
      | none => rfl
      | some p =>
        obtain ⟨a, t⟩ := p
        cases t with
        | nil => rfl
        | cons x t =>
          simp only
          by_cases h4 : ls.length = 4
          · simp only [if_pos h4, Option.map_none]
          · simp only [if_neg h4]
            by_cases hx : x = 44
            · simp only [if_pos hx]
              rw [parG_seg n t, List.length_append, List.length_singleton, Option.map_map]
              congr 1
              funext new
              simp
            · simp only [if_neg hx]
              by_cases hy : x = 125 ∧ t = []
              · simp only [if_pos hy, Option.map_some]
              · simp only [if_neg hy, Option.map_none]
theorem fAt_split {l : List UInt8} {c : UInt8} (h : fAt l c < l.length) : l = l.take (fAt l c) ++ c :: l.drop (fAt l c + 1) := by
  have hc : l[fAt l c] = c := by
    have := List.findIdx_getElem (p := (· == c)) (xs := l) (w := h)
    exact eq_of_beq this
  have := List.take_append_drop (fAt l c) l
  rw [List.drop_eq_getElem_cons h, hc] at this
  exact this.symm
theorem fAt_no {l : List UInt8} {c : UInt8} : ∀ x ∈ l.take (fAt l c), x ≠ c := by
  intro x hx e
  obtain ⟨i, hi, rfl⟩ := List.mem_iff_getElem.1 hx
  rw [List.length_take] at hi
  rw [List.getElem_take] at e
  have := List.not_of_lt_findIdx (p := (· == c)) (xs := l) (i := i) (by show i < fAt l c; omega)
  rw [e] at this
  simp at this
theorem fAt_at {p r : List UInt8} {c : UInt8} (hp : ∀ x ∈ p, x ≠ c) : fAt (p ++ c :: r) c = p.length := by
  induction p with
  | nil => simp [fAt, List.findIdx_cons]
  | cons x p ih =>
    have hx := hp x (List.mem_cons_self ..)
    have := ih (fun y hy => hp y (List.mem_cons_of_mem _ hy))
    rw [List.cons_append, fAt, List.findIdx_cons, show (x == c) = false by simpa using hx]
    show fAt (p ++ c :: r) c + 1 = _
    rw [this]; rfl
theorem cut_true {s sep k r : List UInt8} (h : Lib.cut s sep = (k, r, true)) : s = k ++ sep ++ r := by
  unfold Lib.cut at h
  split at h
  · rename_i h0
    rcases Lib.index_spec s sep with ⟨h1, _⟩ | ⟨i, h1, h2, h3, _⟩
    · rw [h1] at h0; exact absurd h0 (by decide)
    · rw [h1, Int.toNat_natCast] at h
      simp only [Prod.mk.injEq, and_true] at h
      obtain ⟨rfl, rfl⟩ := h
      unfold Lib.occAt at h3
      obtain ⟨t, ht⟩ := List.isPrefixOf_iff_prefix.1 h3
      rw [← List.drop_drop, ← ht, List.drop_left, List.append_assoc, ht, List.take_append_drop]
  · simp at h
theorem segRP : ∀ (n m : Nat) (rest : List UInt8) (new : List Lb), segR n m rest = some new → segP n m rest = some new
  | 0, m, rest, new, h => by cases h
  | n + 1, m, rest, new, h => by
    rw [segR] at h
    obtain ⟨d, hd⟩ : ∃ d, d = rest.drop (fAt rest 61 + 1) := ⟨_, rfl⟩
    rw [← hd] at h
    cases d with
    | nil => cases h
    | cons q r =>
      simp only at h
      by_cases hq : q = 34
      case neg => rw [if_pos hq] at h; cases h
      rw [if_neg (by simp [hq])] at h
      have hl : fAt rest 61 < rest.length := by
        have : (rest.drop (fAt rest 61 + 1)).length ≠ 0 := by rw [← hd]; simp
        rw [List.length_drop] at this
        omega
      have hsp := fAt_split hl
      rw [← hd, hq] at hsp
      have hc : Lib.cut rest [61, 34] = (rest.take (fAt rest 61), r, true) := by
        have := cut_at (p := rest.take (fAt rest 61)) (r := r) (sep := [61, 34]) rfl fAt_no
        rw [← this]
        congr 1
      rw [segP, hc]
      simp only [Bool.true_eq_false, if_false]
      by_cases h4 : m = 4
      · rw [if_pos h4] at h; cases h
      rw [if_neg h4] at h
      cases hqu : quo r with
      | none => rw [hqu] at h; cases h
      | some p =>
        rw [hqu] at h
        obtain ⟨a, t⟩ := p
        cases t with
        | nil => cases h
        | cons x t =>
          simp only [if_neg h4] at h ⊢
          by_cases hx : x = 44
          · rw [if_pos hx] at h ⊢
            obtain ⟨new', h1, h2⟩ := Option.map_eq_some_iff.1 h
            rw [segRP n (m + 1) t new' h1, Option.map_some, h2]
          · rw [if_neg hx] at h ⊢
            exact h
theorem segPR : ∀ (n m : Nat) (rest : List UInt8) (new : List Lb), segP n m rest = some new → (∀ y ∈ new, nmOk y.name = true) → segR n m rest = some new
  | 0, m, rest, new, h, _ => by cases h
  | n + 1, m, rest, new, h, hok => by
    rw [segP] at h
    obtain ⟨⟨k, r, fd⟩, hc⟩ : ∃ c, c = Lib.cut rest [61, 34] := ⟨_, rfl⟩
    rw [← hc] at h
    cases fd with
    | false => cases h
    | true =>
      simp only [Bool.true_eq_false, if_false] at h
      cases hqu : quo r with
      | none => rw [hqu] at h; cases h
      | some p =>
        rw [hqu] at h
        obtain ⟨a, t⟩ := p
        cases t with
        | nil => cases h
        | cons x t =>
          simp only at h
          by_cases h4 : m = 4
          · rw [if_pos h4] at h; cases h
          rw [if_neg h4] at h
          have hhead : ∃ tl, new = ⟨mkS k, mkS a⟩ :: tl := by
            by_cases hx : x = 44
            · rw [if_pos hx] at h
              obtain ⟨new', h1, h2⟩ := Option.map_eq_some_iff.1 h
              exact ⟨new', h2.symm⟩
            · rw [if_neg hx] at h
              split at h
              · exact ⟨[], (Option.some.inj h).symm⟩
              · cases h
          obtain ⟨tl, rfl⟩ := hhead
          have hnm := hok _ (List.mem_cons_self ..)
          have hno : ∀ y ∈ k, y ≠ 61 := nm_no (s := mkS k) hnm (.inl (by decide))
          have hs := cut_true hc.symm
          have hs' : rest = k ++ 61 :: (34 :: r) := by rw [hs]; simp
          have hf : fAt rest 61 = k.length := by rw [hs']; exact fAt_at hno
          have htk : rest.take (fAt rest 61) = k := by rw [hf, hs', List.take_left]
          have hdr : rest.drop (fAt rest 61 + 1) = 34 :: r := by rw [hf, hs', ← List.drop_drop, List.drop_left]; rfl
          rw [segR, hdr, htk]
          simp only [ne_eq, not_true_eq_false, if_false, if_neg h4, hqu]
          by_cases hx : x = 44
          · rw [if_pos hx] at h ⊢
            obtain ⟨new', h1, h2⟩ := Option.map_eq_some_iff.1 h
            obtain rfl : new' = tl := by injection h2
            rw [segPR n (m + 1) t new' h1 (fun y hy => hok y (List.mem_cons_of_mem _ hy))]
            rfl
          · rw [if_neg hx] at h ⊢
            exact h
theorem ok_names {nm : ByteArray} {new : List Lb} (h : serOk ⟨nm, sortLb new⟩ = true) : ∀ y ∈ new, nmOk y.name = true := by
  intro y hy
  have hy' := (sortLb_perm new).mem_iff.2 hy
  obtain ⟨i, hi, rfl⟩ := List.mem_iff_getElem.1 hy'
  have := (lbOk_parts ((serOk_parts h).2.2 i hi)).1
  rwa [show (Ser.mk nm (sortLb new)).labels = sortLb new from rfl, getD_get hi] at this
theorem parse_same (s : ByteArray) : parS s = refS s := by
  have hcut : Lib.cut (bs s) [123] = ((bs s).take (fAt (bs s) 123), (bs s).drop (fAt (bs s) 123 + 1), decide (fAt (bs s) 123 < (bs s).length)) := by
    by_cases h : fAt (bs s) 123 < (bs s).length
    · have hsp := fAt_split h
      have := cut_at (p := (bs s).take (fAt (bs s) 123)) (r := (bs s).drop (fAt (bs s) 123 + 1)) (sep := [123]) rfl fAt_no
      rw [decide_eq_true h, ← this]
      congr 1
    · have hl : (bs s).take (fAt (bs s) 123) = bs s := List.take_of_length_le (by omega)
      have := cut_no (p := bs s) (sep := [123]) rfl (by have := fAt_no (l := bs s) (c := 123); rwa [hl] at this)
      rw [decide_eq_false h, this, hl, List.drop_eq_nil_of_le (by omega)]
  unfold parS refS parAll refAll
  rw [hcut]
  obtain ⟨nm, hnm⟩ : ∃ nm, nm = mkS ((bs s).take (fAt (bs s) 123)) := ⟨_, rfl⟩
  simp only [← hnm, decide_eq_true_eq]
  by_cases h : fAt (bs s) 123 < (bs s).length
  case neg => rw [if_neg h, if_neg h]; rfl
  rw [if_pos h, if_pos h, parG_seg, refG_seg]
  obtain ⟨rest, hrest⟩ : ∃ r, r = (bs s).drop (fAt (bs s) 123 + 1) := ⟨_, rfl⟩
  rw [← hrest, List.length_nil]
  cases hR : segR 5 0 rest with
  | some new =>
    rw [segRP 5 0 rest new hR]
    simp only [Option.map_some, Option.bind_some, List.nil_append]
    by_cases hk : serOk ⟨nm, sortLb new⟩ = true ∨ serOk ⟨nm, new.foldl insLb []⟩ = true
    · rw [ok_same nm new hk]
    · rw [if_neg (fun e => hk (.inl e)), if_neg (fun e => hk (.inr e))]
  | none =>
    cases hP : segP 5 0 rest with
    | none => rfl
    | some new =>
      simp only [Option.map_some, Option.map_none, Option.bind_some, Option.bind_none, List.nil_append]
      rw [if_neg]
      intro hk
      have := segPR 5 0 rest new hP (ok_names hk)
      rw [this] at hR
      cases hR
theorem parS_ok {s : ByteArray} {x : Ser} (h : parS s = some x) : serOk x = true := by
  unfold parS at h
  obtain ⟨ls, _, h2⟩ := Option.bind_eq_some_iff.1 h
  split at h2
  · rename_i hk
    cases h2
    exact hk
  · cases h2
set_option maxRecDepth 20000 in
theorem LabelParses_rc (s : ByteArray) (hs : s.size ≤ 140737488355328) (M : List Blk) : CallR Try.prog M n_windroselaw03_LabelParses [.s s] (.b true) M := by
  refine callP F_windroselaw03_LabelParses (Nat.le_of_ble_eq_true rfl) (by simp only [go_sem]) (by simp only [go_sem]) ?_ M
  simp only [c_windroselaw03_LabelParses, go_sem]
  refine ⟨fun _ => ?_, fun hl => ?_⟩
  · refine call0 awake_rc ?_
    simp only [go_sem]
  have hs2 : s.size ≤ 2000 := by omega
  have hp := Parse_rc s (by omega)
  have hr := rParse_rc s hs2
  rw [refR, ← parse_same] at hr
  rw [parR] at hp
  cases hx : parS s with
  | none =>
    rw [hx] at hp hr
    refine call0 hp ?_
    simp only [go_sem]
    refine call0 hr ?_
    simp only [go_sem]
    refine callg0 (r := .b true) (fun _ M => ((rSame_rc ⟨mkS [], []⟩ ⟨mkS [], []⟩ ⟨by unfold zS; exact Nat.zero_le _, Nat.zero_le _, fun i hi => absurd hi (Nat.not_lt_zero _)⟩ M).sub ⟨SubP.refl _, sub_zero, trivial⟩)) ?_
    simp only [go_sem]
    refine callg0 (fun _ => awake_rc) ?_
    simp only [go_sem]
  | some x =>
    rw [hx] at hp hr
    refine call0 hp ?_
    simp only [go_sem]
    refine call0 hr ?_
    simp only [go_sem]
    refine callg0 (fun _ => rSame_rc x x (ok_zSer (parS_ok hx))) ?_
    simp only [go_sem]
    refine callg0 (fun _ => awake_rc) ?_
    simp only [go_sem]
end Go.Proofs.Ytioefecijidgkaa.A
