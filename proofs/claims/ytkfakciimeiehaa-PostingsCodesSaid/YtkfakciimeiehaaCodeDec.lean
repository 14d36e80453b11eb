/- Layer 19: which list data are: the program's Decode and the document's tell the same. -/
import Derived.Test.YtkfakciimeiehaaCodeEnc
set_option linter.unusedVariables false
set_option linter.unusedSimpArgs false
namespace Go.Proofs.Ytkfakciimeiehaa.CodeBase
open Go Go.RowKit Go.Proofs.YtkfakciimeiehaaW.PrintWords Go.Proofs.YtkfakciimeiehaaW.PrintLast Go.Proofs.YtkfakciimeiehaaW.PrintMore Go.Proofs.YtkfakciimeiehaaLim Go.Proofs.YtkfakciimeiehaaAid Go.Proofs.Ytkfakciimeiehaa.PostBase
open Go.Proofs.Ytkfakciimeiehaa.PCode

theorem equal_loop (a b : List Int) (hl : a.length = b.length) (hb : a.length ≤ 9223372036854775807) : ∀ (s t : List Int) (i : Nat), a.drop i = s → b.drop i = t → slices_Equal_int_int.l0L a b (a.length : Int) (i : Int) = some (decide (s = t)) := by
  intro s
  induction s with
  | nil =>
    intro t i hs ht
    have h1 := drop_nil hs
    have : t = [] := by rw [← ht]; exact List.drop_eq_nil_of_le (by omega)
    subst this
    rw [slices_Equal_int_int.l0L_eq, if_neg (by omega)]
    simp
  | cons x s ih =>
    intro t i hs ht
    have hlt := (drop_cons hs).1
    cases t with
    | nil => have := drop_nil ht; omega
    | cons y t =>
      rw [slices_Equal_int_int.l0L_eq, if_pos (by omega), if_pos (by omega), if_pos (by omega), if_pos (by omega), rd_drop hs, rd_drop ht, w64_succ hlt hb]
      by_cases e : x = y
      · rw [if_pos e, ih t (i + 1) (drop_cons hs).2.1 (drop_cons ht).2.1]
        simp [e]
      · rw [if_neg e]
        simp [e]
theorem equal19 (a b : List Int) (hb : a.length ≤ 9223372036854775807) : slices_Equal_int_int.fL a b = some (decide (a = b)) := by
  rw [slices_Equal_int_int.fL_eq]
  by_cases hl : a.length = b.length
  · rw [if_pos (by omega)]
    exact equal_loop a b hl hb a b 0 rfl rfl
  · rw [if_neg (by omega), decide_eq_false (fun e => hl (congrArg List.length e))]
theorem strings_nil (b : List ByteArray) : windroseref02_Strings.fL [] b = some (decide (b = [])) := by
  rw [windroseref02_Strings.fL_eq]
  cases b with
  | nil =>
    rw [if_pos rfl, windroseref02_Strings.l0L_eq, if_neg (by simp)]
    rfl
  | cons x b =>
    rw [if_neg (by simp; omega)]
    rfl
theorem same_nil (a b : List Int) (bt : List ByteArray) (ha : a.length ≤ 9223372036854775807) : windroseref02_Same.fL a [] b bt = some (decide (a = b ∧ bt = [])) := by
  rw [windroseref02_Same.fL_eq, ints a b ha, Option.bind_some]
  by_cases h : a = b
  · rw [if_pos (by simpa using h), strings_nil, Option.bind_some]
    simp [h]
  · rw [if_neg (by simpa using h)]
    simp [h]

/-- Numbers, one by one, behind one. -/
def upP (x : Int) : Nat → List Int
  | 0 => []
  | m + 1 => (x + 1) :: upP (x + 1) m
theorem upP_len : ∀ (m : Nat) (x : Int), (upP x m).length = m
  | 0, _ => rfl
  | m + 1, x => by simp [upP, upP_len m]
theorem upP_run : ∀ (t : List Int) (x : Int), upP x (runP x t) = t.take (runP x t)
  | [], x => by simp [runP, upP]
  | y :: t, x => by
    unfold runP
    split
    · rename_i e
      rw [List.take_succ_cons, ← upP_run t y, upP, e]
    · rfl

/-! ### the program's -/
def decP (os : List Int) (last : Int) : List Int → Option (List Int)
  | [] => some os
  | n :: t => if n > 2147483647 ∨ n < -4096 then none else
      if 0 ≤ n then (if os.length + 1 > 4096 then none else decP (os ++ [last + n + 1]) (last + n + 1) t)
      else (if os.length + (-n - 1).toNat > 4096 then none else decP (os ++ upP last (-n - 1).toNat) (last + (-n - 1)) t)
def endP (nums x : List Int) : List Int × Int := if soundB x = true ∧ (x.length : Int) :: encP (-1) x = nums then (x, 0) else ([], 2)
theorem encP_len : ∀ (N : Nat) (p : Int) (t : List Int), t.length ≤ N → (encP p t).length ≤ t.length := by
  intro N
  induction N with
  | zero =>
    intro p t h
    obtain rfl : t = [] := List.eq_nil_of_length_eq_zero (by omega)
    simp [encP]
  | succ N ih =>
    intro p t h
    cases t with
    | nil => simp [encP]
    | cons x t =>
      simp only [List.length_cons] at h
      rw [encP]
      split
      · have := ih x t (by omega)
        simp only [List.length_cons]
        omega
      · have := ih (x + runP x t) (t.drop (runP x t)) (by rw [List.length_drop]; omega)
        have := runP_le x t
        rw [List.length_drop] at *
        simp only [List.length_cons]
        omega
theorem prog_end (nums x : List Int) (hx : x.length ≤ 4096) : ((postings_Encode.fL x).bind fun bt205 => (if bt205.2.2 = 0 then ((slices_Equal_int_int.fL bt205.1 nums).bind fun t213 => (if t213 = true then (some (x, 0)) else (some (([] : List Int), (2 : Int))))) else (some (([] : List Int), 2)))) = some (endP nums x) := by
  have := encP_len x.length (-1) x (Nat.le_refl _)
  rw [encode19, Option.bind_some]
  unfold endP
  by_cases h : soundB x = true
  · rw [if_pos h, if_pos rfl, equal19 _ _ (by simp; omega), Option.bind_some]
    by_cases e : (x.length : Int) :: encP (-1) x = nums
    · rw [if_pos (by simpa using e), if_pos ⟨h, e⟩]
    · rw [if_neg (by simpa using e), if_neg (fun g => e g.2)]
  · rw [if_neg h, if_neg (show ¬ ((1 : Int) = 0) by decide), if_neg (fun g => h g.1)]
theorem dec_in (ys nums : List Int) (tx : List ByteArray) (n : Int) (i : Nat) (hi : i < 10000) : ∀ (m : Nat) (os : List Int) (last M k : Int), 0 ≤ k → M - k = m → M ≤ 10000 → os.length + m ≤ 20000 → -1 ≤ last → last + m ≤ 100000000000000 →
    postings_Decode.l1L os last ys n (i : Int) M k nums tx = if os.length + m > 4096 then some ([], 2) else postings_Decode.l0L (os ++ upP last m) (last + m) ys n ((i + 1 : Nat) : Int) nums tx := by
  intro m
  induction m with
  | zero =>
    intro os last M k hk hm hM ho h0 h1
    rw [postings_Decode.l1L_eq, if_neg (by omega), w64_succ hi (by omega)]
    by_cases c : os.length > 4096
    · rw [if_pos (by omega), if_pos (by omega)]
    · rw [if_neg (by omega), if_neg (by omega)]
      simp [upP]
  | succ m ih =>
    intro os last M k hk hm hM ho h0 h1
    rw [postings_Decode.l1L_eq, if_pos (by omega), if_pos (by omega), w64 (x := last + 1) (by omega) (by omega), w64 (x := k + 1) (by omega) (by omega), ih (os ++ [last + 1]) (last + 1) M (k + 1) (by omega) (by omega) hM (by simp; omega) (by omega) (by omega), List.length_append, List.length_singleton, show os.length + 1 + m = os.length + (m + 1) by omega, show last + 1 + (m : Int) = last + ((m + 1 : Nat) : Int) by omega, List.append_assoc]
    rfl
theorem dec_loop (ys nums : List Int) (tx : List ByteArray) (hy : ys.length ≤ 5000) : ∀ (t : List Int) (i : Nat) (os : List Int) (last : Int), ys.drop i = t → i ≤ ys.length → os.length ≤ 4096 → -1 ≤ last → last ≤ i * 8589934592 →
    postings_Decode.l0L os last ys (ys.length : Int) (i : Int) nums tx = some (match decP os last t with | none => ([], 2) | some x => endP nums x) := by
  intro t
  induction t with
  | nil =>
    intro i os last h hi ho h0 h1
    have := drop_nil h
    rw [postings_Decode.l0L_eq, if_neg (by omega)]
    exact prog_end nums os ho
  | cons n t ih =>
    intro i os last h hi ho h0 h1
    obtain ⟨hlt, hd, _, _⟩ := drop_cons h
    rw [postings_Decode.l0L_eq, if_pos (by omega), if_pos (by omega), if_pos (by omega), rd_drop h]
    unfold decP
    by_cases c1 : n > 2147483647
    · rw [if_pos c1, postings_Decode.j2L_eq, if_pos rfl, if_pos (Or.inl c1)]
    rw [if_neg c1]
    by_cases c2 : n < -4096
    · rw [decide_eq_true c2, postings_Decode.j2L_eq, if_pos rfl, if_pos (Or.inr c2)]
    have hno : ¬ (n > 2147483647 ∨ n < -4096) := by omega
    rw [decide_eq_false c2, postings_Decode.j2L_eq, if_neg (by simp), if_neg hno]
    by_cases c3 : 0 ≤ n
    · rw [if_pos (by omega), if_pos c3, postings_Decode.j3L_eq, w64 (x := last + n) (by omega) (by omega), dec_in ys nums tx _ i (by omega) 1 os (last + n) 1 0 (by omega) (by omega) (by omega) (by omega) (by omega) (by omega)]
      by_cases c4 : os.length + 1 > 4096
      · rw [if_pos c4, if_pos c4]
      · rw [if_neg c4, if_neg c4]
        exact ih (i + 1) _ _ hd (by omega) (by rw [List.length_append, upP_len]; omega) (by omega) (by omega)
    · rw [if_neg (by omega), if_neg c3, postings_Decode.j3L_eq, w64 (x := -n) (by omega) (by omega), w64 (x := -n - 1) (by omega) (by omega), dec_in ys nums tx _ i (by omega) (-n - 1).toNat os last (-n - 1) 0 (by omega) (by omega) (by omega) (by omega) (by omega) (by omega)]
      by_cases c4 : os.length + (-n - 1).toNat > 4096
      · rw [if_pos c4, if_pos c4]
      · rw [if_neg c4, if_neg c4, show last + (((-n - 1).toNat : Nat) : Int) = last + (-n - 1) by omega]
        exact ih (i + 1) _ _ hd (by omega) (by rw [List.length_append, upP_len]; omega) (by omega) (by omega)
/-- What the program reads. -/
def readP (nums : List Int) (tx : List ByteArray) : List Int × Int :=
  match nums with
  | [] => ([], 2)
  | h :: t => if tx ≠ [] ∨ h < 0 ∨ h > 4096 ∨ t.length > 4096 then ([], 2) else match decP [] (-1) t with | none => ([], 2) | some x => endP nums x
theorem readP_cons (h : Int) (t : List Int) (tx : List ByteArray) : readP (h :: t) tx = if tx ≠ [] ∨ h < 0 ∨ h > 4096 ∨ t.length > 4096 then ([], 2) else match decP [] (-1) t with | none => ([], 2) | some x => endP (h :: t) x := rfl
theorem decode19 (nums : List Int) (tx : List ByteArray) (hn : nums.length ≤ 5000) : postings_Decode.fL nums tx = some (readP nums tx) := by
  have out : postings_Decode.j0L true nums tx = some ([], 2) := by rw [postings_Decode.j0L_eq, if_pos rfl]
  rw [postings_Decode.fL_eq]
  cases nums with
  | nil => rw [if_pos (by simp), out]; rfl
  | cons h t =>
    simp only [List.length_cons] at hn
    rw [if_neg (show ¬ (((h :: t).length : Int) = 0) by simp only [List.length_cons]; omega), readP_cons]
    by_cases c1 : tx = []
    · subst c1
      rw [if_neg (show ¬ ((([] : List ByteArray).length : Int) > 0) by simp), if_pos (show (0 : Int) < ((h :: t).length : Int) by simp only [List.length_cons]; omega), rd_zero]
      by_cases c2 : h < 0
      · rw [if_pos c2, out, if_pos (.inr (.inl c2))]
      rw [if_neg c2]
      by_cases c3 : h > 4096
      · rw [if_pos c3, out, if_pos (.inr (.inr (.inl c3)))]
      rw [if_neg c3]
      by_cases c4 : t.length > 4096
      · rw [decide_eq_true (show ((h :: t).length : Int) > 4097 by simp only [List.length_cons]; omega), out, if_pos (.inr (.inr (.inr c4)))]
      have hno : ¬ (([] : List ByteArray) ≠ [] ∨ h < 0 ∨ h > 4096 ∨ t.length > 4096) := by rintro (g | g); exact g rfl; omega
      rw [decide_eq_false (show ¬ (((h :: t).length : Int) > 4097) by simp only [List.length_cons]; omega), if_neg hno, postings_Decode.j0L_eq, if_neg (by simp), if_pos (show (1 : Int) ≤ ((h :: t).length : Int) by simp only [List.length_cons]; omega), Option.bind_some, show (h :: t).drop 1 = t from rfl]
      exact dec_loop t (h :: t) [] (by omega) t 0 [] (-1) rfl (by omega) (by simp) (by omega) (by omega)
    · have : 0 < tx.length := List.length_pos_iff.2 c1
      rw [if_pos (by omega), out, if_pos (Or.inl c1)]
where rd_zero {x : Int} {t : List Int} : rd (x :: t) 0 = x := rfl

/-! ### the document's -/
def decR (os : List Int) (at_ : Int) : List Int → Option (List Int)
  | [] => some os
  | n :: t => if n > 2147483648 ∨ n < -5000 ∨ os.length > 4096 then none else
      if 0 ≤ n then decR (os ++ [at_ + n]) (at_ + n + 1) t
      else decR (os ++ upP (at_ - 1) (-n - 1).toNat) (at_ + (-n - 1)) t
def endR (nums : List Int) (tx : List ByteArray) (x : List Int) : List Int × Bool := if soundB x = true ∧ (x.length : Int) :: encP (-1) x = nums ∧ tx = [] then (x, true) else ([], false)
def readR (nums : List Int) (tx : List ByteArray) : List Int × Bool := match decR [] 0 (nums.drop 1) with | none => ([], false) | some x => endR nums tx x
/-! ### what was told is read back -/
theorem ok_drop : ∀ (t : List Int) (x : Int), okFrom x t = true → okFrom (x + runP x t) (t.drop (runP x t)) = true
  | [], x, _ => by simp [runP, okFrom]
  | y :: t, x, h => by
    unfold runP
    split
    · rename_i e
      simp only [okFrom, Bool.and_eq_true, decide_eq_true_eq] at h
      rw [List.drop_succ_cons, show x + ((runP y t + 1 : Nat) : Int) = y + runP y t by omega]
      exact ok_drop t y h.2.2
    · simpa using h
theorem dec_back : ∀ (N : Nat) (t : List Int) (p : Int) (os : List Int), t.length ≤ N → okFrom p t = true → -1 ≤ p → os.length + t.length ≤ 4096 → decP os p (encP p t) = some (os ++ t) ∧ decR os (p + 1) (encP p t) = some (os ++ t) := by
  intro N
  induction N with
  | zero =>
    intro t p os h hk hp ho
    obtain rfl : t = [] := List.eq_nil_of_length_eq_zero (by omega)
    rw [encP]
    simp [decP, decR]
  | succ N ih =>
    intro t p os h hk hp ho
    cases t with
    | nil =>
      rw [encP]
      simp [decP, decR]
    | cons x t =>
      simp only [List.length_cons] at h ho
      have hk' := hk
      simp only [okFrom, Bool.and_eq_true, decide_eq_true_eq] at hk'
      obtain ⟨k1, k2, k3⟩ := hk'
      have e1 : p + (x - (p + 1)) + 1 = x := by omega
      have e2 : p + 1 + (x - (p + 1)) = x := by omega
      have A : ∀ r, decP os p ((x - (p + 1)) :: r) = decP (os ++ [x]) x r := by
        intro r
        conv => lhs; unfold decP
        rw [if_neg (by omega), if_pos (by omega), if_neg (by omega), e1]
      have B : ∀ r, decR os (p + 1) ((x - (p + 1)) :: r) = decR (os ++ [x]) (x + 1) r := by
        intro r
        conv => lhs; unfold decR
        rw [if_neg (by omega), if_pos (by omega), e2]
      rw [encP, A, B]
      by_cases c : runP x t < 2
      · rw [if_pos c]
        obtain ⟨g1, g2⟩ := ih t x (os ++ [x]) (by omega) k3 (by omega) (by simp; omega)
        rw [g1, g2]
        simp
      · rw [if_neg c]
        have hrl := runP_le x t
        have e3 : (-(-((runP x t : Int) + 1)) - 1).toNat = runP x t := by omega
        have e4 : (-(-((runP x t : Int) + 1)) - 1) = (runP x t : Int) := by omega
        have e5 : x + 1 - 1 = x := by omega
        have e6 : x + (runP x t : Int) + 1 = x + 1 + (runP x t : Int) := by omega
        have C : ∀ s, decP (os ++ [x]) x (-((runP x t : Int) + 1) :: s) = decP (os ++ [x] ++ t.take (runP x t)) (x + runP x t) s := by
          intro s
          conv => lhs; unfold decP
          rw [if_neg (by omega), if_neg (by omega), e3, if_neg (by simp; omega), e4, upP_run]
        have D : ∀ s, decR (os ++ [x]) (x + 1) (-((runP x t : Int) + 1) :: s) = decR (os ++ [x] ++ t.take (runP x t)) (x + runP x t + 1) s := by
          intro s
          conv => lhs; unfold decR
          rw [if_neg (by simp; omega), if_neg (by omega), e3, e4, e5, upP_run, e6]
        obtain ⟨g1, g2⟩ := ih (t.drop (runP x t)) (x + runP x t) (os ++ [x] ++ t.take (runP x t)) (by rw [List.length_drop]; omega) (ok_drop t x k3) (by omega) (by simp; omega)
        rw [C, D, g1, g2]
        simp
/-- What a list is told as. -/
def Tells (nums : List Int) (tx : List ByteArray) (x : List Int) : Prop := soundB x = true ∧ (x.length : Int) :: encP (-1) x = nums ∧ tx = []
theorem tells_read {nums : List Int} {tx : List ByteArray} {x : List Int} (h : Tells nums tx x) : readP nums tx = (x, 0) ∧ readR nums tx = (x, true) := by
  obtain ⟨h1, h2, h3⟩ := h
  subst h3
  have h1' := h1
  simp only [soundB, Bool.and_eq_true, decide_eq_true_eq] at h1'
  have hl := encP_len x.length (-1) x (Nat.le_refl _)
  obtain ⟨g1, g2⟩ := dec_back x.length x (-1) [] (Nat.le_refl _) h1'.2 (by omega) (by simp; omega)
  rw [List.nil_append] at g1 g2
  rw [show (-1 : Int) + 1 = 0 from rfl] at g2
  subst h2
  constructor
  · have hno : ¬ (([] : List ByteArray) ≠ [] ∨ (x.length : Int) < 0 ∨ (x.length : Int) > 4096 ∨ (encP (-1) x).length > 4096) := by rintro (g | g); exact g rfl; omega
    rw [readP_cons, if_neg hno, g1]
    show endP _ x = _
    unfold endP
    rw [if_pos ⟨h1, rfl⟩]
  · unfold readR
    rw [show ((x.length : Int) :: encP (-1) x).drop 1 = encP (-1) x from rfl, g2]
    show endR _ _ x = _
    unfold endR
    rw [if_pos ⟨h1, rfl, rfl⟩]
theorem read_prog (nums : List Int) (tx : List ByteArray) : readP nums tx = ([], 2) ∨ ∃ x, Tells nums tx x := by
  unfold readP
  cases nums with
  | nil => exact .inl rfl
  | cons h t =>
    dsimp only
    by_cases c : tx ≠ [] ∨ h < 0 ∨ h > 4096 ∨ t.length > 4096
    · rw [if_pos c]
      exact .inl rfl
    · rw [if_neg c]
      cases decP [] (-1) t with
      | none => exact .inl rfl
      | some x =>
        show endP _ x = _ ∨ _
        unfold endP
        by_cases d : soundB x = true ∧ (x.length : Int) :: encP (-1) x = h :: t
        · exact .inr ⟨x, d.1, d.2, by
            by_cases e : tx = []
            · exact e
            · exact absurd (.inl e) c⟩
        · rw [if_neg d]
          exact .inl rfl
theorem read_ref (nums : List Int) (tx : List ByteArray) : readR nums tx = ([], false) ∨ ∃ x, Tells nums tx x := by
  unfold readR
  cases decR [] 0 (nums.drop 1) with
  | none => exact .inl rfl
  | some x =>
    show endR _ _ x = _ ∨ _
    unfold endR
    by_cases d : soundB x = true ∧ (x.length : Int) :: encP (-1) x = nums ∧ tx = []
    · exact .inr ⟨x, d⟩
    · rw [if_neg d]
      exact .inl rfl
end Go.Proofs.Ytkfakciimeiehaa.CodeBase
