/- Part 4 of the texts on which the row stands: AbsEl, AbsEq, AbsDel, AbsMe. Conditions: none. -/
import Derived.Test.YtcmkhlfjcdchmaaGreatShpc
set_option linter.unusedVariables false
set_option linter.unusedSimpArgs false
section
namespace Go.Proofs.YtcmkhlfjcdchmaaGreatAbs
open Go Go.RowKit
attribute [go_sem] Option.isNone_none Option.isNone_some Bool.and_false Bool.false_and Bool.true_and Bool.and_true Bool.or_false Bool.false_or Bool.true_or Bool.or_true Bool.not_true Bool.not_false Bool.false_eq_true Bool.true_eq_false if_true if_false
@[go_sem] theorem bne_0 : ((0 : Int) != 0) = false := rfl
@[go_sem] theorem beq_0 : ((0 : Int) == 0) = true := rfl
@[go_sem] theorem bne_1 : ((1 : Int) != 0) = true := rfl
@[go_sem] theorem beq_1 : ((1 : Int) == 0) = false := rfl
@[go_sem] theorem eqz_1 : ((1 : Int) = 0) = False := eq_false (by decide)
@[go_sem] theorem bne_2 : ((2 : Int) != 0) = true := rfl
@[go_sem] theorem beq_2 : ((2 : Int) == 0) = false := rfl
@[go_sem] theorem eqz_2 : ((2 : Int) = 0) = False := eq_false (by decide)
@[go_sem] theorem bne_3 : ((3 : Int) != 0) = true := rfl
@[go_sem] theorem beq_3 : ((3 : Int) == 0) = false := rfl
@[go_sem] theorem eqz_3 : ((3 : Int) = 0) = False := eq_false (by decide)
@[go_sem] theorem bne_4 : ((4 : Int) != 0) = true := rfl
@[go_sem] theorem beq_4 : ((4 : Int) == 0) = false := rfl
@[go_sem] theorem eqz_4 : ((4 : Int) = 0) = False := eq_false (by decide)
@[go_sem] theorem bne_5 : ((5 : Int) != 0) = true := rfl
@[go_sem] theorem beq_5 : ((5 : Int) == 0) = false := rfl
@[go_sem] theorem eqz_5 : ((5 : Int) = 0) = False := eq_false (by decide)
@[go_sem] theorem bne_6 : ((6 : Int) != 0) = true := rfl
@[go_sem] theorem beq_6 : ((6 : Int) == 0) = false := rfl
@[go_sem] theorem eqz_6 : ((6 : Int) = 0) = False := eq_false (by decide)
@[go_sem] theorem bne_7 : ((7 : Int) != 0) = true := rfl
@[go_sem] theorem beq_7 : ((7 : Int) == 0) = false := rfl
@[go_sem] theorem eqz_7 : ((7 : Int) = 0) = False := eq_false (by decide)
@[go_sem] theorem bne_8 : ((8 : Int) != 0) = true := rfl
@[go_sem] theorem beq_8 : ((8 : Int) == 0) = false := rfl
@[go_sem] theorem eqz_8 : ((8 : Int) = 0) = False := eq_false (by decide)
@[go_sem] theorem bne_9 : ((9 : Int) != 0) = true := rfl
@[go_sem] theorem beq_9 : ((9 : Int) == 0) = false := rfl
@[go_sem] theorem eqz_9 : ((9 : Int) = 0) = False := eq_false (by decide)
@[go_sem] theorem bne_10 : ((10 : Int) != 0) = true := rfl
@[go_sem] theorem beq_10 : ((10 : Int) == 0) = false := rfl
@[go_sem] theorem eqz_10 : ((10 : Int) = 0) = False := eq_false (by decide)
@[go_sem] theorem bne_11 : ((11 : Int) != 0) = true := rfl
@[go_sem] theorem beq_11 : ((11 : Int) == 0) = false := rfl
@[go_sem] theorem eqz_11 : ((11 : Int) = 0) = False := eq_false (by decide)
@[go_sem] theorem bne_12 : ((12 : Int) != 0) = true := rfl
@[go_sem] theorem beq_12 : ((12 : Int) == 0) = false := rfl
@[go_sem] theorem eqz_12 : ((12 : Int) = 0) = False := eq_false (by decide)
theorem gb {M : List Blk} {b : Nat} {X : Blk} (h : b < M.length) : (M.set b X)[b]? = some X := by rw [List.getElem?_set, if_pos rfl, if_pos h]
theorem gn {M : List Blk} {b c : Nat} {X : Blk} (h : b ≠ c) : (M.set b X)[c]? = M[c]? := by rw [List.getElem?_set, if_neg h]
theorem ga {M D : List Blk} {b : Nat} (h : b < M.length) : (M ++ D)[b]? = M[b]? := List.getElem?_append_left h
theorem gl {M : List Blk} {X : Blk} : (M ++ [X])[M.length]? = some X := by rw [List.getElem?_append_right (Nat.le_refl _), Nat.sub_self]; rfl
theorem sa {M D : List Blk} {b : Nat} {X : Blk} (h : b < M.length) : (M ++ D).set b X = M.set b X ++ D := List.set_append_left _ _ h
theorem gl2 {M : List Blk} {X Y : Blk} {b : Nat} : (M.set b Y ++ [X])[M.length]? = some X := by rw [List.getElem?_append_right (by simp), List.length_set, Nat.sub_self]; rfl
theorem set_last {M : List Blk} {X Y : Blk} : (M ++ [X]).set M.length Y = M ++ [Y] := by
  rw [List.set_append_right _ _ (Nat.le_refl _), Nat.sub_self]; rfl
theorem sl2 {M : List Blk} {X Y Z : Blk} {c : Nat} : (M.set c X ++ [Y]).set M.length Z = M.set c X ++ [Z] := by
  rw [List.set_append_right _ _ (by simp), List.length_set, Nat.sub_self]; rfl
theorem leS_of {s s' : SV} (h : s = s') : leS s s' := by rw [h, leS_self]; trivial
theorem ltA_up1 {n m : Nat} (hnm : n ≤ m) {a : AV} : ltA n a → ltA m a := by
  induction a with
  | c x => exact fun h => h
  | ptr b v i j => intro h; exact Nat.lt_of_lt_of_le h hnm
  | arr sz b v i j => intro h; exact Nat.lt_of_lt_of_le h hnm
  | ip m c => exact fun h => h
  | fn f k caps ih => exact fun h i hi => ih i (h i hi)
theorem ltB_up1 {n m : Nat} (hnm : n ≤ m) {x : Blk} (h : ltB n x) : ltB m x := by
  cases x with
  | dead => exact h
  | rows t sz v l f => exact fun r hr a ha => ltA_up1 hnm (h r hr a ha)
  | sit s p => exact h
theorem ltM_app {M D : List Blk} (h : ∀ x ∈ M, ltB M.length x) (hD : ∀ x ∈ D, ltB (M.length + D.length) x) : ∀ x ∈ M ++ D, ltB (M ++ D).length x := by
  intro x hx
  rw [List.length_append]
  rcases List.mem_append.1 hx with hx | hx
  · exact ltB_up1 (Nat.le_add_right _ _) (h x hx)
  · exact hD x hx
theorem ltM_set {M : List Blk} {b : Nat} {X : Blk} (h : ∀ x ∈ M, ltB M.length x) (hX : ltB M.length X) : ∀ x ∈ M.set b X, ltB (M.set b X).length x := by
  intro x hx
  rw [List.length_set]
  rcases List.mem_or_eq_of_mem_set hx with hx | rfl
  · exact h x hx
  · exact hX
section
variable {α : Type} [Inhabited α]
abbrev immL (sz : Nat) (c : α → Nat → CV) (l : List α) : CV := .imm sz l.length fun i j => c (l.getD i default) j
abbrev immP (sz : Nat) (c : α → Nat → CV) (l : List α) : Pt := .one (.c (immL sz c l))
def rowsL (sz : Nat) (c : α → Nat → CV) (l : List α) : List (List AV) := l.map fun x => cellsUp (c x) 0 sz
variable {sz : Nat} {c : α → Nat → CV}
@[go_sem] theorem rowsL_len (l : List α) : (rowsL sz c l).length = l.length := List.length_map ..
theorem cellsUp_ltA (n : Nat) (c : Nat → CV) (m k : Nat) : ∀ a ∈ cellsUp c k m, ltA n a := by
  have := lt_cellsUp n c m k; rw [this]; trivial
theorem rowsL_row {l : List α} : ∀ r ∈ rowsL sz c l, r.length = sz ∧ ∀ n, ∀ a ∈ r, ltA n a := by
  intro r hr
  obtain ⟨x, _, rfl⟩ := List.mem_map.1 hr
  exact ⟨cellsUp_length _ _ _, fun n => cellsUp_ltA n _ _ _⟩
theorem rowsL_ltB (n t v : Nat) (l : List α) (f : Bool) : ltB n (.rows t sz v (rowsL sz c l) f) := fun r hr => (rowsL_row r hr).2 n
theorem cellsUp_closed (c : Nat → CV) : ∀ (m k : Nat), ∀ a ∈ cellsUp c k m, ∃ x, a = .c x
  | 0, k, a, h => by cases h
  | m + 1, k, a, h => by
    rcases List.mem_cons.1 h with rfl | h
    · exact ⟨_, rfl⟩
    · exact cellsUp_closed c m (k + 1) a h
theorem rowsL_closed (l : List α) : closedRows (rowsL sz c l) := by
  intro r hr a ha
  obtain ⟨x, _, rfl⟩ := List.mem_map.1 hr
  exact cellsUp_closed _ _ _ a ha
theorem rowsL_getD {l : List α} {i : Nat} (h : i < l.length) : (rowsL sz c l).getD i [] = cellsUp (c (l.getD i default)) 0 sz := by
  rw [List.getD_eq_getElem?_getD, List.getD_eq_getElem?_getD, rowsL, List.getElem?_map, List.getElem?_eq_getElem h]; rfl
theorem rowsL_app (l m : List α) : rowsL sz c l ++ rowsL sz c m = rowsL sz c (l ++ m) := by rw [rowsL, rowsL, rowsL, List.map_append]
theorem rowsL_app1 (l : List α) (x : α) : rowsL sz c l ++ [cellsUp (c x) 0 sz] = rowsL sz c (l ++ [x]) := by rw [rowsL, rowsL, List.map_append]; rfl
theorem rowsL_ins (l : List α) (i : Nat) (x : α) : (rowsL sz c l).take i ++ cellsUp (c x) 0 sz :: (rowsL sz c l).drop i = rowsL sz c (l.take i ++ x :: l.drop i) := by
  rw [rowsL, rowsL, List.map_append, List.map_cons, List.map_take, List.map_drop]
theorem rowsL_set (l : List α) (i : Nat) (x : α) : (rowsL sz c l).set i (cellsUp (c x) 0 sz) = rowsL sz c (l.set i x) := by rw [rowsL, rowsL, List.map_set]
theorem rowsL_take (l : List α) (i : Nat) : (rowsL sz c l).take i = rowsL sz c (l.take i) := by rw [rowsL, rowsL, List.map_take]
theorem rowsL_drop (l : List α) (i : Nat) : (rowsL sz c l).drop i = rowsL sz c (l.drop i) := by rw [rowsL, rowsL, List.map_drop]
theorem rowsL_nil : rowsL sz c ([] : List α) = [] := rfl
theorem getD_cellsUp {c : Nat → CV} {m k j : Nat} (h : j < m) : (cellsUp c k m).getD j default = .c (c (k + j)) := by
  rw [List.getD_eq_getElem?_getD, cellsUp_get, if_pos h]; rfl
theorem rowsL_toC {l : List α} {i j : Nat} (hi : i < l.length) (hj : j < sz) : toC (((rowsL sz c l).getD i []).getD j default) = c (l.getD i default) j := by
  rw [rowsL_getD hi, getD_cellsUp hj, Nat.zero_add]; rfl
theorem imm_rowsL (l : List α) : immRows (fun i j => c (l.getD i default) j) sz l.length = rowsL sz c l := by
  unfold immRows rowsL
  refine List.ext_getElem (by simp) (fun i h1 h2 => ?_)
  simp at h2
  simp [List.getD_eq_getElem?_getD, List.getElem?_eq_getElem h2]
theorem imm_rowsL' (l : List α) : (List.map (fun i => cellsUp (fun j => c (l.getD i default) j) 0 sz) (List.range l.length)) = rowsL sz c l := imm_rowsL l
/-- Rows that nobody writes any more tell their list. -/
theorem frz_sub (l : List α) : SubA (.c (.imm sz l.length fun i j => toC (((rowsL sz c l).getD (0 + i) []).getD j default))) (.c (immL sz c l)) :=
  subA_imm fun i hi j hj => by rw [Nat.zero_add]; exact rowsL_toC hi hj
theorem frz_sub' (l : List α) : SubA (.c (.imm sz l.length fun i j => toC (((rowsL sz c l).getD i []).getD j default))) (.c (immL sz c l)) :=
  subA_imm fun i hi j hj => rowsL_toC hi hj
theorem nil_sub : SubA (.c (.v (.slice none 0 0))) (.c (immL sz c ([] : List α))) := subA_nil sz _
/-- Rows of one's own, lent to a reader. -/
theorem snapL (l : List α) {M : List Blk} {b v t : Nat} {f : Bool} (hb : M[b]? = some (.rows t sz v (rowsL sz c l) f)) : SnapP M (.one (.arr sz b v 0 l.length)) (immP sz c l) := by
  refine Snap.arr sz b v 0 l.length t (rowsL sz c l) f _ hb (by rw [rowsL_len]; omega) (fun i hi j hj => ?_)
  rw [Nat.zero_add, rowsL_getD hi, getD_cellsUp hj, Nat.zero_add]
  exact Snap.same _ trivial
theorem getD_set_self {l : List α} {i : Nat} {x : α} (h : i < l.length) : (l.set i x).getD i default = x := by
  rw [List.getD_eq_getElem?_getD, List.getElem?_set, if_pos rfl, if_pos h]; rfl
end
theorem getD_sub {α : Type} [Inhabited α] {l : List α} {a n i : Nat} (hi : i < n) : ((l.drop a).take n).getD i default = l.getD (a + i) default := by
  rw [List.getD_eq_getElem?_getD, List.getD_eq_getElem?_getD, List.getElem?_take, if_pos hi, List.getElem?_drop]
/-- A slice of a list nobody writes. -/
theorem le_slice {α : Type} [Inhabited α] {sz : Nat} {c : α → Nat → CV} {l : List α} {a n : Nat} (h : a + n ≤ l.length) : lePt (.one (.c (.imm sz n fun i j => c (l.getD (a + i) default) j))) (immP sz c ((l.drop a).take n)) := by
  rw [lePt_imm]
  refine ⟨by rw [List.length_take, List.length_drop]; omega, .inr ⟨rfl, fun i hi j hj => ?_⟩⟩
  show c _ _ = c _ _
  rw [getD_sub hi]
theorem runOps_append {P : Program} {d : Bool} {K : St → Prop} : ∀ {l l' : List OpL} {s : St}, runOps P d l s (fun s' => runOps P d l' s' K) → runOps P d (l ++ l') s K
  | [], l', s, h => h
  | o :: l, l', s, ⟨r, M', h1, h2⟩ => ⟨r, M', h1, runOps_append h2⟩
theorem ops_part {P : Program} {d : Bool} {ops : List OpL} {e : Nat → SV} {M : List Blk} {K : St → Prop} (k : Nat) (h : ev P d (ops.take k) e M (fun s' => Ops P d (ops.drop k) s'.env s'.M K)) : Ops P d ops e M K := by
  have := runOps_append (l' := ops.drop k) (K := K) (ev_sound h)
  rwa [List.take_append_drop] at this
theorem ops_end {P : Program} {d : Bool} {ops : List OpL} {e : Nat → SV} {M : List Blk} {K : St → Prop} (h : ev P d ops e M K) : Ops P d ops e M K := ev_sound h
theorem run_pt {P : Program} {n m : Nat} {d : Bool} {ops : List OpL} {c : C} {e : Nat → SV} {M : List Blk} {K : Exit → St → Prop} (k : Nat) (h : ev P d (ops.take k) e M (fun s' => Ops P d (ops.drop k) s'.env s'.M (fun s'' => Run P n m c s'' K))) : Run P n m (.seq (.reg d ops) c) ⟨e, M⟩ K :=
  run_rs (ops_part k h)
theorem run_join {P : Program} {n m : Nat} {c1 rest : C} {s : St} {K : Exit → St → Prop} (l : List (Nat × SV)) (M' : List Blk) (h1 : Run P n m c1 s (fun ex s' => ex = .normal ∧ Into m s' l M')) (h2 : Run P n m rest ⟨envL l, M'⟩ K) : Run P n m (.seq c1 rest) s K := by
  refine run_seq (run_mono (fun ex s' h => ?_) h1)
  obtain ⟨rfl, h⟩ := h
  exact run_gh h.gh h2
/-- A function whose result is closed, whatever it has written of its own. -/
theorem callPG {P : Program} {n : Nat} {f : Nat} {c : C} {rvs : List RV} {ps : List Pt} {r : SV} (hF : Fun P f n c rvs) (hl : ps.length ≤ n) (hps : ∀ q ∈ ps, ltP 0 q) (h : Run P n 0 c ⟨envOf 0 ps, []⟩ (FinK n 0 rvs r [])) (M : List Blk) : CallR P M f ps r M :=
  callR_pure (callR_intro (M' := []) hF hl h) hps M
theorem finQ {n : Nat} {rvs : List RV} {r : SV} {s s1 : St} {ex : Exit} (hex : ex = .normal ∨ ex = .ret) (h : Gh n 0 s s1) {qs : List Pt} {cnd : Prop} (h1 : resL s1.env s1.M rvs = some (qs, cnd)) (h2 : cnd) (h4 : SubS (mkRes qs) r) (h6 : ltS 0 r) : FinK n 0 rvs r [] ex s := by
  have h : Fin n 0 rvs r [] s := ⟨s1, s1.M, qs, cnd, h, h1, h2, rfl, h4, Nat.le_refl _, h6, fun x hx => by simp at hx⟩
  rcases hex with rfl | rfl
  · exact h
  · exact h
/-- What is told of own memory and of what is not. -/
theorem fin0 {n : Nat} {rvs : List RV} {r : SV} {s : St} {ex : Exit} (hex : ex = .normal ∨ ex = .ret) {qs : List Pt} {cnd : Prop} (h1 : resL s.env s.M rvs = some (qs, cnd)) (h2 : cnd) (h4 : SubS (mkRes qs) r) (h6 : ltS 0 r) : FinK n 0 rvs r [] ex s := finQ hex (Gh.refl s) h1 h2 h4 h6
theorem callL {P : Program} {d : Bool} {dst : Option Nat} {os : List OpL} {K : St → Prop} {M : List Blk} {f : Nat} {ps ps' : List Pt} {r : SV} {e : Nat → SV} (h : CallR P [] f ps' r []) (hs : SnapL M ps ps') (hr : plainS r) (hK : ev P d os (put e dst r) M K) : Call1 P M f ps d dst os e K := ⟨r, M, callR_lend h hs hr, fun _ => rfl, ev_sound hK⟩
theorem callLg {P : Program} {d c : Bool} {dst : Option Nat} {os : List OpL} {K : St → Prop} {M : List Blk} {f : Nat} {ps ps' : List Pt} {r : SV} {e : Nat → SV} (h : c = true → CallR P [] f ps' r []) (hs : c = true → SnapL M ps ps') (hr : plainS r) (hK : ev P d os (put e dst (.g c r)) M K) : CallG P M c f ps d dst os e K := ⟨r, fun hc => callR_lend (h hc) (hs hc) hr, ev_sound hK⟩
theorem callS {P : Program} {d : Bool} {dst : Option Nat} {os : List OpL} {K : St → Prop} {M M' : List Blk} {f : Nat} {ps ps' : List Pt} {r : SV} {e : Nat → SV} (h : CallR P M f ps' r M') (hl : SubL ps ps') (hd : d = true → M' = M) (hK : ev P d os (put e dst r) M' K) : Call1 P M f ps d dst os e K := ⟨r, M', h.sub hl, hd, ev_sound hK⟩
section
variable {P : Program} {n m : Nat} {e : Nat → SV} {M : List Blk} {K : Exit → St → Prop}
theorem sub_slice0 (A : Option Addr) (cap sz : Nat) (c : Nat → Nat → CV) : SubS (.p (.one (.c (.v (.slice A 0 cap))))) (.p (.one (.c (.imm sz 0 c)))) := by
  rintro I σ y ⟨rfl, _⟩
  exact ⟨A, cap, rfl, Nat.zero_le _, .inl rfl⟩
theorem run_null {code : C} {i sz : Nat} {c : Nat → Nat → CV} (hi : e i = .p (.one (.c (.imm sz 0 c)))) (h : ∀ A cap, Run P n m code ⟨upd e i (.p (.one (.c (.v (.slice A 0 cap))))), M⟩ K) : Run P n m code ⟨e, M⟩ K := by
  intro co hc I0 σ0 M0 w0 a w hm0 hs
  obtain ⟨hI, σ, hev, he, h1, h2⟩ := hs
  have hi2 := he i
  rw [show (St.mk e M).env i = e i from rfl, hi] at hi2
  obtain ⟨A, cap, hy, _, _⟩ := hi2
  refine h A cap co hc I0 σ0 M0 w0 a w hm0 ⟨hI, σ, hev, fun j => ?_, h1, h2⟩
  show RelS hI σ (upd e i _ j) _
  unfold upd
  by_cases hj : j = i
  · subst hj
    rw [if_pos rfl]
    exact ⟨hy, rfl⟩
  · rw [if_neg hj]
    exact he j
end
/-- One slot told by weaker words. -/
theorem gh_sub {P : Program} {n m : Nat} {e : Nat → SV} {M : List Blk} (i : Nat) {s' : SV} (h : SubS (e i) s') : Gh n m ⟨e, M⟩ ⟨upd e i s', M⟩ := gh_env fun j => by
  unfold upd
  by_cases hj : j = i
  · subst hj; rw [if_pos rfl]; exact h
  · rw [if_neg hj]; exact SubS.refl _
def cloneC (t sz by_ : Nat) (z : List Value) : C :=
 (.seq (.reg false [⟨some 2, .mv (.k (.one (.c (.v (.slice none 0 0))))), none⟩])
 (.seq (.seq (.reg false [⟨some 3, .mv (.t 0), none⟩, ⟨some 4, .eqb false (.t 3) (.k (.one (.c (.v (.slice none 0 0))))), none⟩])
 (.cond (.t 4)
 (.seq (.reg false [⟨some 2, .mv (.k (.one (.c (.v (.slice none 0 0))))), none⟩])
 .ret)
 .skip))
 (.seq (.reg false [⟨some 5, .bsl t sz 0 z [], none⟩, ⟨some 6, .mv (.t 0), none⟩, ⟨some 7, .app t sz by_ z (.t 5) (.t 6), none⟩, ⟨some 2, .mv (.t 7), none⟩])
 .ret)))
section
variable {P : Program} {f t sz by_ : Nat} {z : List Value} {α : Type} [Inhabited α] {c : α → Nat → CV}
set_option maxRecDepth 20000 in
/-- A list cloned, as rows of one's own. -/
theorem cloneO_rc (hF : Fun P f 8 (cloneC t sz by_ z) [.t 2]) (l : List α) (hl : l.length * by_ ≤ 140737488355328) {M : List Blk} (hMB : ∀ x ∈ M, ltB M.length x) :
    CallR P M f [immP sz c l] (.p (.one (.arr sz M.length 1 0 l.length))) (M ++ [.rows t sz 1 (rowsL sz c l) false]) := by
  have hB : ∀ x ∈ M ++ [Blk.rows t sz 1 (rowsL sz c l) false], ltB (M ++ [Blk.rows t sz 1 (rowsL sz c l) false]).length x := ltM_app hMB (by simp only [List.mem_singleton, forall_eq]; exact rowsL_ltB _ _ _ _ _)
  refine callR_intro hF (by simp) ?_
  by_cases h0 : l.length = 0
  case neg =>
    refine V_sound ?_
    simp only [cloneC, go_sem, show 0 < l.length from by omega, gl, set_last, List.length_map, List.length_range, imm_rowsL']
    refine ⟨hl, fin_own (.inr rfl) (Gh.refl _) [] (cnd := True) rfl trivial (List.append_nil _).symm (leS_of rfl) ?_ ?_ hB⟩
    · rw [List.length_append]; omega
    · simp only [go_sem, List.length_append]
  obtain rfl : l = [] := List.eq_nil_of_length_eq_zero h0
  refine run_null (i := 0) rfl (fun A cap => ?_)
  cases A with
  | none =>
    refine V_sound ?_
    simp only [cloneC, go_sem]
    refine fin_own (.inr rfl) ((gh_born 2 t sz (by simp only [go_sem])).trans ((gh_trunc (b := M.length) 0 gl).trans (gh_move (b := M.length) (c := M.length) 2 0 0 (by rw [set_last]; exact gl) (by rw [set_last]; exact gl) (by simp only [go_sem])))) [] (cnd := True) rfl trivial ?_ ?_ ?_ ?_ hB
    · simp only [set_last, List.append_nil]; rfl
    · exact leS_of rfl
    · rw [List.length_append]; omega
    · simp only [go_sem, List.length_append]
  | some ad =>
    refine run_seqV ?_
    simp only [cloneC, go_sem]
    refine run_seqV ?_
    simp only [go_sem]
    refine run_gh (gh_sub (P := P) 0 (s' := .p (immP sz c ([] : List α))) ?_) ?_
    · simp only [go_sem]
      exact sub_slice0 _ _ _ _
    refine V_sound ?_
    simp only [go_sem, gl, set_last]
    refine ⟨by omega, fin_own (.inr rfl) (Gh.refl _) [] (cnd := True) rfl trivial ?_ (leS_of rfl) ?_ ?_ hB⟩
    · simp only [List.append_nil, List.range_zero, List.map_nil]; rfl
    · rw [List.length_append]; omega
    · simp only [go_sem, List.length_append]
set_option maxRecDepth 20000 in
/-- A list cloned, that nobody writes any more. -/
theorem clone_rc (hF : Fun P f 8 (cloneC t sz by_ z) [.t 2]) (l : List α) (hl : l.length * by_ ≤ 140737488355328) (M : List Blk) : CallR P M f [immP sz c l] (.p (immP sz c l)) M := by
  refine callPS hF (Nat.le_of_ble_eq_true rfl) (by simp only [go_sem]) (by simp only [go_sem]) ?_ M
  by_cases h0 : l.length = 0
  case neg =>
    refine run_seqV ?_
    simp only [cloneC, go_sem]
    refine run_seqV ?_
    simp only [go_sem, show 0 < l.length from by omega]
    refine run_seqV ?_
    simp only [go_sem, imm_rowsL', List.length_map, List.length_range]
    refine ⟨hl, run_gh (gh_freeze (b := 0) (l := rowsL sz c l) rfl (rowsL_closed l)) ?_⟩
    refine V_sound ?_
    simp only [go_sem, rowsL_len, Nat.le_refl]
    exact subS_p (subP_one (frz_sub' l))
  obtain rfl : l = [] := List.eq_nil_of_length_eq_zero h0
  refine run_null (i := 0) rfl (fun A cap => ?_)
  cases A with
  | none =>
    refine V_sound ?_
    simp only [cloneC, go_sem]
    exact subS_p (subP_one nil_sub)
  | some ad =>
    refine run_seqV ?_
    simp only [cloneC, go_sem]
    refine run_seqV ?_
    simp only [go_sem]
    refine run_gh (gh_sub (P := P) 0 (s' := .p (immP sz c ([] : List α))) ?_) ?_
    · simp only [go_sem]
      exact sub_slice0 _ _ _ _
    refine run_seqV ?_
    simp only [go_sem, List.range_zero]
    refine ⟨by omega, run_gh (gh_freeze (b := 0) (l := rowsL sz c ([] : List α)) rfl (rowsL_closed _)) ?_⟩
    refine V_sound ?_
    simp only [go_sem, rowsL_len, Nat.le_refl]
    exact subS_p (subP_one (frz_sub' ([] : List α)))
end
end Go.Proofs.YtcmkhlfjcdchmaaGreatAbs
end
section
namespace Go.Proofs.YtcmkhlfjcdchmaaGreatAbs
open Go Go.RowKit
def eqC (sz : Nat) (ks : List Nat) : C :=
 (.seq (.reg false [⟨some 4, .mv (kb false), none⟩])
 (.seq (.seq (.reg false [⟨some 6, .mv (.t 0), none⟩, ⟨some 7, .len (.t 6), none⟩, ⟨some 8, .mv (.t 1), none⟩, ⟨some 9, .len (.t 8), none⟩, ⟨some 10, .bin .neq (.t 7) (.t 9), none⟩])
 (.cond (.t 10)
 (.seq (.reg false [⟨some 4, .mv (kb false), none⟩])
 .ret)
 .skip))
 (.seq (.seq (.reg false [⟨some 11, .mv (.t 0), none⟩, ⟨some 12, .len (.t 11), none⟩, ⟨some 13, .mv (ki 0), none⟩])
 (.block 0 (.loop (.seq (.reg false [⟨some 14, .bin .lss (.t 13) (.t 12), none⟩])
 (.seq (.cond (.t 14)
 .skip
 (.exit 0))
 (.seq (.block 1 (.seq (.reg false [⟨some 15, .mv (.t 13), none⟩, ⟨some 5, .mv (.t 15), none⟩])
 (.seq (.reg true [⟨some 16, .mv (.t 0), none⟩, ⟨some 17, .mv (.t 5), none⟩, ⟨some 18, .ia sz (.t 16) (.t 17), none⟩, ⟨some 19, .ld true sz (.t 18), none⟩, ⟨some 20, .mv (.t 1), none⟩, ⟨some 21, .mv (.t 5), none⟩, ⟨some 22, .ia sz (.t 20) (.t 21), none⟩, ⟨some 23, .ld true sz (.t 22), none⟩, ⟨some 24, .eqa ks true (.t 19) (.t 23), none⟩])
 (.cond (.t 24)
 (.seq (.reg false [⟨some 4, .mv (kb false), none⟩])
 .ret)
 .skip))))
 (.reg false [⟨some 25, .bin .add (.t 13) (ki 1), none⟩, ⟨some 13, .mv (.t 25), none⟩])))))))
 (.seq (.reg false [⟨some 4, .mv (kb true), none⟩])
 .ret))))
def rsameC (sz : Nat) (ks : List Nat) : C :=
 (.seq (.reg false [⟨some 4, .mv (kb false), none⟩])
 (.seq (.seq (.reg false [⟨some 6, .mv (.t 0), none⟩, ⟨some 7, .len (.t 6), none⟩, ⟨some 8, .mv (.t 1), none⟩, ⟨some 9, .len (.t 8), none⟩, ⟨some 10, .bin .neq (.t 7) (.t 9), none⟩])
 (.cond (.t 10)
 (.seq (.reg false [⟨some 4, .mv (kb false), none⟩])
 .ret)
 .skip))
 (.seq (.seq (.reg false [⟨some 5, .mv (ki 0), none⟩])
 (.block 0 (.loop (.seq (.seq (.reg false [⟨some 11, .mv (.t 5), none⟩, ⟨some 12, .mv (.t 0), none⟩, ⟨some 13, .len (.t 12), none⟩, ⟨some 14, .bin .lss (.t 11) (.t 13), none⟩])
 (.cond (.t 14)
 .skip
 (.exit 0)))
 (.seq (.block 1 (.seq (.reg true [⟨some 17, .mv (.t 0), none⟩, ⟨some 18, .mv (.t 5), none⟩, ⟨some 19, .ia sz (.t 17) (.t 18), none⟩, ⟨some 20, .ld true sz (.t 19), none⟩, ⟨some 21, .mv (.t 1), none⟩, ⟨some 22, .mv (.t 5), none⟩, ⟨some 23, .ia sz (.t 21) (.t 22), none⟩, ⟨some 24, .ld true sz (.t 23), none⟩, ⟨some 25, .eqa ks true (.t 20) (.t 24), none⟩])
 (.cond (.t 25)
 (.seq (.reg false [⟨some 4, .mv (kb false), none⟩])
 .ret)
 .skip)))
 (.reg false [⟨some 15, .mv (.t 5), none⟩, ⟨some 16, .bin .add (.t 15) (ki 1), none⟩, ⟨some 5, .mv (.t 16), none⟩]))))))
 (.seq (.reg false [⟨some 4, .mv (kb true), none⟩])
 .ret))))
def eqfC (t sz : Nat) (z : List Value) : C :=
 (.seq (.reg false [⟨some 6, .mv (kb false), none⟩])
 (.seq (.seq (.reg false [⟨some 10, .mv (.t 0), none⟩, ⟨some 11, .len (.t 10), none⟩, ⟨some 12, .mv (.t 1), none⟩, ⟨some 13, .len (.t 12), none⟩, ⟨some 14, .bin .neq (.t 11) (.t 13), none⟩])
 (.cond (.t 14)
 (.seq (.reg false [⟨some 6, .mv (kb false), none⟩])
 .ret)
 .skip))
 (.seq (.seq (.reg false [⟨some 15, .mv (.t 0), none⟩, ⟨some 16, .len (.t 15), none⟩, ⟨some 17, .mv (ki 0), none⟩])
 (.block 0 (.loop (.seq (.reg false [⟨some 18, .bin .lss (.t 17) (.t 16), none⟩])
 (.seq (.cond (.t 18)
 .skip
 (.exit 0))
 (.seq (.block 1 (.seq (.reg false [⟨some 19, .mv (.t 17), none⟩, ⟨some 20, .ia sz (.t 15) (.t 17), none⟩, ⟨some 21, .ld true sz (.t 20), none⟩, ⟨some 8, .alloc t sz z, none⟩, ⟨some 7, .mv (.t 19), none⟩, ⟨none, .st sz (.t 8) (.t 21), none⟩])
 (.seq (.reg false [⟨some 22, .mv (.t 1), none⟩, ⟨some 23, .mv (.t 7), none⟩, ⟨some 24, .ia sz (.t 22) (.t 23), none⟩, ⟨some 25, .ld true sz (.t 24), none⟩, ⟨some 9, .alloc t sz z, none⟩, ⟨none, .st sz (.t 9) (.t 25), none⟩])
 (.seq (.reg false [⟨some 26, .mv (.t 2), none⟩, ⟨some 27, .ld true sz (.t 8), none⟩, ⟨some 28, .ld true sz (.t 9), none⟩, ⟨some 29, .call (.t 26) [(.t 27), (.t 28)], none⟩, ⟨some 30, .un .not (.t 29), none⟩])
 (.cond (.t 30)
 (.seq (.reg false [⟨some 6, .mv (kb false), none⟩])
 .ret)
 .skip)))))
 (.reg false [⟨some 31, .bin .add (.t 17) (ki 1), none⟩, ⟨some 17, .mv (.t 31), none⟩])))))))
 (.seq (.reg false [⟨some 6, .mv (kb true), none⟩])
 .ret))))
def idxC (sz : Nat) : C :=
 (.seq (.reg false [⟨some 4, .mv (ki 0), none⟩])
 (.seq (.seq (.reg false [⟨some 6, .mv (.t 0), none⟩, ⟨some 7, .len (.t 6), none⟩, ⟨some 8, .mv (ki 0), none⟩])
 (.block 0 (.loop (.seq (.reg false [⟨some 9, .bin .lss (.t 8) (.t 7), none⟩])
 (.seq (.cond (.t 9)
 .skip
 (.exit 0))
 (.seq (.block 1 (.seq (.reg false [⟨some 10, .mv (.t 8), none⟩, ⟨some 5, .mv (.t 10), none⟩])
 (.seq (.reg false [⟨some 11, .mv (.t 1), none⟩, ⟨some 12, .mv (.t 0), none⟩, ⟨some 13, .mv (.t 5), none⟩, ⟨some 14, .ia sz (.t 12) (.t 13), none⟩, ⟨some 15, .ld true sz (.t 14), none⟩, ⟨some 16, .call (.t 11) [(.t 15)], none⟩])
 (.cond (.t 16)
 (.seq (.reg false [⟨some 17, .mv (.t 5), none⟩, ⟨some 4, .mv (.t 17), none⟩])
 .ret)
 .skip))))
 (.reg false [⟨some 18, .bin .add (.t 8) (ki 1), none⟩, ⟨some 8, .mv (.t 18), none⟩])))))))
 (.seq (.reg false [⟨some 4, .mv (ki (-1)), none⟩])
 .ret)))
section
variable {α : Type} [Inhabited α]
/-- Two lists compared, element by element. -/
def eqL (eq : α → α → Bool) (l m : List α) : Bool := decide (l.length = m.length) && (List.range l.length).all fun i => eq (l.getD i default) (m.getD i default)
theorem eqL_f {eq : α → α → Bool} {l m : List α} {k : Nat} (hk : k < l.length) (h : eq (l.getD k default) (m.getD k default) = false) : eqL eq l m = false := by
  have : ((List.range l.length).all fun i => eq (l.getD i default) (m.getD i default)) = false := by
    rw [List.all_eq_false]
    exact ⟨k, List.mem_range.2 hk, by simp only [h]; decide⟩
  rw [eqL, this, Bool.and_false]
theorem eqL_t {eq : α → α → Bool} {l m : List α} (hl : l.length = m.length) (h : ∀ i, i < l.length → eq (l.getD i default) (m.getD i default) = true) : eqL eq l m = true := by
  have : ((List.range l.length).all fun i => eq (l.getD i default) (m.getD i default)) = true := by
    rw [List.all_eq_true]
    exact fun i hi => h i (List.mem_range.1 hi)
  rw [eqL, this, decide_eq_true hl]; rfl
theorem getD_ext {l m : List α} (hl : l.length = m.length) (h : ∀ i, i < l.length → l.getD i default = m.getD i default) : l = m := by
  refine List.ext_getElem hl (fun i h1 h2 => ?_)
  have := h i h1
  rwa [getD_get h1, getD_get h2] at this
theorem eqL_dec [DecidableEq α] (l m : List α) : eqL (fun x y => decide (x = y)) l m = decide (l = m) := by
  rw [Bool.eq_iff_iff]
  simp only [eqL, Bool.and_eq_true, decide_eq_true_eq, List.all_eq_true, List.mem_range]
  exact ⟨fun h => getD_ext h.1 h.2, fun h => by subst h; exact ⟨rfl, fun _ _ => rfl⟩⟩
variable {P : Program} {f t sz : Nat} {ks : List Nat} {z : List Value} {c : α → Nat → CV} {eq : α → α → Bool}
theorem eq_rc (hF : Fun P f 26 (eqC sz ks) [.t 4]) (heq : ∀ x y : α, eqCells ks (cellsUp (c x) 0 sz) (cellsUp (c y) 0 sz) = some (eq x y)) (l m : List α) (hl : l.length ≤ 140737488355328) (M : List Blk) :
    CallR P M f [immP sz c l, immP sz c m] (.b (eqL eq l m)) M := by
  refine callP hF (Nat.le_of_ble_eq_true rfl) (by simp only [go_sem]) (by simp only [go_sem]) ?_ M
  simp only [eqC, go_sem]
  refine ⟨fun hc => ?_, fun hc => ?_⟩
  · rw [eqL, decide_eq_false (by simpa using hc), Bool.false_and]
  have hlm : l.length = m.length := by
    have hh : (l.length : Int) = m.length := by simpa using hc
    omega
  refine V_loop (ι := Nat) (J := fun k => k ≤ l.length ∧ ∀ i, i < k → eq (l.getD i default) (m.getD i default) = true) (env := fun k => [(0, .p (immP sz c l)), (1, .p (immP sz c m)), (12, .i l.length), (13, .i k)]) (mem := fun _ => []) (μ := fun k => l.length - k) 0 ⟨Nat.zero_le _, fun j hj => by omega⟩ (into0 (by simp only [go_sem])) ?_
  rintro k ⟨hk, hok⟩
  simp only [go_sem, heq]
  refine ⟨fun h1 => ⟨by omega, by omega, fun hc => ?_, fun hc => ⟨k + 1, ⟨by omega, fun j hj => ?_⟩, by omega, into0 ?_⟩⟩, fun h1 => ?_⟩
  · rw [eqL_f h1 (by simpa using hc)]
  · by_cases e : j = k
    · subst e; simpa using hc
    · exact hok j (by omega)
  · simp only [go_sem, w64s (show k < 9223372036854775807 by omega)]
  · rw [eqL_t hlm (fun i hi => hok i (by omega))]
theorem rsame_rc (hF : Fun P f 26 (rsameC sz ks) [.t 4]) (heq : ∀ x y : α, eqCells ks (cellsUp (c x) 0 sz) (cellsUp (c y) 0 sz) = some (eq x y)) (l m : List α) (hl : l.length ≤ 140737488355328) (M : List Blk) :
    CallR P M f [immP sz c l, immP sz c m] (.b (eqL eq l m)) M := by
  refine callP hF (Nat.le_of_ble_eq_true rfl) (by simp only [go_sem]) (by simp only [go_sem]) ?_ M
  simp only [rsameC, go_sem]
  refine ⟨fun hc => ?_, fun hc => ?_⟩
  · rw [eqL, decide_eq_false (by simpa using hc), Bool.false_and]
  have hlm : l.length = m.length := by
    have hh : (l.length : Int) = m.length := by simpa using hc
    omega
  refine V_loop (ι := Nat) (J := fun k => k ≤ l.length ∧ ∀ i, i < k → eq (l.getD i default) (m.getD i default) = true) (env := fun k => [(0, .p (immP sz c l)), (1, .p (immP sz c m)), (5, .i k)]) (mem := fun _ => []) (μ := fun k => l.length - k) 0 ⟨Nat.zero_le _, fun j hj => by omega⟩ (into0 (by simp only [go_sem])) ?_
  rintro k ⟨hk, hok⟩
  simp only [go_sem, heq]
  refine ⟨fun h1 => ⟨by omega, by omega, fun hc => ?_, fun hc => ⟨k + 1, ⟨by omega, fun j hj => ?_⟩, by omega, into0 ?_⟩⟩, fun h1 => ?_⟩
  · rw [eqL_f h1 (by simpa using hc)]
  · by_cases e : j = k
    · subst e; simpa using hc
    · exact hok j (by omega)
  · simp only [go_sem, w64s (show k < 9223372036854775807 by omega)]
  · rw [eqL_t hlm (fun i hi => hok i (by omega))]
theorem fill_up (c : Nat → CV) (v : List AV) (n : Nat) (h : v.length = n) : fillL v 0 (cellsUp c 0 n) = cellsUp c 0 n := fillL_all (by rw [h, cellsUp_length])
/-- slices.EqualFunc, of elements and a function that compares two. -/
theorem eqf_rc (hF : Fun P f 32 (eqfC t sz z) [.t 6]) (hz : z.length = sz) (fn k : Nat) (caps : Nat → AV) (hcaps : ∀ i, i < k → ltA 0 (caps i)) (l m : List α) (hl : l.length ≤ 140737488355328)
    (h : ∀ i, i < l.length → l.length = m.length → ∀ M, CallR P M fn ([.agg (cellsUp (c (l.getD i default)) 0 sz), .agg (cellsUp (c (m.getD i default)) 0 sz)] ++ capsL caps 0 k) (.b (eq (l.getD i default) (m.getD i default))) M) (M : List Blk) :
    CallR P M f [immP sz c l, immP sz c m, .one (.fn fn k caps)] (.b (eqL eq l m)) M := by
  refine callP hF (Nat.le_of_ble_eq_true rfl) (by simp only [go_sem]; exact hcaps) (by simp only [go_sem]) ?_ M
  simp only [eqfC, go_sem]
  refine ⟨fun hc => ?_, fun hc => ?_⟩
  · rw [eqL, decide_eq_false (by simpa using hc), Bool.false_and]
  have hlm : l.length = m.length := by
    have hh : (l.length : Int) = m.length := by simpa using hc
    omega
  refine V_loop (ι := Nat) (J := fun k => k ≤ l.length ∧ ∀ i, i < k → eq (l.getD i default) (m.getD i default) = true) (env := fun i => [(0, .p (immP sz c l)), (1, .p (immP sz c m)), (2, .p (.one (.fn fn k caps))), (15, .p (immP sz c l)), (16, .i l.length), (17, .i i)]) (mem := fun _ => []) (μ := fun k => l.length - k) 0 ⟨Nat.zero_le _, fun j hj => by omega⟩ (into0 (by simp only [go_sem]; exact hcaps)) ?_
  rintro i ⟨hk, hok⟩
  have hf : ∀ x : α, fillL (zc z) 0 (cellsUp (c x) 0 sz) = cellsUp (c x) 0 sz := fun x => fill_up _ _ _ (by simp [zc, hz])
  have hf' : ∀ x : α, fillL (List.map (fun v => AV.c (CV.v v)) z) 0 (cellsUp (c x) 0 sz) = cellsUp (c x) 0 sz := hf
  have htk : ∀ x : α, (cellsUp (c x) 0 sz).take sz = cellsUp (c x) 0 sz := fun x => List.take_of_length_le (by rw [cellsUp_length]; exact Nat.le_refl _)
  simp only [go_sem, cellsUp_length, hf', htk, List.length_map, hz]
  refine ⟨fun h1 => ⟨by omega, by omega, ?_⟩, fun h1 => ?_⟩
  · refine call0 (h i h1 hlm) ?_
    simp only [go_sem]
    refine ⟨fun hc => ?_, fun hc => ⟨i + 1, ⟨by omega, fun j hj => ?_⟩, by omega, into0 ?_⟩⟩
    · rw [eqL_f h1 (by simpa using hc)]
    · by_cases e : j = i
      · subst e; simpa using hc
      · exact hok j (by omega)
    · simp only [go_sem, w64s (show i < 9223372036854775807 by omega)]
      exact hcaps
  · rw [eqL_t hlm (fun i hi => hok i (by omega))]
/-- slices.IndexFunc. -/
theorem idx_rc {p : α → Bool} (hF : Fun P f 19 (idxC sz) [.t 4]) (fn k : Nat) (caps : Nat → AV) (hcaps : ∀ i, i < k → ltA 0 (caps i)) (l : List α) (hl : l.length ≤ 140737488355328)
    (h : ∀ i, i < l.length → ∀ M, CallR P M fn ([.agg (cellsUp (c (l.getD i default)) 0 sz)] ++ capsL caps 0 k) (.b (p (l.getD i default))) M) (M : List Blk) :
    CallR P M f [immP sz c l, .one (.fn fn k caps)] (.i (if l.findIdx p < l.length then (l.findIdx p : Int) else -1)) M := by
  refine callP hF (Nat.le_of_ble_eq_true rfl) (by simp only [go_sem]; exact hcaps) (by simp only [go_sem]) ?_ M
  simp only [idxC, go_sem]
  refine V_loop (ι := Nat) (J := fun k => k ≤ l.length ∧ ∀ i, i < k → p (l.getD i default) = false) (env := fun i => [(0, .p (immP sz c l)), (1, .p (.one (.fn fn k caps))), (7, .i l.length), (8, .i i)]) (mem := fun _ => []) (μ := fun k => l.length - k) 0 ⟨Nat.zero_le _, fun i hi => absurd hi (Nat.not_lt_zero _)⟩ (into0 (by simp only [go_sem]; exact hcaps)) ?_
  rintro i ⟨hk, hne⟩
  simp only [go_sem]
  refine ⟨fun h1 => ⟨by omega, ?_⟩, fun h1 => ?_⟩
  · refine call0 (h i h1) ?_
    simp only [go_sem]
    refine ⟨fun hc => ?_, fun hc => ⟨i + 1, ⟨by omega, fun j hj => ?_⟩, by omega, into0 ?_⟩⟩
    · have : l.findIdx p = i := by
        rw [List.findIdx_eq h1]
        refine ⟨by rwa [getD_get h1] at hc, fun j hj => ?_⟩
        have := hne j hj
        rwa [getD_get (show j < l.length by omega)] at this
      rw [this, if_pos h1]
    · by_cases e : j = i
      · subst e; exact hc
      · exact hne j (by omega)
    · simp only [go_sem, w64s (show i < 9223372036854775807 by omega)]
      exact hcaps
  · rw [if_neg]
    have : l.findIdx p = l.length := by
      rw [List.findIdx_eq_length]
      intro y hy
      obtain ⟨j, hj, rfl⟩ := List.mem_iff_getElem.1 hy
      have := hne j (by omega)
      rwa [getD_get hj] at this
    omega
end
end Go.Proofs.YtcmkhlfjcdchmaaGreatAbs
end
section
namespace Go.Proofs.YtcmkhlfjcdchmaaGreatAbs
open Go Go.RowKit
def delC (t sz by_ : Nat) (z : List Value) : C :=
 (.seq (.reg false [⟨some 6, .mv (.k (.one (.c (.v (.slice none 0 0))))), none⟩])
 (.seq (.reg false [⟨some 8, .mv (.t 0), none⟩, ⟨some 9, .mv (.t 1), none⟩, ⟨some 10, .mv (.t 2), none⟩, ⟨some 11, .mv (.t 0), none⟩, ⟨some 12, .len (.t 11), none⟩, ⟨some 13, .s3 (.t 8) (some (.t 9)) (some (.t 10)) (some (.t 12)), none⟩])
 (.seq (.seq (.reg false [⟨some 14, .mv (.t 1), none⟩, ⟨some 15, .mv (.t 2), none⟩, ⟨some 16, .bin .eql (.t 14) (.t 15), none⟩])
 (.cond (.t 16)
 (.seq (.reg false [⟨some 17, .mv (.t 0), none⟩, ⟨some 6, .mv (.t 17), none⟩])
 .ret)
 .skip))
 (.seq (.reg false [⟨some 18, .mv (.t 0), none⟩, ⟨some 19, .len (.t 18), none⟩, ⟨some 7, .mv (.t 19), none⟩])
 (.seq (.reg true [⟨some 20, .mv (.t 0), none⟩, ⟨some 21, .mv (.t 1), none⟩, ⟨some 22, .slc sz (.t 20) none (some (.t 21)), none⟩, ⟨some 23, .mv (.t 0), none⟩, ⟨some 24, .mv (.t 2), none⟩, ⟨some 25, .slc sz (.t 23) (some (.t 24)) none, none⟩, ⟨some 26, .app t sz by_ z (.t 22) (.t 25), none⟩, ⟨some 0, .mv (.t 26), none⟩])
 (.seq (.reg false [⟨some 27, .mv (.t 0), none⟩, ⟨some 28, .mv (.t 0), none⟩, ⟨some 29, .len (.t 28), none⟩, ⟨some 30, .mv (.t 7), none⟩, ⟨some 31, .slc sz (.t 27) (some (.t 29)) (some (.t 30)), none⟩, ⟨none, .clr sz z (.t 31), none⟩])
 (.seq (.reg false [⟨some 32, .mv (.t 0), none⟩, ⟨some 6, .mv (.t 32), none⟩])
 .ret)))))))
def delfC (t sz : Nat) (z : List Value) (fi : Nat) : C :=
 (.seq (.reg false [⟨some 4, .mv (.k (.one (.c (.v (.slice none 0 0))))), none⟩])
 (.seq (.reg false [⟨some 8, .mv (.t 0), none⟩, ⟨some 9, .mv (.t 1), none⟩, ⟨some 10, .call (kf fi) [(.t 8), (.t 9)], none⟩, ⟨some 5, .mv (.t 10), none⟩])
 (.seq (.seq (.reg false [⟨some 11, .mv (.t 5), none⟩, ⟨some 12, .bin .eql (.t 11) (ki (-1)), none⟩])
 (.cond (.t 12)
 (.seq (.reg false [⟨some 13, .mv (.t 0), none⟩, ⟨some 4, .mv (.t 13), none⟩])
 .ret)
 .skip))
 (.seq (.seq (.reg false [⟨some 14, .mv (.t 5), none⟩, ⟨some 15, .bin .add (.t 14) (ki 1), none⟩, ⟨some 6, .mv (.t 15), none⟩])
 (.block 0 (.loop (.seq (.seq (.reg false [⟨some 16, .mv (.t 6), none⟩, ⟨some 17, .mv (.t 0), none⟩, ⟨some 18, .len (.t 17), none⟩, ⟨some 19, .bin .lss (.t 16) (.t 18), none⟩])
 (.cond (.t 19)
 .skip
 (.exit 0)))
 (.seq (.block 1 (.seq (.reg false [⟨some 22, .mv (.t 0), none⟩, ⟨some 23, .mv (.t 6), none⟩, ⟨some 24, .ia sz (.t 22) (.t 23), none⟩, ⟨some 25, .ld true sz (.t 24), none⟩, ⟨some 7, .alloc t sz z, none⟩, ⟨none, .st sz (.t 7) (.t 25), none⟩])
 (.seq (.reg false [⟨some 26, .mv (.t 1), none⟩, ⟨some 27, .ld true sz (.t 7), none⟩, ⟨some 28, .call (.t 26) [(.t 27)], none⟩, ⟨some 29, .un .not (.t 28), none⟩])
 (.cond (.t 29)
 (.seq (.reg false [⟨some 30, .mv (.t 0), none⟩, ⟨some 31, .mv (.t 5), none⟩, ⟨some 32, .ld true sz (.t 7), none⟩, ⟨some 33, .ia sz (.t 30) (.t 31), none⟩, ⟨none, .st sz (.t 33) (.t 32), none⟩])
 (.reg false [⟨some 34, .mv (.t 5), none⟩, ⟨some 35, .bin .add (.t 34) (ki 1), none⟩, ⟨some 5, .mv (.t 35), none⟩]))
 .skip))))
 (.reg false [⟨some 20, .mv (.t 6), none⟩, ⟨some 21, .bin .add (.t 20) (ki 1), none⟩, ⟨some 6, .mv (.t 21), none⟩]))))))
 (.seq (.reg false [⟨some 36, .mv (.t 0), none⟩, ⟨some 37, .mv (.t 5), none⟩, ⟨some 38, .slc sz (.t 36) (some (.t 37)) none, none⟩, ⟨none, .clr sz z (.t 38), none⟩])
 (.seq (.reg false [⟨some 39, .mv (.t 0), none⟩, ⟨some 40, .mv (.t 5), none⟩, ⟨some 41, .slc sz (.t 39) none (some (.t 40)), none⟩, ⟨some 4, .mv (.t 41), none⟩])
 .ret))))))
section
variable {P : Program} {f fi t sz by_ : Nat} {z : List Value}
theorem ltB_take {n t sz v : Nat} {l l' : List (List AV)} {f f' : Bool} (h : ltB n (.rows t sz v l f)) (hs : ∀ r ∈ l', r ∈ l) : ltB n (.rows t sz v l' f') := fun r hr => h r (hs r hr)
set_option maxRecDepth 20000 in
theorem del_rc (hF : Fun P f 33 (delC t sz by_ z) [.t 6]) {M : List Blk} {b v i j : Nat} {l : List (List AV)} {fb : Bool} (hb : M[b]? = some (.rows t sz v l fb)) (hij : i < j) (hj : j ≤ l.length) (hn : l.length < 140737488355328) (hMB : ∀ x ∈ M, ltB M.length x) :
    CallR P M f [.one (.arr sz b v 0 l.length), .i i, .i j] (.p (.one (.arr sz b v 0 (i + (l.length - j))))) (M.set b (.rows t sz v (l.take i ++ l.drop j) false)) := by
  have hbl : b < M.length := getElem?_lt hb
  refine callR_intro hF (by simp) (V_sound ?_)
  have h1 : ((i : Int) = (j : Int)) = False := by simp only [eq_iff_iff, iff_false]; omega
  have h2 : (i = l.length) = False := by simp only [eq_iff_iff, iff_false]; omega
  have hfin : ∀ (X : List (List AV)) (f' : Bool), X.take (i + (l.length - j)) = l.take i ++ l.drop j → ∀ e : Nat → SV, resL e [] [.t 6] = some ([.one (.arr sz b v 0 (i + (l.length - j)))], True) →
      FinK 33 M.length [RV.t 6] (.p (.one (.arr sz b v 0 (i + (l.length - j))))) (M.set b (.rows t sz v (l.take i ++ l.drop j) false)) .ret ⟨e, M.set b (.rows t sz v X f')⟩ := by
    intro X f' hX e he
    refine fin_own (.inr rfl) (gh_trunc (b := b) (i + (l.length - j)) (gb hbl)) [] (cnd := True) he trivial ?_ (leS_of rfl) ?_ ?_ ?_
    · simp only [List.append_nil, List.set_set, hX]
    · rw [List.length_set]; exact Nat.le_refl _
    · simp only [go_sem, List.length_set]; exact hbl
    · refine ltM_set hMB (ltB_take (hMB _ (List.mem_of_getElem? hb)) (fun r hr => ?_))
      rcases List.mem_append.1 hr with hr | hr
      · exact List.mem_of_mem_take hr
      · exact List.mem_of_mem_drop hr
  have hti : (l.take i).length = i := by rw [List.length_take]; omega
  by_cases hjl : j = l.length
  · subst hjl
    have h5 : (l.length = l.length ∧ ¬ (l.length : Int) = 0) = True := eq_true ⟨rfl, by omega⟩
    have h6 : ((i : Int) = (l.length : Int) ∧ ¬ (i : Int) = 0) = False := by simp only [eq_iff_iff, iff_false]; omega
    have hlen : (List.take i l ++ List.drop i l).length = l.length := by rw [List.take_append_drop]
    have h7 : ((l.length : Int) = 0) = False := by simp only [eq_iff_iff, iff_false]; omega
    simp only [delC, go_sem, hb, h1, h2, gb hbl, h5, h7, List.range_zero, if_true, if_false, h6, hlen, List.set_set, not_false_eq_true, and_self, true_and]
    have hx := hfin (List.take i (List.take i l ++ List.drop i l) ++ List.replicate (l.length - i) (List.map (fun v => AV.c (CV.v v)) z) ++ List.drop (i + (l.length - i)) (List.take i l ++ List.drop i l)) fb (by
      rw [Nat.sub_self, Nat.add_zero, List.drop_length, List.append_nil, List.take_append_drop, List.append_assoc, List.take_left' hti])
    simp only [Nat.sub_self, Nat.add_zero, List.drop_length, List.append_nil] at hx
    exact ⟨by omega, by omega, by omega, by omega, by omega, by omega, hx _ (by simp only [go_sem])⟩
  · have h5 : (j = l.length ∧ ¬ (j : Int) = 0) = False := by simp only [eq_iff_iff, iff_false]; omega
    have h6 : (((i + (l.length - j) : Nat) : Int) = (l.length : Int) ∧ ¬ ((i + (l.length - j) : Nat) : Int) = 0) = False := by simp only [eq_iff_iff, iff_false]; omega
    have h6' : (i + (l.length - j) = l.length) = False := by simp only [eq_iff_iff, iff_false]; omega
    simp only [delC, go_sem, hb, h1, h2, gb hbl, h5, if_true, if_false, h6, h6', List.set_set, false_and]
    have e1 : List.take (l.length - j) (List.drop j l) = List.drop j l := List.take_of_length_le (by rw [List.length_drop]; exact Nat.le_refl _)
    have hl2 : (List.take i l ++ List.drop j l).length = i + (l.length - j) := by rw [List.length_append, hti, List.length_drop]
    rw [e1]
    have hl3 : (List.take i l ++ List.drop j l ++ List.drop (i + (l.length - j)) l).length = l.length := by
      rw [List.length_append, hl2, List.length_drop]; omega
    refine ⟨by omega, by omega, by omega, by omega, by omega, by omega, hfin _ _ ?_ _ ?_⟩
    · rw [List.append_assoc, List.take_left']
      · rw [List.take_left' hl2]
      · rw [List.take_left' hl2]; exact hl2
    · simp only [go_sem]
variable {α : Type} [Inhabited α] {c : α → Nat → CV}
theorem filter_idx {p : α → Bool} {l : List α} (h : ¬ l.findIdx p < l.length) : l.filter (fun x => !p x) = l := by
  rw [List.filter_eq_self]
  intro x hx
  have : l.findIdx p = l.length := by have : l.findIdx p ≤ l.length := List.findIdx_le_length; omega
  rw [List.findIdx_eq_length] at this
  rw [this x hx]; rfl
theorem filter_at {p : α → Bool} {l : List α} (h : l.findIdx p < l.length) : (l.take (l.findIdx p + 1)).filter (fun x => !p x) = l.take (l.findIdx p) := by
  rw [take_succ_getD default h, List.filter_append]
  have h1 : p (l.getD (l.findIdx p) default) = true := by
    rw [getD_get h]
    exact List.findIdx_getElem (w := h)
  have h2 : (l.take (l.findIdx p)).filter (fun x => !p x) = l.take (l.findIdx p) := by
    rw [List.filter_eq_self]
    intro x hx
    obtain ⟨i, hi, rfl⟩ := List.mem_iff_getElem.1 hx
    rw [List.length_take] at hi
    rw [List.getElem_take]
    have := List.not_of_lt_findIdx (p := p) (xs := l) (i := i) (by omega)
    simpa using this
  rw [h2, List.filter_cons]
  simp only [h1, Bool.not_true, Bool.false_eq_true, if_false, List.filter_nil, List.append_nil]
set_option maxRecDepth 20000 in
/-- slices.DeleteFunc of rows of one's own. -/
theorem delf_rc {p : α → Bool} (hF : Fun P f 42 (delfC t sz z fi) [.t 4]) (hI : Fun P fi 19 (idxC sz) [.t 4]) (hz : z.length = sz) (hsz : 0 < sz) {M : List Blk} {b v : Nat} {fb : Bool} {l : List α} (hb : M[b]? = some (.rows t sz v (rowsL sz c l) fb)) (hl : l.length < 140737488355328) (hMB : ∀ x ∈ M, ltB M.length x)
    (fn k : Nat) (caps : Nat → AV) (hcaps : ∀ i, i < k → ltA 0 (caps i)) (h : ∀ i, i < l.length → ∀ M, CallR P M fn ([.agg (cellsUp (c (l.getD i default)) 0 sz)] ++ capsL caps 0 k) (.b (p (l.getD i default))) M) :
    CallR P M f [.one (.arr sz b v 0 l.length), .one (.fn fn k caps)] (.p (.one (.arr sz b v 0 (l.filter fun x => !p x).length))) (M.set b (.rows t sz v (rowsL sz c (l.filter fun x => !p x)) false)) := by
  have hbl : b < M.length := getElem?_lt hb
  have hcM : ∀ n i, i < k → ltA n (caps i) := fun n i hi => ltA_up1 (Nat.zero_le _) (hcaps i hi)
  have hfb : ∀ X : List α, ∀ x ∈ M.set b (.rows t sz v (rowsL sz c X) false), ltB (M.set b (.rows t sz v (rowsL sz c X) false)).length x := fun X => ltM_set hMB (rowsL_ltB _ _ _ _ _)
  refine callR_intro hF (by simp) ?_
  refine run_seqV ?_
  simp only [delfC, go_sem]
  refine run_seqV ?_
  simp only [go_sem]
  have hI2 : CallR P M fi [.one (.arr sz b v 0 l.length), .one (.fn fn k caps)] (.i (if l.findIdx p < l.length then (l.findIdx p : Int) else -1)) M :=
    callR_lend (idx_rc hI fn k caps hcaps l (by omega) h []) ⟨snapL l hb, Snap.same _ hcaps, trivial⟩ (by simp only [go_sem])
  refine call1 hI2 (by simp only [go_sem]) (fun h => Bool.noConfusion h) ?_
  simp only [go_sem]
  refine run_seqV ?_
  by_cases hat : l.findIdx p < l.length
  case neg =>
    rw [if_neg hat]
    have hd := filter_idx hat
    rw [hd]
    simp only [go_sem]
    refine fin_own (.inr rfl) (gh_trunc (b := b) l.length hb) [] (cnd := True) rfl trivial ?_ (leS_of rfl) ?_ ?_ ?_
    · have : (rowsL sz c l).take l.length = rowsL sz c l := List.take_of_length_le (by rw [rowsL_len]; exact Nat.le_refl _)
      simp only [this, List.append_nil]
    · rw [List.length_set]; exact Nat.le_refl _
    · simp only [go_sem, List.length_set]; exact hbl
    · exact hfb _
  rw [if_pos hat]
  simp only [go_sem]
  obtain ⟨q, hq⟩ : ∃ q, q = l.findIdx p := ⟨_, rfl⟩
  have hat1 := filter_at hat
  rw [← hq] at hat hat1 ⊢
  have e1 : IntKind.i64.wrap ((q : Int) + 1) = ((q + 1 : Nat) : Int) := w64s (by omega)
  have e0 : ((q : Int) = -1) = False := by simp only [eq_iff_iff, iff_false]; omega
  refine run_seqV ?_
  simp only [go_sem, e1]
  obtain ⟨F, hF0⟩ : ∃ F : List α → List α, F = fun x => x.filter (fun y => !p y) := ⟨_, rfl⟩
  have hFl : ∀ x : List α, (x.filter fun y => !p y) = F x := fun x => by rw [hF0]
  simp only [hFl] at hat1 hfb ⊢
  have hFa : ∀ (x : List α) (y : α), F (x ++ [y]) = F x ++ (if p y then [] else [y]) := fun x y => by
    rw [hF0]; simp only [List.filter_append, List.filter_cons, List.filter_nil]
    cases p y <;> simp
  refine R_loop (ι := Nat × List α) (J := fun d => d.1 ≤ l.length ∧ (F (l.take d.1)).length < d.1 ∧ d.2.length = l.length ∧ d.2.take (F (l.take d.1)).length = F (l.take d.1) ∧ d.2.drop d.1 = l.drop d.1)
    (env := fun d => [(0, .p (.one (.arr sz b v 0 l.length))), (1, .p (.one (.fn fn k caps))), (5, .i (F (l.take d.1)).length), (6, .i d.1)])
    (mem := fun d => M.set b (.rows t sz v (rowsL sz c d.2) fb)) (μ := fun d => l.length - d.1) (q + 1, l) ⟨hat, ?_, rfl, ?_, rfl⟩ ⟨[], ?_, ?_, ?_, ?_⟩ ?_
  · rw [hat1, List.length_take]; omega
  · rw [hat1, List.length_take, Nat.min_eq_left (by omega)]
  · rw [List.append_nil, set_self hb]
  · rw [List.length_set]; exact Nat.le_refl _
  · simp only [go_sem, hat1, List.length_take, List.length_set, Nat.min_eq_left (Nat.le_of_lt hat)]
    exact ⟨hbl, hcM _⟩
  · exact ltM_set hMB (rowsL_ltB _ _ _ _ _)
  rintro ⟨j, cur⟩ ⟨hj, hij, hcl2, htk, hdr⟩
  simp only at hj hij hcl2 htk hdr
  refine run_seqV ?_
  simp only [go_sem, gb hbl, rowsL_len, hcl2]
  obtain ⟨i, hi⟩ : ∃ i, i = (F (l.take j)).length := ⟨_, rfl⟩
  rw [← hi] at hij htk ⊢
  have e2 : IntKind.i64.wrap ((i : Int) + 1) = ((i + 1 : Nat) : Int) := w64s (by omega)
  have e3 : IntKind.i64.wrap ((j : Int) + 1) = ((j + 1 : Nat) : Int) := w64s (by omega)
  have hf' : ∀ x : α, fillL (List.map (fun v => AV.c (CV.v v)) z) 0 (cellsUp (c x) 0 sz) = cellsUp (c x) 0 sz := fun x => fill_up _ _ _ (by simp [hz])
  have hfx : ∀ x y : α, fillL (cellsUp (c y) 0 sz) 0 (cellsUp (c x) 0 sz) = cellsUp (c x) 0 sz := fun x y => fill_up _ _ _ (cellsUp_length _ _ _)
  have htk0 : ∀ x : α, (cellsUp (c x) 0 sz).take sz = cellsUp (c x) 0 sz := fun x => List.take_of_length_le (by rw [cellsUp_length]; exact Nat.le_refl _)
  refine ⟨fun h1 => ?_, fun h1 => ?_⟩
  · have hx : cur.getD j default = l.getD j default := by
      have a := drop_getD (d := (default : α)) (l := cur) (k := j) (by omega)
      have b := drop_getD (d := (default : α)) (l := l) (k := j) h1
      rw [a, b] at hdr
      exact (List.cons.inj hdr).1
    have hdr' : cur.drop (j + 1) = l.drop (j + 1) := by
      have := congrArg List.tail hdr
      simpa using this
    have hrow : (rowsL sz c cur).getD j [] = cellsUp (c (l.getD j default)) 0 sz := by rw [rowsL_getD (by omega), hx]
    have htj : l.take (j + 1) = l.take j ++ [l.getD j default] := take_succ_getD default h1
    have hcall := h j h1
    refine run_seq ?_
    refine run_block ?_
    refine run_seqV ?_
    simp only [go_sem, gb hbl, rowsL_len, hbl, hcl2, hrow, List.length_set, gl2, sl2, hf', htk0, cellsUp_length, List.length_map, hz]
    generalize l.getD j default = x at hx hrow htj hcall ⊢
    refine ⟨by omega, by omega, ?_⟩
    refine run_seqV ?_
    simp only [go_sem, gl2, htk0, cellsUp_length]
    refine call0 hcall ?_
    simp only [go_sem]
    cases hpx : p x with
    | true =>
      have hn : F (l.take (j + 1)) = F (l.take j) := by rw [htj, hFa, hpx]; simp
      refine V_sound ?_
      simp only [go_sem, Bool.not_true]
      refine V_sound ?_
      simp only [go_sem, e3]
      refine ⟨(j + 1, cur), ⟨h1, by show (F (l.take (j + 1))).length < j + 1; rw [hn, ← hi]; omega, hcl2, by simp only [hn]; rw [← hi]; exact htk, hdr'⟩, by simp only []; omega, [_], rfl, by rw [List.length_set]; exact Nat.le_refl _, ?_, ltM_set hMB (rowsL_ltB _ _ _ _ _)⟩
      simp only [go_sem, List.length_set, hn, ← hi]
      exact ⟨hbl, hcM _⟩
    | false =>
      have hn : F (l.take (j + 1)) = F (l.take j) ++ [x] := by rw [htj, hFa, hpx]; simp
      have hi' : (F (l.take (j + 1))).length = i + 1 := by rw [hn, List.length_append, ← hi]; rfl
      refine V_sound ?_
      have hrl : (rowsL sz c cur).getD i [] = cellsUp (c (cur.getD i default)) 0 sz := rowsL_getD (by omega)
      simp only [go_sem, Bool.not_false, gl2, ga, sa, gb, hbl, List.length_set, rowsL_len, hcl2, List.set_set, e2, htk0, hrl, hfx, cellsUp_length, rowsL_set]
      refine ⟨by omega, by omega, V_sound ?_⟩
      simp only [go_sem, e3]
      refine ⟨(j + 1, cur.set i x), ⟨h1, by show (F (l.take (j + 1))).length < j + 1; rw [hi']; omega, by simp only [List.length_set]; exact hcl2, ?_, ?_⟩, by simp only []; omega, [_], rfl, by rw [List.length_set]; exact Nat.le_refl _, ?_, ltM_set hMB (rowsL_ltB _ _ _ _ _)⟩
      · show (cur.set i x).take (F (l.take (j + 1))).length = F (l.take (j + 1))
        rw [hi', hn, ← htk, take_succ_getD default (by rw [List.length_set]; omega), List.take_set_of_le (Nat.le_refl _), getD_set_self (by omega)]
      · simp only []
        rw [List.drop_set_of_lt (by omega)]; exact hdr'
      · simp only [go_sem, List.length_set, hi']
        exact ⟨hbl, hcM _⟩
  · have hjn : j = l.length := by omega
    subst hjn
    rw [List.take_length] at hi htk
    refine V_sound ?_
    have hil : (i = l.length ∧ ¬ (i : Int) = 0) = False := by simp only [eq_iff_iff, iff_false]; omega
    simp only [go_sem, gb hbl, rowsL_len, hcl2, List.length_set, hbl, hil, if_false, List.set_set, ← hi]
    refine ⟨by omega, by omega, by omega, fin_own (.inr rfl) (gh_trunc (b := b) i (gb hbl)) [] (cnd := True) rfl trivial ?_ (leS_of rfl) ?_ ?_ (hfb _)⟩
    · have hti : (List.take i (rowsL sz c cur)).length = i := by rw [List.length_take, rowsL_len]; omega
      simp only [List.set_set, List.append_nil]
      rw [List.append_assoc, List.take_left' hti, rowsL_take, htk]
    · rw [List.length_set]; exact Nat.le_refl _
    · simp only [go_sem, List.length_set]
      exact hbl
end
end Go.Proofs.YtcmkhlfjcdchmaaGreatAbs
end
section
namespace Go.Proofs.YtcmkhlfjcdchmaaGreatAbs
open Go Go.RowKit
section
variable {M l : List Blk} {k : Nat} {X : Blk}
theorem mget : (M ++ l)[M.length + k]? = l[k]? := by rw [List.getElem?_append_right (Nat.le_add_right _ _), Nat.add_sub_cancel_left]
theorem mget0 : (M ++ l)[M.length]? = l[0]? := by rw [List.getElem?_append_right (Nat.le_refl _), Nat.sub_self]
theorem mset : (M ++ l).set (M.length + k) X = M ++ l.set k X := by rw [List.set_append_right _ _ (Nat.le_add_right _ _), Nat.add_sub_cancel_left]
theorem mset0 : (M ++ l).set M.length X = M ++ l.set 0 X := by rw [List.set_append_right _ _ (Nat.le_refl _), Nat.sub_self]
end
/-- What a block holds is forgotten. -/
theorem gh_kill {n m : Nat} {e : Nat → SV} {M : List Blk} (b : Nat) : Gh n m ⟨e, M⟩ ⟨e, M.set b .dead⟩ := by
  rintro I0 σ0 M0 w0 a w hm0 ⟨I, σ, hev, he, h1, h2⟩
  have hm := hev.mem
  by_cases hb : b < M.length
  · have hx : M[b]? = some M[b] := List.getElem?_eq_getElem hb
    have hp : σ[b]? = some (σ[b]'(by rw [hm.len]; exact hb)) := List.getElem?_eq_getElem (by rw [hm.len]; exact hb)
    obtain ⟨m1, m2⟩ := hm.retell hx hp (x' := .dead) (fun h => by cases h) trivial
    exact ⟨I, σ, hev.retell m1 m2, he, h1, h2⟩
  · rw [List.set_eq_of_length_le (by omega)]
    exact ⟨I, σ, hev, he, h1, h2⟩
theorem fin_m {n : Nat} {rvs : List RV} {r : SV} {M' : List Blk} {s s1 : St} {ex : Exit} {m : Nat} (hex : ex = .normal ∨ ex = .ret) (h : Gh n m s s1) (D : List Blk) {qs : List Pt} {cnd : Prop} (h1 : resL s1.env s1.M rvs = some (qs, cnd)) (h2 : cnd) (h3 : s1.M = M' ++ D) (h4 : SubS (mkRes qs) r) (h5 : m ≤ M'.length) (h6 : ltS M'.length r) (h7 : ∀ x ∈ M', ltB M'.length x) : FinK n m rvs r M' ex s := fin_sub hex h D h1 h2 h3 h4 h5 h6 h7
def res0 : Blk := .rows 0 0 0 [] true
/-- A function that makes rows out of nothing of the caller's: the rows come to a place that is kept for them. -/
theorem callR_place {P : Program} {f : Nat} {ps : List Pt} {sz v len t : Nat} {l : List (List AV)} {fl : Bool} (h : CallR P [] f ps (.p (.one (.arr sz 0 v 0 len))) [.rows t sz v l fl]) (hcl : closedRows l) (hps : ∀ q ∈ ps, ltP 0 q) (hlen : len ≤ l.length) (n : Nat) (N : List Blk) (hN : N[n]? = some (.rows 0 0 0 [] true)) :
    CallR P N f ps (.p (.one (.arr sz n 1 0 len))) (N.set n (.rows t sz 1 l fl)) := by
  intro I σ w vals hG hm hvl hvr
  have hm0 : Mem I [] [] w := ⟨rfl, fun b x p h => by simp at h, fun b b' x x' p p' g h => by simp at h, fun b x p g h => by simp at h, hm.imm⟩
  have hno : ∀ g, ¬ Has ([] : List Plc) [] g := by rintro g ⟨b, x, p, h, _⟩; simp at h
  refine Comes.mono (h I [] w vals hG hm0 hvl (fun k q x hq hx => ?_)) ?_
  · have := RelP_take (n := 0) (hps q (List.mem_of_getElem? hq)) (hvr k q x hq hx)
    simpa using this
  · rintro y w' ⟨I', σ', hr, hev⟩
    obtain ⟨p1, rfl⟩ : ∃ p1, σ' = [p1] := by
      have := hev.mem.len
      match σ', this with
      | [p], _ => exact ⟨p, rfl⟩
    have hnl : n < N.length := (List.getElem?_eq_some_iff.1 hN).1
    have hnσ : n < σ.length := by rw [hm.len]; exact hnl
    obtain ⟨k0, k1, k2, k3, k4, k5, k6⟩ := hm.blk n _ _ hN (List.getElem?_eq_getElem hnσ)
    generalize hp0 : σ[n] = p0 at k0 k1 k2 k3 k4 k5 k6
    obtain ⟨q0, q1, q2, q3, q4, q5, q6⟩ := hev.mem.blk 0 _ _ rfl rfl
    obtain ⟨y1, pr, hpr, hpv, hq⟩ := hr
    obtain rfl : p1 = pr := by simpa using hpr
    obtain ⟨e1, e2, e3⟩ := hq q2
    have hk : Keep (fun _ => False) w w' := hev.keep.mono (fun k _ h => hno k h)
    have hm1 := hm.keep hk (fun _ _ h => h) (fun _ _ _ h => h)
    have hfr : ∀ ad x, I' ad = some x → I ad = some x ∨ w.heap.size ≤ ad.block := by
      intro ad x hx
      rcases hev.fresh ad x hx with h | h | h
      · exact .inl h
      · exact .inr h
      · exact absurd h (hno _)
    have hg1 : ∀ g, p1.blk = some g → w.heap.size ≤ g := fun g hg => by
      rcases hev.own g ⟨0, _, p1, rfl, rfl, rfl, hg⟩ with h | h
      · exact absurd h (hno g)
      · exact h
    obtain ⟨p2, hp2⟩ : ∃ p2 : Plc, p2 = ⟨p1.blk, p1.cap, 1, p1.sz⟩ := ⟨_, rfl⟩
    have hsn : (σ.set n p2)[n]? = some p2 := by rw [List.getElem?_set, if_pos rfl, if_pos hnσ]
    have hso : ∀ b, b ≠ n → (σ.set n p2)[b]? = σ[b]? := fun b hb => by rw [List.getElem?_set, if_neg (fun e => hb e.symm)]
    have hMn : (N.set n (.rows t sz 1 l fl))[n]? = some (.rows t sz 1 l fl) := by rw [List.getElem?_set, if_pos rfl, if_pos hnl]
    have hMo : ∀ b, b ≠ n → (N.set n (.rows t sz 1 l fl))[b]? = N[b]? := fun b hb => by rw [List.getElem?_set, if_neg (fun e => hb e.symm)]
    have hxP : ExtP σ (σ.set n p2) := by
      intro b p hp
      by_cases hb : b = n
      · subst hb
        refine ⟨p2, hsn, ?_, fun e => ?_⟩
        · rw [List.getElem?_eq_getElem hnσ, hp0] at hp
          injection hp with hp; subst hp; rw [k2]; exact Nat.zero_le _
        · rw [List.getElem?_eq_getElem hnσ, hp0] at hp
          injection hp with hp; subst hp; rw [k2, hp2] at e; cases e
      · exact ⟨p, by rw [hso b hb]; exact hp, Nat.le_refl _, fun _ => rfl⟩
    refine ⟨I', σ.set n p2, ⟨y1, p2, hsn, by rw [hp2]; exact Nat.le_refl _, fun _ => ⟨by rw [hp2]; exact e1, by rw [hp2]; exact e2, by rw [hp2]; exact e3⟩⟩, ⟨hev.extI, hxP, ⟨by rw [List.length_set, List.length_set]; exact hm.len, ?_, ?_, ?_, hev.mem.imm⟩, hk.mono (fun k _ h => h.elim), ?_, fun ad x hx => ?_⟩⟩
    · intro b x p hx hp
      by_cases hb : b = n
      · subst hb
        rw [hMn] at hx; rw [hsn] at hp
        injection hx with hx; injection hp with hp
        subst hx; subst hp
        rw [hp2]
        refine ⟨q0, q1, rfl, q3, q4, q5, ?_⟩
        cases hb : p1.blk with
        | none => rw [hb] at q6; exact q6
        | some g =>
          rw [hb] at q6
          obtain ⟨cs, c1, c2, c3, c4⟩ := q6
          refine ⟨cs, c1, c2, c3, fun i r hr j a ha => ?_⟩
          obtain ⟨z, z1, z2⟩ := c4 i r hr j a ha
          obtain ⟨cv, rfl⟩ := hcl r (List.mem_of_getElem? hr) a (List.mem_of_getElem? ha)
          exact ⟨z, z1, z2⟩
      · rw [hMo b hb] at hx; rw [hso b hb] at hp
        exact RelB_mono hev.extI hxP (fun _ _ _ => rfl) (hm1.blk b x p hx hp)
    · intro b b' x x' p p' g hx hx' hl hl' hp hp' hg hg'
      by_cases hb : b = n
      · by_cases hb' : b' = n
        · rw [hb, hb']
        · exfalso
          subst hb
          rw [hsn] at hp; injection hp with hp; subst hp
          rw [hMo b' hb'] at hx'; rw [hso b' hb'] at hp'
          have h1 := RelB_lt (hm.blk b' x' p' hx' hp') hl' hg'
          have h2 := hg1 g (by rw [hp2] at hg; exact hg)
          omega
      · by_cases hb' : b' = n
        · exfalso
          subst hb'
          rw [hsn] at hp'; injection hp' with hp'; subst hp'
          rw [hMo b hb] at hx; rw [hso b hb] at hp
          have h1 := RelB_lt (hm.blk b x p hx hp) hl hg
          have h2 := hg1 g (by rw [hp2] at hg'; exact hg')
          omega
        · rw [hMo b hb] at hx; rw [hso b hb] at hp; rw [hMo b' hb'] at hx'; rw [hso b' hb'] at hp'
          exact hm.inj b b' x x' p p' g hx hx' hl hl' hp hp' hg hg'
    · intro b x p g hx hlv hp hg ad had
      by_cases hb : b = n
      · subst hb
        rw [hsn] at hp; injection hp with hp; subst hp
        exact hev.mem.ap 0 _ p1 g rfl rfl rfl (by rw [hp2] at hg; exact hg) ad had
      · rw [hMo b hb] at hx; rw [hso b hb] at hp
        cases hI : I' ad with
        | none => rfl
        | some y =>
          exfalso
          rcases hfr ad y hI with h1 | h1
          · rw [hm.ap b x p g hx hlv hp hg ad had] at h1
            cases h1
          · have := RelB_lt (hm.blk b x p hx hp) hlv hg
            omega
    · rintro g ⟨b, x, p, hx, hlv, hp, hg⟩
      by_cases hb : b = n
      · subst hb
        rw [hsn] at hp; injection hp with hp; subst hp
        exact .inr (hg1 g (by rw [hp2] at hg; exact hg))
      · rw [hMo b hb] at hx; rw [hso b hb] at hp
        exact .inl ⟨b, x, p, hx, hlv, hp, hg⟩
    · rcases hfr ad x hx with h1 | h1
      · exact .inl h1
      · exact .inr (.inl h1)
/-- What is told of memory speaks of its own places alone. -/
theorem RelA_lt {I : Im} {σ : List Plc} : ∀ {a : AV} {y : Value}, RelA I σ a y → ltA σ.length a := by
  intro a
  induction a with
  | c x => intro y _; trivial
  | ptr b ver i j => rintro y ⟨_, p, hp, _⟩; exact (List.getElem?_eq_some_iff.1 hp).1
  | arr sz b ver off len => rintro y ⟨_, p, hp, _⟩; exact (List.getElem?_eq_some_iff.1 hp).1
  | ip n c => intro y _; trivial
  | fn f k caps ih => rintro y ⟨cs, e, hs, h⟩; exact fun i hi => ih i (h i cs[i] (Array.getElem?_eq_getElem (by omega)))
theorem Mem.wf {I : Im} {σ : List Plc} {M : List Blk} {w : World} (hm : Mem I σ M w) : ∀ x ∈ M, ltB M.length x := by
  intro x hx
  obtain ⟨b, hb, rfl⟩ := List.mem_iff_getElem.1 hx
  have hbσ : b < σ.length := by rw [hm.len]; exact hb
  have h := hm.blk b _ _ (List.getElem?_eq_getElem hb) (List.getElem?_eq_getElem hbσ)
  cases hX : M[b] with
  | dead => trivial
  | sit s pos => trivial
  | rows t sz ver l f =>
    rw [hX] at h
    obtain ⟨_, _, _, h4, _, h6, h7⟩ := h
    intro r hr a ha
    obtain ⟨i, hi, rfl⟩ := List.mem_iff_getElem.1 hr
    obtain ⟨j, hj, rfl⟩ := List.mem_iff_getElem.1 ha
    generalize σ[b] = p at h4 h7
    cases hp : p.blk with
    | none => rw [hp] at h7; omega
    | some g =>
      rw [hp] at h7
      obtain ⟨cs, _, _, _, h8⟩ := h7
      obtain ⟨z, _, hz⟩ := h8 i _ (List.getElem?_eq_getElem hi) j _ (List.getElem?_eq_getElem hj)
      rw [← hm.len]
      exact RelA_lt hz
theorem callR_wf {P : Program} {M M' : List Blk} {f : Nat} {ps : List Pt} {r : SV} (h : (∀ x ∈ M, ltB M.length x) → CallR P M f ps r M') : CallR P M f ps r M' := fun I σ w vals hG hm => h hm.wf I σ w vals hG hm
/-- Which pairs of a region may not be turned by what kinds they are of. -/
def ncTab (ols : List OpL) : List (List Nat) := (List.range ols.length).map fun i => (List.range i).filter fun k => match ols[k]?, ols[i]? with | some y, some x => !commOk y x | _, _ => true
theorem okDraw_tab {ops : Array Oper} {ols : List OpL} {T : List (List Nat)} (h : okDraw ops ols T = true) : okTab ops T = true := by
  unfold okDraw at h
  unfold okTab
  rw [List.all_eq_true] at h ⊢
  intro i hi
  have := h i hi
  cases ho : ops[i]? with
  | none => rw [ho] at this; cases this
  | some o =>
    cases hx : ols[i]? with
    | none => rw [ho, hx] at this; cases this
    | some x =>
      rw [ho, hx] at this
      simp only [okAt, Bool.and_eq_true] at this
      simp only [Bool.and_eq_true]
      exact this.1
section
variable {P : Program} {n m : Nat} {e : Nat → SV} {M : List Blk} {K : Exit → St → Prop}
theorem run_regX0 {ols : List OpL} {xs : List XOp} {s : St} (he : xs.map (·.op) = ols) (hp : pairsX (ncTab ols) xs = true) (h : runX P xs s (K .normal)) : Run P n m (.reg true ols) s K := by
  intro code hc I σ M w0 a w hm hs
  obtain ⟨id, ops, rfl, hls, hd⟩ := compC_reg hc
  obtain ⟨hmx, hok⟩ := hd rfl
  refine wp_region_any hmx ?_
  have hlen : xs.length = ops.size := by have := compLs_length hls; rw [← he] at this; simpa using this
  refine any_soundX (xs := xs) (rem := xs.zipIdx.map fun p => (p.2, p.1)) (T := tabT ops.toList) hm.2 (okDraw_tab hok) (fun i k x y hx hy hki => ?_) (K := K .normal) (fun s a w h1 h2 => ⟨s, h1, h2⟩) ops.size _ s a _ (by simp [hlen]) ?_ ?_ ?_ (by simp) ?_ ?_ hs.drew
  · have hil : i < ops.size := by rw [← hlen]; exact (List.getElem?_eq_some_iff.1 hx).1
    have h1 := List.all_eq_true.1 hok i (List.mem_range.2 hil)
    have hox : ols[i]? = some x.op := by rw [← he, List.getElem?_map, hx]; rfl
    have hoy : ols[k]? = some y.op := by rw [← he, List.getElem?_map, hy]; rfl
    rw [Array.getElem?_eq_getElem hil, hox] at h1
    simp only [okAt, Bool.and_eq_true] at h1
    have h2 := List.all_eq_true.1 h1.2 k (List.mem_range.2 hki)
    rw [hoy] at h2
    simp only [Bool.or_eq_true] at h2
    rcases h2 with h2 | h2
    · exact .inl h2
    · rcases pairsX_spec hp hx hy hki with h3 | h3
      · exfalso
        have hol : i < ols.length := (List.getElem?_eq_some_iff.1 hox).1
        rw [ncTab, List.getD_eq_getElem?_getD, List.getElem?_map, List.getElem?_range hol] at h3
        simp [hox, hoy, h2] at h3
      · exact .inr h3
  · subst he
    intro p hp
    obtain ⟨q, hq, rfl⟩ := List.mem_map.1 hp
    have hq' : xs[q.2]? = some q.1 := List.mem_zipIdx_iff_getElem?.1 (show (q.1, q.2) ∈ xs.zipIdx from hq)
    obtain ⟨o, ho, hco⟩ := compLs_get hls q.2 q.1.op (by rw [List.getElem?_map, hq']; rfl)
    exact ⟨hq', o, by simpa using ho, hco⟩
  · rw [List.pairwise_map]
    refine List.pairwise_iff_getElem.2 (fun i j hi hj hij => ?_)
    simp only [List.getElem_zipIdx]
    omega
  · intro i hi
    have h0 : (Array.replicate ops.size false).getD i true = false := by simp [hi]
    refine ⟨fun _ => ?_, fun _ => h0⟩
    have hi' : i < xs.length := by omega
    refine ⟨xs[i], List.mem_map.2 ⟨(xs[i], i), ?_, rfl⟩⟩
    exact List.mem_zipIdx_iff_getElem?.2 (List.getElem?_eq_getElem hi')
  · intro j o hj hl
    simp at hl
    by_cases h : j < ops.size
    · simp [h] at hl
    · simp [h] at hl
  · have e0 : (xs.zipIdx.map fun p => (p.2, p.1)).map (·.2) = xs := by
      apply List.ext_getElem?
      intro i
      simp [List.getElem?_zipIdx]
      cases xs[i]? <;> rfl
    rw [e0]
    exact h
/-- A region of open order in which calls make new rows: k places are kept for them. -/
theorem run_regX {ols : List OpL} {c : C} (k : Nat) (h : evX P (ncTab ols) ols M.length [] e (M ++ List.replicate k (.rows 0 0 0 [] true)) (fun s => Run P n m c s K)) : Run P n m (.seq (.reg true ols) c) ⟨e, M⟩ K := by
  refine run_gh (gh_res k) (run_seq ?_)
  obtain ⟨xs, h1, h2⟩ := evX_sound h
  obtain ⟨h3, h4⟩ := runX_pure h2
  exact run_regX0 h1 (by simpa using h3) h4
theorem callxn {T : List (List Nat)} {f : Nat} {ps : List Pt} {x : XOp} {os : List OpL} {acc : List XOp} {K : St → Prop} {r : SV} {X : Blk} (hM : M[x.n]? = some (.rows 0 0 0 [] true)) (h : ∀ N : List Blk, N[x.n]? = some (.rows 0 0 0 [] true) → CallR P N f ps r (N.set x.n X))
    (hK : evX P T os (x.n + 1) (acc ++ [⟨x.op, [x.n], true, x.n⟩]) (put e x.op.dst r) (M.set x.n X) K) : CallX P T M f ps x os acc e K := .inr ⟨r, [x.n], [(x.n, X)], fun q hq => by obtain rfl := List.mem_singleton.1 hq; exact List.mem_singleton.2 rfl, fun N hN => h N ((hN x.n (List.mem_singleton.2 rfl)).trans hM), evX_sound hK⟩
/-- A call in a region of open order: which blocks it looks at, and which it writes. -/
theorem callxf {T : List (List Nat)} {f : Nat} {ps : List Pt} {x : XOp} {os : List OpL} {acc : List XOp} {K : St → Prop} {r : SV} (n' : Nat) (F : List Nat) (fs : List (Nat × Blk)) (hF : ∀ q ∈ fs, q.1 ∈ F) (h : ∀ N : List Blk, (∀ b ∈ F, N[b]? = M[b]?) → CallR P N f ps r (apL fs N))
    (hK : evX P T os n' (acc ++ [⟨x.op, F, !fs.isEmpty, x.n⟩]) (put e x.op.dst r) (apL fs M) K) : CallX P T M f ps x os acc e K := .inr ⟨r, F, fs, hF, h, evX_sound hK⟩
end
/-- The places of a region, told from a number on. -/
def unshift (q : Nat) (x : XOp) : XOp := ⟨x.op, x.F.map (· - q), x.w, x.n - q⟩
theorem pairs_un (q : Nat) {T : List (List Nat)} {xs : List XOp} (h : pairsX T (xs.map (unshift q)) = true) (hq : ∀ x ∈ xs, ∀ b ∈ x.F, q ≤ b) : pairsX T xs = true := by
  unfold pairsX at h ⊢
  rw [List.all_eq_true] at h ⊢
  intro i hi
  have hi' := h i (by simpa using hi)
  rw [List.all_eq_true] at hi' ⊢
  intro k hk
  have h1 := hi' k hk
  simp only [Bool.or_eq_true] at h1 ⊢
  rcases h1 with h1 | h1
  · exact .inl h1
  · right
    simp only [List.getElem?_map] at h1
    cases hx : xs[i]? with
    | none => rw [hx] at h1; cases hy : xs[k]? <;> rw [hy] at h1 <;> cases h1
    | some x =>
      cases hy : xs[k]? with
      | none => rw [hx, hy] at h1; cases h1
      | some y =>
        rw [hx, hy] at h1
        simp only [Option.map_some] at h1
        have hxq := hq x (List.mem_of_getElem? hx)
        have hyq := hq y (List.mem_of_getElem? hy)
        unfold commX at h1 ⊢
        simp only [Bool.and_eq_true, Bool.or_eq_true] at h1 ⊢
        refine ⟨h1.1, h1.2.imp id (fun h2 => ?_)⟩
        rw [List.all_eq_true] at h2 ⊢
        intro b hb
        have h3 := h2 (b - q) (List.mem_map.2 ⟨b, hb, rfl⟩)
        simp only [unshift, Bool.not_eq_true'] at h3
        simp only [Bool.not_eq_true']
        cases hc : x.F.contains b with
        | false => rfl
        | true =>
          exfalso
          have : (x.F.map (· - q)).contains (b - q) = true := by
            rw [List.contains_iff_mem]
            exact List.mem_map.2 ⟨b, List.contains_iff_mem.1 hc, rfl⟩
          rw [this] at h3
          cases h3
end Go.Proofs.YtcmkhlfjcdchmaaGreatAbs
end
