/- Part 6 of the texts on which the row stands: ShJ, ShK, ShL, ShM, ShN, ShO, ShP, ShQ, ShR, ShS, ShVa, ShT, ShVb, ShVc, ShU, ShW, ShX. Conditions: none. -/
import Derived.Test.YtcmkhlfjcdchmaaGreatPgpe
import Derived.KernelRfl
set_option linter.unusedVariables false
set_option linter.unusedSimpArgs false
section
namespace Go.Proofs.YtcmkhlfjcdchmaaGreat.A
open Go Go.Proofs.YtcmkhlfjcdchmaaGreatAbs
theorem ovl_lin : Ovl Tryz.prog 133 2 := ⟨⟨_, 26, 4, 49, Tryz.func133, by kernel_rfl, by kernel_rfl, by kernel_rfl, by kernel_rfl, by kernel_rfl, by kernel_rfl⟩⟩
abbrev ansA (a : Ans) : Pt := .agg [.c (.v (.int .i64 a.code)), .c (.v (.bool a.has)), .c (.v (.int .i64 a.n))]
theorem snap_shf {M : List Blk} {b vb c vc : Nat} {lines : List Lin} {dones : List Dn} {fb fc : Bool} (hb : M[b]? = some (lnR vb lines fb)) (hc : M[c]? = some (dnR vc dones fc)) (f : Int) : SnapP M (ownA b vb lines.length c vc dones.length f) (shfA ⟨lines, dones, f⟩) := by
  have h1 : Snap M (.arr 2 b vb 0 lines.length) (.c (immL 2 Lin.c lines)) := snapL lines hb
  have h2 : Snap M (.arr 5 c vc 0 dones.length) (.c (immL 5 Dn.c dones)) := snapL dones hc
  refine ⟨rfl, fun k a a' h h' => ?_⟩
  match k, h, h' with
  | 0, h, h' => injection h with h; injection h' with h'; subst h; subst h'; exact h1
  | 1, h, h' => injection h with h; injection h' with h'; subst h; subst h'; exact h2
  | 2, h, h' => injection h with h; injection h' with h'; subst h; subst h'; exact Snap.same _ trivial
/-- A list's place where a series' line is, or is put. -/
def wrL (lines : List Lin) (k : ByteArray) : List Lin := if hitL lines k = true then lines else lines.take (atL lines k) ++ ⟨k, []⟩ :: lines.drop (atL lines k)
def writeS (lines : List Lin) (floor : Int) (o : Opn) : List Lin × Ans :=
  if o.smp.t < floor then (lines, ⟨9, false, 0⟩)
  else if hitL lines o.ser = false ∧ lines.length = 16 then (lines, ⟨6, false, 0⟩)
  else
    let i := atL lines o.ser
    let l1 := wrL lines o.ser
    let p := putS (l1.getD i default).smps o.smp
    (l1.set i ⟨(l1.getD i default).ser, p.1⟩, if p.2 = 7 then ⟨0, false, 0⟩ else ⟨p.2, decide (p.2 = 0), 0⟩)
section
variable {M l : List Blk} {k b : Nat} {X Y : Blk}
theorem mgetS : (M.set b Y ++ l)[M.length + k]? = l[k]? := by
  have := mget (M := M.set b Y) (l := l) (k := k)
  rwa [List.length_set] at this
theorem mgetS0 : (M.set b Y ++ l)[M.length]? = l[0]? := mgetS (k := 0)
theorem msetS : (M.set b Y ++ l).set (M.length + k) X = M.set b Y ++ l.set k X := by
  have := mset (M := M.set b Y) (l := l) (k := k) (X := X)
  rwa [List.length_set] at this
theorem msetS0 : (M.set b Y ++ l).set M.length X = M.set b Y ++ l.set 0 X := msetS (k := 0)
end
theorem evo_of_gh {M M' : List Blk} (h : ∀ m, Gh 0 m ⟨fun _ => .any, M⟩ ⟨fun _ => .any, M'⟩) (I : Im) (σ : List Plc) (w : World) (hm : Mem I σ M w) : ∃ I' σ', Evo I σ M w I' σ' M' w := by
  have hs : Sim 0 I σ M w ⟨fun _ => .any, M⟩ ⟨#[], []⟩ w := ⟨I, σ, Evo.refl hm, fun i => trivial, rfl, rfl⟩
  obtain ⟨I', σ', hev, _⟩ := h σ.length I σ M w ⟨#[], []⟩ w rfl hs
  exact ⟨I', σ', hev⟩
theorem getD_ins {α : Type} [Inhabited α] {l : List α} {i : Nat} {x : α} (h : i ≤ l.length) : (l.take i ++ x :: l.drop i).getD i default = x := by
  have h1 : (l.take i).length = i := by rw [List.length_take]; omega
  rw [List.getD_eq_getElem?_getD, List.getElem?_append_right (by omega), h1, Nat.sub_self]
  rfl
def tailW : C :=
 (.seq (.reg true [⟨some 50, .fa 0 (.t 2), none⟩, ⟨some 51, .ld false 1 (.t 50), none⟩, ⟨some 52, .mv (.t 6), none⟩, ⟨some 53, .ia 2 (.t 51) (.t 52), none⟩, ⟨some 54, .fa 1 (.t 53), none⟩, ⟨some 55, .ld false 1 (.t 54), none⟩, ⟨some 56, .fa 2 (.t 3), none⟩, ⟨some 57, .ld true 2 (.t 56), none⟩, ⟨some 58, .call (kf n_samples_Put) [(.t 55), (.t 57)], none⟩, ⟨some 49, .mv (.t 58), none⟩, ⟨some 59, .ex (.t 49) 0, none⟩, ⟨some 60, .ex (.t 49) 1, none⟩, ⟨some 8, .mv (.t 59), none⟩, ⟨some 9, .mv (.t 60), none⟩])
 (.seq (.reg false [⟨some 61, .fa 0 (.t 2), none⟩, ⟨some 62, .ld false 1 (.t 61), none⟩, ⟨some 63, .mv (.t 6), none⟩, ⟨some 64, .mv (.t 8), none⟩, ⟨some 65, .ia 2 (.t 62) (.t 63), none⟩, ⟨some 66, .fa 1 (.t 65), none⟩, ⟨none, .st 1 (.t 66) (.t 64), none⟩])
 (.seq (.seq (.reg false [⟨some 67, .mv (.t 9), none⟩, ⟨some 68, .bin .eql (.t 67) (ki 7), none⟩])
 (.cond (.t 68)
 (.seq (.reg false [⟨some 69, .ld true 3 (.t 2), none⟩, ⟨some 70, .bld [.int .i64 0, .bool false, .int .i64 0] [], none⟩, ⟨none, .st 3 (.t 4) (.t 69), none⟩, ⟨none, .st 3 (.t 5) (.t 70), none⟩])
 .ret)
 .skip))
 (.seq (.reg false [⟨some 71, .ld true 3 (.t 2), none⟩, ⟨some 72, .mv (.t 9), none⟩, ⟨some 73, .mv (.t 9), none⟩, ⟨some 74, .bin .eql (.t 73) (ki 0), none⟩, ⟨some 75, .bld [.int .i64 0, .bool false, .int .i64 0] [(0, 1, (.t 72)), (1, 1, (.t 74))], none⟩, ⟨none, .st 3 (.t 4) (.t 71), none⟩, ⟨none, .st 3 (.t 5) (.t 75), none⟩])
 .ret))))
abbrev boxS (b v ll c vc dl : Nat) (f : Int) : Blk := .rows 29 3 0 [[.arr 2 b v 0 ll, .arr 5 c vc 0 dl, .c (.v (.int .i64 f))]] true
abbrev zSh : Blk := .rows 29 3 0 [[.c (.v (.slice none 0 0)), .c (.v (.slice none 0 0)), .c (.v (.int .i64 0))]] true
abbrev ansB (a : Ans) : Blk := .rows 41 3 0 [[.c (.v (.int .i64 a.code)), .c (.v (.bool a.has)), .c (.v (.int .i64 a.n))]] true
/-- The end of a function whose results are a shelf and an answer. -/
theorem endSA {n : Nat} {M1 : List Blk} {b v c vc dl : Nat} {l2 : List Lin} {f : Bool} (hbl : b < M1.length) (hcl : c < M1.length) (hMB : ∀ x ∈ M1, ltB M1.length x) (floor : Int) (a : Ans) (e : Nat → SV) (D : List Blk) (X0 X1 : Blk)
    (h4 : e 4 = .p (.one (.ptr (M1.length + 2) 0 0 0))) (h5 : e 5 = .p (.one (.ptr (M1.length + 3) 0 0 0))) :
    FinK n M1.length [.l true 3 4, .l true 3 5] (.tup [ownA b v l2.length c vc dl floor, ansA a]) (M1.set b (lnR v l2 f)) .ret ⟨e, M1.set b (lnR v l2 f) ++ ([X0, X1, boxS b v l2.length c vc dl floor, ansB a] ++ D)⟩ := by
  have hg2 : ∀ l : List Blk, (M1.set b (lnR v l2 f) ++ l)[M1.length + 2]? = l[2]? := fun l => by
    have := mget (M := M1.set b (lnR v l2 f)) (l := l) (k := 2)
    rwa [List.length_set] at this
  have hg3 : ∀ l : List Blk, (M1.set b (lnR v l2 f) ++ l)[M1.length + 3]? = l[3]? := fun l => by
    have := mget (M := M1.set b (lnR v l2 f)) (l := l) (k := 3)
    rwa [List.length_set] at this
  refine fin_m (.inr rfl) (Gh.refl _) _ (qs := [ownA b v l2.length c vc dl floor, ansA a]) (cnd := True ∧ True) ?_ ⟨trivial, trivial⟩ rfl (SubS.refl _) ?_ ?_ ?_
  · simp only [go_sem, h4, h5, hg2, hg3]
  · rw [List.length_set]; exact Nat.le_refl _
  · simp only [go_sem, List.length_set]
    exact ⟨hbl, hcl⟩
  · exact ltM_set hMB (rowsL_ltB _ _ _ _ _)
def putL (l1 : List Lin) (i : Nat) (s : Smp) : List Lin × Ans :=
  (l1.set i ⟨(l1.getD i default).ser, (putS (l1.getD i default).smps s).1⟩, if (putS (l1.getD i default).smps s).2 = 7 then ⟨0, false, 0⟩ else ⟨(putS (l1.getD i default).smps s).2, decide ((putS (l1.getD i default).smps s).2 = 0), 0⟩)
set_option maxRecDepth 20000 in
theorem wrTail {M1 : List Blk} {b v c vc dl : Nat} {l1 : List Lin} {f : Bool} (hb : M1[b]? = some (lnR v l1 f)) (hcl : c < M1.length) (hMB : ∀ x ∈ M1, ltB M1.length x) (floor : Int) (o : Opn) (i : Nat) (hi : i < l1.length) (hl1 : l1.length ≤ 2000) (hsz : (l1.getD i default).smps.length ≤ 1000) (e : Nat → SV) (D : List Blk)
    (h2 : e 2 = .p (.one (.ptr M1.length 0 0 0))) (h3 : e 3 = .p (.one (.ptr (M1.length + 1) 0 0 0))) (h4 : e 4 = .p (.one (.ptr (M1.length + 2) 0 0 0))) (h5 : e 5 = .p (.one (.ptr (M1.length + 3) 0 0 0))) (h6 : e 6 = .i i) :
    Run Tryz.prog 76 M1.length tailW ⟨e, M1 ++ ([boxS b v l1.length c vc dl floor, .rows 35 7 0 [opRow o] true, zSh, ansB ⟨0, false, 0⟩] ++ D)⟩ (FinK 76 M1.length [.l true 3 4, .l true 3 5] (.tup [ownA b v (putL l1 i o.smp).1.length c vc dl floor, ansA (putL l1 i o.smp).2]) (M1.set b (lnR v (putL l1 i o.smp).1 f))) := by
  have hbl : b < M1.length := getElem?_lt hb
  have hbA : ∀ l : List Blk, (M1 ++ l)[b]? = some (lnR v l1 f) := fun l => by rw [ga hbl, hb]
  have hsA : ∀ (l : List Blk) (X : Blk), (M1 ++ l).set b X = M1.set b X ++ l := fun l X => sa hbl
  have hrow := rowsL_getD (sz := 2) (c := Lin.c) hi
  simp only [go_sem] at hrow
  refine run_seqV ?_
  simp only [go_sem, mget, mget0, mset, mset0, h2, h3, h4, h5, h6, hbA, opRow, hrow]
  refine ⟨by omega, hi, hi, call0 (Put_rc (l1.getD i default).smps (by omega) o.smp) ?_⟩
  simp only [go_sem, mget, mget0, mset, mset0, h2, h3, h4, h5, h6, hbA, opRow, hrow]
  refine run_seqV ?_
  have hset : (rowsL 2 Lin.c l1).set i [.c (.v (.string (l1.getD i default).ser)), .c (smpCV (putS (l1.getD i default).smps o.smp).1)] = rowsL 2 Lin.c (putL l1 i o.smp).1 := rowsL_set (sz := 2) (c := Lin.c) l1 i ⟨(l1.getD i default).ser, (putS (l1.getD i default).smps o.smp).1⟩
  simp only [go_sem, mget, mget0, mset, mset0, h2, h3, h4, h5, h6, hbA, hsA, opRow, hrow, hset]
  have hlen : (putL l1 i o.smp).1.length = l1.length := by rw [putL, List.length_set]
  refine ⟨by omega, hi, hi, ?_⟩
  by_cases h7 : (putS (l1.getD i default).smps o.smp).2 = 7
  · have ha : (putL l1 i o.smp).2 = ⟨0, false, 0⟩ := by rw [putL, if_pos h7]
    refine run_seqV ?_
    simp only [go_sem, mgetS, mgetS0, msetS, msetS0, h2, h3, h4, h5, h7]
    have := endSA (n := 76) (v := v) (l2 := (putL l1 i o.smp).1) (f := f) hbl hcl hMB floor (putL l1 i o.smp).2 (dl := dl) (vc := vc)
    rw [ha, hlen] at this ⊢
    exact this _ D _ _ (by simp only [go_sem, h4]) (by simp only [go_sem, h5])
  · have ha : (putL l1 i o.smp).2 = ⟨(putS (l1.getD i default).smps o.smp).2, decide ((putS (l1.getD i default).smps o.smp).2 = 0), 0⟩ := by rw [putL, if_neg h7]
    refine run_seqV ?_
    simp only [go_sem, mgetS, mgetS0, msetS, msetS0, h2, h3, h4, h5, h7]
    refine V_sound ?_
    simp only [go_sem, mgetS, mgetS0, msetS, msetS0, h2, h3, h4, h5, h7]
    have := endSA (n := 76) (v := v) (l2 := (putL l1 i o.smp).1) (f := f) hbl hcl hMB floor (putL l1 i o.smp).2 (dl := dl) (vc := vc)
    rw [ha, hlen] at this ⊢
    exact this _ D _ _ (by simp only [go_sem, h4]) (by simp only [go_sem, h5])
set_option maxRecDepth 20000 in
theorem write_rc {M : List Blk} {b vb c vc : Nat} {lines : List Lin} {dones : List Dn} {fb fc : Bool} (hbc : b ≠ c) (hb : M[b]? = some (lnR vb lines fb)) (hc : M[c]? = some (dnR vc dones fc)) (hMB : ∀ x ∈ M, ltB M.length x) (floor : Int) (o : Opn)
    (hll : lines.length ≤ 1000) (hdl : dones.length ≤ 1000) (hsm : ∀ i, i < lines.length → (lines.getD i default).smps.length ≤ 1000) :
    ∃ v f, CallR Tryz.prog M n_shelf_write [ownA b vb lines.length c vc dones.length floor, opnA o] (.tup [ownA b v (writeS lines floor o).1.length c vc dones.length floor, ansA (writeS lines floor o).2]) (M.set b (lnR v (writeS lines floor o).1 f)) := by
  have hbl : b < M.length := getElem?_lt hb
  have hcl : c < M.length := getElem?_lt hc
  have hbA : ∀ l : List Blk, (M ++ l)[b]? = some (lnR vb lines fb) := fun l => by rw [ga hbl, hb]
  have hcA : ∀ l : List Blk, (M ++ l)[c]? = some (dnR vc dones fc) := fun l => by rw [ga hcl, hc]
  obtain ⟨N, hN⟩ : ∃ N : Prop, N = (¬ o.smp.t < floor ∧ ¬ (hitL lines o.ser = false ∧ lines.length = 16) ∧ hitL lines o.ser = false) := ⟨_, rfl⟩
  have hNd : Decidable N := by rw [hN]; infer_instance
  refine ⟨if N then vb + 1 else vb, if N then false else fb, callR_intro F_shelf_write (by simp) ?_⟩
  have hend : ∀ (lines' : List Lin) (v : Nat) (f : Bool) (a : Ans) (e : Nat → SV) (D : List Blk) (X0 X1 : Blk), e 4 = .p (.one (.ptr (M.length + 2) 0 0 0)) → e 5 = .p (.one (.ptr (M.length + 3) 0 0 0)) →
      FinK 76 M.length [.l true 3 4, .l true 3 5] (.tup [ownA b v lines'.length c vc dones.length floor, ansA a]) (M.set b (lnR v lines' f)) .ret ⟨e, M.set b (lnR v lines' f) ++ ([X0, X1, .rows 29 3 0 [[.arr 2 b v 0 lines'.length, .arr 5 c vc 0 dones.length, .c (.v (.int .i64 floor))]] true, .rows 41 3 0 [[.c (.v (.int .i64 a.code)), .c (.v (.bool a.has)), .c (.v (.int .i64 a.n))]] true] ++ D)⟩ := by
    intro lines' v f a e D X0 X1 h4 h5
    have hg2 : ∀ l : List Blk, (M.set b (lnR v lines' f) ++ l)[M.length + 2]? = l[2]? := fun l => by
      have := mget (M := M.set b (lnR v lines' f)) (l := l) (k := 2)
      rwa [List.length_set] at this
    have hg3 : ∀ l : List Blk, (M.set b (lnR v lines' f) ++ l)[M.length + 3]? = l[3]? := fun l => by
      have := mget (M := M.set b (lnR v lines' f)) (l := l) (k := 3)
      rwa [List.length_set] at this
    refine fin_m (.inr rfl) (Gh.refl _) _ (qs := [ownA b v lines'.length c vc dones.length floor, ansA a]) (cnd := True ∧ True) ?_ ⟨trivial, trivial⟩ rfl (SubS.refl _) ?_ ?_ ?_
    · simp only [go_sem, h4, h5, hg2, hg3]
    · rw [List.length_set]; exact Nat.le_refl _
    · simp only [go_sem, List.length_set]
      exact ⟨hbl, hcl⟩
    · exact ltM_set hMB (rowsL_ltB _ _ _ _ _)
  refine run_seqV ?_
  simp only [go_sem, mget, mget0, mset, mset0, List.append_assoc, List.length_append, List.length_cons, List.length_nil, Nat.zero_add, Nat.add_assoc, Nat.reduceAdd]
  refine run_seqV ?_
  simp only [go_sem, mget, mget0, mset, mset0]
  refine callL (line_rc ⟨lines, dones, floor⟩ (by simp only; omega) o.ser []) ⟨snap_shf (hbA _) (hcA _) floor, Snap.same _ trivial, trivial⟩ (by simp only [go_sem]) ?_
  simp only [go_sem]
  have hsame : ∀ (a : Ans) (e : Nat → SV) (D : List Blk) (X0 X1 : Blk), ¬ N → writeS lines floor o = (lines, a) → e 4 = .p (.one (.ptr (M.length + 2) 0 0 0)) → e 5 = .p (.one (.ptr (M.length + 3) 0 0 0)) →
      FinK 76 M.length [.l true 3 4, .l true 3 5] (.tup [ownA b (if N then vb + 1 else vb) (writeS lines floor o).1.length c vc dones.length floor, ansA (writeS lines floor o).2]) (M.set b (lnR (if N then vb + 1 else vb) (writeS lines floor o).1 (if N then false else fb))) .ret ⟨e, M ++ ([X0, X1, .rows 29 3 0 [[.arr 2 b vb 0 lines.length, .arr 5 c vc 0 dones.length, .c (.v (.int .i64 floor))]] true, .rows 41 3 0 [[.c (.v (.int .i64 a.code)), .c (.v (.bool a.has)), .c (.v (.int .i64 a.n))]] true] ++ D)⟩ := by
    intro a e D X0 X1 hn hw h4 h5
    rw [hw, if_neg hn, if_neg hn]
    have := hend lines vb fb a e D X0 X1 h4 h5
    rwa [set_self hb] at this ⊢
  refine run_seqV ?_
  by_cases hfl : o.smp.t < floor
  · simp only [go_sem, mget, mget0, mset, mset0, hbA, hcA, hfl, decide_true]
    exact hsame ⟨9, false, 0⟩ _ [] _ _ (by rw [hN]; exact fun h => h.1 hfl) (by rw [writeS, if_pos hfl]) (by simp only [go_sem]) (by simp only [go_sem])
  cases hh : hitL lines o.ser with
  | true =>
    have hn : ¬ N := by rw [hN, hh]; simp
    have hw : writeS lines floor o = putL lines (atL lines o.ser) o.smp := by
      rw [writeS, if_neg hfl, if_neg (by rw [hh]; simp), wrL, if_pos hh, putL]
    rw [hw, if_neg hn, if_neg hn]
    have hi := hitL_lt hh
    simp only [go_sem, mget, mget0, mset, mset0, hbA, hcA, hfl, hh, decide_false]
    exact wrTail hb hcl hMB floor o (atL lines o.ser) hi (by omega) (hsm _ hi) _ [] (by simp only [go_sem]) (by simp only [go_sem]) (by simp only [go_sem]) (by simp only [go_sem]) (by simp only [go_sem])
  | false =>
    by_cases h16 : lines.length = 16
    · have h16' : ((lines.length : Int) = 16) = True := eq_true (by omega)
      simp only [go_sem, mget, mget0, mset, mset0, hbA, hcA, hfl, hh, decide_false, h16']
      exact hsame ⟨6, false, 0⟩ _ [] _ _ (by rw [hN]; exact fun h => h.2.1 ⟨hh, h16⟩) (by rw [writeS, if_neg hfl, if_pos ⟨hh, h16⟩]) (by simp only [go_sem]) (by simp only [go_sem])
    · have h16' : ((lines.length : Int) == 16) = false := by
        rw [beq_eq_false_iff_ne]; omega
      have hn : N := by rw [hN]; exact ⟨hfl, fun h => h16 h.2, hh⟩
      have hat := atL_le lines o.ser
      have hwl : wrL lines o.ser = lines.take (atL lines o.ser) ++ ⟨o.ser, []⟩ :: lines.drop (atL lines o.ser) := by rw [wrL, if_neg (by rw [hh]; simp)]
      have hw : writeS lines floor o = putL (wrL lines o.ser) (atL lines o.ser) o.smp := by
        rw [writeS, if_neg hfl, if_neg (fun h => h16 h.2), putL]
      rw [hw, if_pos hn, if_pos hn]
      simp only [go_sem, mget, mget0, mset, mset0, hbA, hcA, hfl, hh, decide_false, h16', List.append_assoc, List.length_append, List.length_cons, List.length_nil, Nat.zero_add, Nat.reduceAdd]
      have hil : (wrL lines o.ser).length = lines.length + 1 := by
        rw [hwl]
        simp only [List.length_append, List.length_cons, List.length_take, List.length_drop]; omega
      have hB5 : ∀ (r : List AV), (∀ a ∈ r, ∀ q, ltA q a) → ∀ x ∈ M ++ [boxS b vb lines.length c vc dones.length floor, .rows 35 7 0 [opRow o] true, zSh, ansB ⟨0, false, 0⟩, .rows 49 2 0 [r] true], ltB (M ++ [boxS b vb lines.length c vc dones.length floor, .rows 35 7 0 [opRow o] true, zSh, ansB ⟨0, false, 0⟩, .rows 49 2 0 [r] true]).length x := by
        intro r hr
        refine ltM_app hMB ?_
        intro x hx
        simp only [List.mem_cons, List.not_mem_nil, or_false] at hx
        rcases hx with rfl | rfl | rfl | rfl | rfl
        · simp only [go_sem, ltB, List.length_cons, List.length_nil]
          omega
        · simp only [go_sem, ltB, opRow]
        · simp only [go_sem, ltB]
        · simp only [go_sem, ltB]
        · intro r' hr' a ha
          obtain rfl := List.mem_singleton.1 hr'
          exact hr a ha _
      have hins := ins_rc (M := M ++ [boxS b vb lines.length c vc dones.length floor, .rows 35 7 0 [opRow o] true, zSh, ansB ⟨0, false, 0⟩, .rows 49 2 0 [cellsUp (Lin.c ⟨o.ser, []⟩) 0 2] true]) (b := b) (c := M.length + 4) (i := atL lines o.ser) (l := rowsL 2 Lin.c lines) (row := cellsUp (Lin.c ⟨o.ser, []⟩) 0 2) F_slices_Insert_api_Line_api_Line ovl_lin (by decide) (by omega) (hbA _) (by rw [mget]; rfl) (by rw [rowsL_len]; exact hat) (by rw [rowsL_len]; omega) (by rw [rowsL_len]; omega) (hB5 _ (fun a ha q => cellsUp_ltA q _ _ _ a ha))
      rw [rowsL_ins, rowsL_len, ← hwl, ← hil] at hins
      have hgh := evo_of_gh (fun m => gh_sub_cell (n := 0) (m := m) (e := fun _ => .any) (M := M ++ [boxS b vb lines.length c vc dones.length floor, .rows 35 7 0 [opRow o] true, zSh, ansB ⟨0, false, 0⟩, .rows 49 2 0 [[.c (.v (.string o.ser)), .c (.v (.slice none 0 0))]] true]) (b := M.length + 4) (i := 0) (j := 1) (.c (.v (.slice none 0 0))) (.c (immL 2 Smp.c [])) (by rw [mget]; rfl) rfl rfl (nil_sub (α := Smp)))
      rw [mset] at hgh
      refine call1 (callR_ghost hgh hins) (by simp only [go_sem]) (fun h => Bool.noConfusion h) ?_
      rw [sa hbl]
      simp only [go_sem, mgetS, mgetS0, msetS, msetS0]
      have hget : (wrL lines o.ser).getD (atL lines o.ser) default = ⟨o.ser, []⟩ := by
        rw [hwl]; exact getD_ins hat
      have ht := wrTail (M1 := M.set b (lnR (vb + 1) (wrL lines o.ser) false)) (b := b) (c := c) (vc := vc) (dl := dones.length) (gb hbl) (by rw [List.length_set]; exact hcl) (ltM_set hMB (rowsL_ltB _ _ _ _ _)) floor o (atL lines o.ser) (by omega) (by omega) (by rw [hget]; exact Nat.zero_le _)
      simp only [List.length_set, List.set_set] at ht
      exact ht _ [_] (by simp only [go_sem]) (by simp only [go_sem]) (by simp only [go_sem]) (by simp only [go_sem]) (by simp only [go_sem])
end Go.Proofs.YtcmkhlfjcdchmaaGreat.A
end
section
namespace Go.Proofs.YtcmkhlfjcdchmaaGreat.A
open Go Go.Proofs.YtcmkhlfjcdchmaaGreatAbs
def bareL (x : Lin) : Bool := decide (x.smps.length = 0)
theorem trim1_rc (x : Lin) (M : List Blk) : CallR Tryz.prog M n_shelf_trim_1 [.agg [.c (.v (.string x.ser)), .c (smpCV x.smps)]] (.b (bareL x)) M := by
  refine callP F_shelf_trim_1 (Nat.le_of_ble_eq_true rfl) (by simp only [go_sem]) (by simp only [go_sem]) ?_ M
  simp only [c_shelf_trim_1, go_sem]
  rw [bareL, Bool.eq_iff_iff]
  simp
def trimF (a : Int) (x : Lin) : Lin := ⟨x.ser, trimS x.smps a⟩
def trimL (lines : List Lin) (a : Int) : List Lin := (lines.map (trimF a)).filter fun x => !bareL x
def trimSh (lines : List Lin) (floor a : Int) : List Lin × Int × Ans := if a < floor then (lines, floor, ⟨9, false, 0⟩) else (trimL lines a, a, ⟨0, false, 0⟩)
def trimK (lines : List Lin) (a : Int) (k : Nat) : List Lin := (lines.take k).map (trimF a) ++ lines.drop k
theorem trimK_len (lines : List Lin) (a : Int) (k : Nat) : (trimK lines a k).length = lines.length := by
  simp only [trimK, List.length_append, List.length_map, List.length_take, List.length_drop]; omega
theorem trimK_get {lines : List Lin} {a : Int} {k : Nat} (h : k < lines.length) : (trimK lines a k).getD k default = lines.getD k default := by
  have h1 : ((lines.take k).map (trimF a)).length = k := by rw [List.length_map, List.length_take]; omega
  rw [trimK, List.getD_eq_getElem?_getD, List.getElem?_append_right (by omega), h1, Nat.sub_self, List.getElem?_drop, Nat.add_zero, List.getD_eq_getElem?_getD]
theorem trimK_set {lines : List Lin} {a : Int} {k : Nat} (h : k < lines.length) : (trimK lines a k).set k (trimF a (lines.getD k default)) = trimK lines a (k + 1) := by
  have h1 : ((lines.take k).map (trimF a)).length = k := by rw [List.length_map, List.length_take]; omega
  rw [trimK, trimK, List.set_append_right _ _ (by omega), h1, Nat.sub_self, take_succ_getD default h, List.map_append, drop_getD default h]
  simp
set_option maxRecDepth 20000 in
theorem trim_rc {M : List Blk} {b vb c vc : Nat} {lines : List Lin} {dl : Nat} {fb : Bool} (hb : M[b]? = some (lnR vb lines fb)) (hcl : c < M.length) (hMB : ∀ x ∈ M, ltB M.length x) (floor a : Int)
    (hll : lines.length ≤ 1000) (hsm : ∀ i, i < lines.length → (lines.getD i default).smps.length ≤ 1000) :
    ∃ v f, CallR Tryz.prog M n_shelf_trim [ownA b vb lines.length c vc dl floor, .i a] (.tup [ownA b v (trimSh lines floor a).1.length c vc dl (trimSh lines floor a).2.1, ansA (trimSh lines floor a).2.2]) (M.set b (lnR v (trimSh lines floor a).1 f)) := by
  have hbl : b < M.length := getElem?_lt hb
  have hbA : ∀ l : List Blk, (M ++ l)[b]? = some (lnR vb lines fb) := fun l => by rw [ga hbl, hb]
  have hend : ∀ (l2 : List Lin) (v : Nat) (f : Bool) (fl : Int) (a : Ans) (e : Nat → SV) (D : List Blk) (X0 : Blk), e 4 = .p (.one (.ptr (M.length + 1) 0 0 0)) → e 5 = .p (.one (.ptr (M.length + 2) 0 0 0)) →
      FinK 40 M.length [.l true 3 4, .l true 3 5] (.tup [ownA b v l2.length c vc dl fl, ansA a]) (M.set b (lnR v l2 f)) .ret ⟨e, M.set b (lnR v l2 f) ++ ([X0, boxS b v l2.length c vc dl fl, ansB a] ++ D)⟩ := by
    intro l2 v f fl a e D X0 h4 h5
    refine fin_m (.inr rfl) (Gh.refl _) _ (qs := [ownA b v l2.length c vc dl fl, ansA a]) (cnd := True ∧ True) ?_ ⟨trivial, trivial⟩ rfl (SubS.refl _) ?_ ?_ ?_
    · simp only [go_sem, h4, h5, mgetS]
    · rw [List.length_set]; exact Nat.le_refl _
    · simp only [go_sem, List.length_set]
      exact ⟨hbl, hcl⟩
    · exact ltM_set hMB (rowsL_ltB _ _ _ _ _)
  by_cases hfl : a < floor
  · refine ⟨vb, fb, callR_intro F_shelf_trim (by simp) ?_⟩
    have hw : trimSh lines floor a = (lines, floor, ⟨9, false, 0⟩) := by rw [trimSh, if_pos hfl]
    rw [hw]
    refine run_seqV ?_
    simp only [go_sem, mget, mget0, mset, mset0, List.append_assoc, List.length_append, List.length_cons, List.length_nil, Nat.zero_add, Nat.add_assoc, Nat.reduceAdd]
    refine run_seqV ?_
    simp only [go_sem, mget, mget0, mset, mset0, hfl, decide_true]
    have := hend lines vb fb floor ⟨9, false, 0⟩
    rw [set_self hb] at this ⊢
    exact this _ [] _ (by simp only [go_sem]) (by simp only [go_sem])
  · refine ⟨vb, false, callR_intro F_shelf_trim (by simp) ?_⟩
    have hw : trimSh lines floor a = (trimL lines a, a, ⟨0, false, 0⟩) := by rw [trimSh, if_neg hfl]
    rw [hw]
    refine run_seqV ?_
    simp only [go_sem, mget, mget0, mset, mset0, List.append_assoc, List.length_append, List.length_cons, List.length_nil, Nat.zero_add, Nat.add_assoc, Nat.reduceAdd]
    refine run_seqV ?_
    simp only [go_sem, mget, mget0, mset, mset0, hfl, decide_false]
    refine run_seqV ?_
    simp only [go_sem, mget, mget0, mset, mset0]
    refine run_seqV ?_
    simp only [go_sem, mget, mget0, mset, mset0, hbA]
    have hMk : ∀ k, ∀ x ∈ M.set b (lnR vb (trimK lines a k) fb) ++ [boxS b vb lines.length c vc dl a, zSh, ansB ⟨0, false, 0⟩], ltB (M.set b (lnR vb (trimK lines a k) fb) ++ [boxS b vb lines.length c vc dl a, zSh, ansB ⟨0, false, 0⟩]).length x := by
      intro k
      refine ltM_app (ltM_set hMB (rowsL_ltB _ _ _ _ _)) ?_
      intro x hx
      simp only [List.mem_cons, List.not_mem_nil, or_false] at hx
      rw [List.length_set]
      rcases hx with rfl | rfl | rfl
      · simp only [go_sem, ltB, List.length_cons, List.length_nil]
        omega
      · simp only [go_sem, ltB]
      · simp only [go_sem, ltB]
    refine R_loop (ι := Nat) (J := fun k => k ≤ lines.length)
      (env := fun k => [(1, .i a), (2, .p (.one (.ptr M.length 0 0 0))), (4, .p (.one (.ptr (M.length + 1) 0 0 0))), (5, .p (.one (.ptr (M.length + 2) 0 0 0))), (17, .p (.one (.arr 2 b vb 0 lines.length))), (18, .i lines.length), (19, .i k)])
      (mem := fun k => M.set b (lnR vb (trimK lines a k) fb) ++ [boxS b vb lines.length c vc dl a, zSh, ansB ⟨0, false, 0⟩])
      (μ := fun k => lines.length - k) 0 (Nat.zero_le _) ⟨[], ?_, ?_, ?_, hMk 0⟩ ?_
    · have : trimK lines a 0 = lines := by simp [trimK]
      rw [this, set_self hb, List.append_nil]
    · rw [List.length_append, List.length_set]; omega
    · simp only [go_sem, List.length_append, List.length_cons, List.length_nil, List.length_set]
      omega
    rintro k hk
    have hbK : ∀ l : List Blk, (M.set b (lnR vb (trimK lines a k) fb) ++ l)[b]? = some (lnR vb (trimK lines a k) fb) := fun l => by rw [ga (by rw [List.length_set]; exact hbl), gb hbl]
    have hsK : ∀ (l : List Blk) (X : Blk), (M.set b (lnR vb (trimK lines a k) fb) ++ l).set b X = M.set b X ++ l := fun l X => by rw [sa (by rw [List.length_set]; exact hbl), List.set_set]
    refine run_seqV ?_
    simp only [go_sem]
    refine run_seqV ?_
    simp only [go_sem]
    refine ⟨fun h1 => ?_, fun h1 => ?_⟩
    · have hrow := rowsL_getD (sz := 2) (c := Lin.c) (l := trimK lines a k) (i := k) (by rw [trimK_len]; exact h1)
      rw [trimK_get h1] at hrow
      have hset := rowsL_set (sz := 2) (c := Lin.c) (trimK lines a k) k (trimF a (lines.getD k default))
      rw [trimK_set h1] at hset
      simp only [go_sem, trimF] at hrow hset
      have hs1 := hsm k h1
      have hkl := trimK_len lines a k
      refine run_seq ?_
      refine run_block ?_
      refine run_seqV ?_
      simp only [go_sem, mgetS, mgetS0, msetS, msetS0, hbK, hrow, hkl, List.append_assoc, List.length_append, List.length_cons, List.length_nil, List.length_set, Nat.zero_add, Nat.add_assoc, Nat.reduceAdd]
      refine ⟨by omega, h1, V_sound ?_⟩
      simp only [go_sem, mgetS, mgetS0, msetS, msetS0, hbK]
      refine call0 (Trim_rc (lines.getD k default).smps (by omega) a) ?_
      simp only [go_sem, mgetS, mgetS0, msetS, msetS0, hbK, hsK, hrow, hset, hkl]
      refine ⟨by omega, h1, h1, V_sound ?_⟩
      simp only [go_sem, w64s (show k < 9223372036854775807 by omega)]
      refine ⟨k + 1, h1, by omega, [_], by simp only [List.append_assoc, List.cons_append, List.nil_append]; rfl, ?_, ?_, hMk (k + 1)⟩
      · rw [List.length_append, List.length_set]; omega
      · simp only [go_sem, List.length_append, List.length_cons, List.length_nil, List.length_set]
        omega
    · have hkl : k = lines.length := by omega
      subst hkl
      have hmap : trimK lines a lines.length = lines.map (trimF a) := by rw [trimK, List.take_length, List.drop_length, List.append_nil]
      have hM1 := hMk lines.length
      rw [hmap] at hbK hsK hM1 ⊢
      have hlm : (lines.map (trimF a)).length = lines.length := List.length_map ..
      have hd := delf_rc (P := Tryz.prog) (p := bareL) F_slices_DeleteFunc_api_Line_api_Line F_slices_IndexFunc_api_Line_api_Line rfl (by decide) (c := Lin.c) (b := b) (v := vb) (fb := fb) (l := lines.map (trimF a)) (M := M.set b (lnR vb (lines.map (trimF a)) fb) ++ [boxS b vb lines.length c vc dl a, zSh, ansB ⟨0, false, 0⟩]) (hbK _) (by omega) hM1 n_shelf_trim_1 0 (fun _ => default) (fun i hi => absurd hi (Nat.not_lt_zero _)) (fun i hi M => trim1_rc ((lines.map (trimF a)).getD i default) M)
      rw [hlm, hsK] at hd
      refine run_seqV ?_
      simp only [go_sem, mgetS, mgetS0, msetS, msetS0]
      refine call1 hd (by simp only [go_sem]) (fun h => Bool.noConfusion h) ?_
      simp only [go_sem, mgetS, mgetS0, msetS, msetS0]
      refine V_sound ?_
      simp only [go_sem, mgetS, mgetS0, msetS, msetS0]
      exact hend (trimL lines a) vb false a ⟨0, false, 0⟩ _ [] _ (by simp only [go_sem]) (by simp only [go_sem])
end Go.Proofs.YtcmkhlfjcdchmaaGreat.A
end
section
namespace Go.Proofs.YtcmkhlfjcdchmaaGreat.A
open Go Go.Proofs.YtcmkhlfjcdchmaaGreatAbs
def hasL (s : Shf) (k : ByteArray) : List Smp := if hitL s.lines k = true then (s.lines.getD (atL s.lines k) default).smps else []
def lookS (s : Shf) (o : Opn) : Ans := if o.kind = 4 then ⟨0, (getS (hasL s o.ser) o.frm).2, (getS (hasL s o.ser) o.frm).1.v⟩ else ⟨0, (totS o.tot (rangeS (hasL s o.ser) o.frm o.to)).2, (totS o.tot (rangeS (hasL s o.ser) o.frm o.to)).1⟩
theorem rangeS_len (l : List Smp) (a b : Int) : (rangeS l a b).length ≤ l.length := by
  unfold rangeS
  split
  · rw [List.length_take, List.length_drop]; omega
  · exact Nat.zero_le _
set_option maxRecDepth 20000 in
theorem look_rc (s : Shf) (hz : zShf s) (o : Opn) (M : List Blk) : CallR Tryz.prog M n_shelf_look [shfA s, opnA o] (.p (ansA (lookS s o))) M := by
  refine callPG F_shelf_look (Nat.le_of_ble_eq_true rfl) (by simp only [go_sem]) ?_ M
  obtain ⟨lines, dones, floor⟩ := s
  obtain ⟨hll, hdl, hser, hsmp⟩ := hz
  simp only at hll hdl hser hsmp ⊢
  have hend : ∀ (a : Ans) (e : Nat → SV) (X0 X1 : Blk) (D : List Blk), e 4 = .p (.one (.ptr 2 0 0 0)) → FinK 55 0 [.l true 3 4] (.p (ansA a)) [] .ret ⟨e, X0 :: X1 :: ansB a :: D⟩ := by
    intro a e X0 X1 D h4
    exact fin0 (.inr rfl) (qs := [ansA a]) (cnd := True) (by simp only [go_sem, h4]) trivial (SubS.refl _) (by simp only [go_sem])
  have hsz : (hasL ⟨lines, dones, floor⟩ o.ser).length ≤ 1000 := by
    unfold hasL
    split
    · exact hsmp _ (hitL_lt (by assumption))
    · exact Nat.zero_le _
  refine run_seqV ?_
  simp only [go_sem]
  refine run_seqV ?_
  simp only [go_sem]
  refine run_join [(3, .p (.one (.ptr 1 0 0 0))), (4, .p (.one (.ptr 2 0 0 0))), (5, .p (smpL (hasL ⟨lines, dones, floor⟩ o.ser)))] [.rows 29 3 0 [[.c (immL 2 Lin.c lines), .c (immL 5 Dn.c dones), .c (.v (.int .i64 floor))]] true, .rows 35 7 0 [opRow o] true, ansB ⟨0, false, 0⟩] (V_sound ?_) ?_
  · simp only [go_sem]
    refine call0 (line_rc ⟨lines, dones, floor⟩ (by simp only; omega) o.ser) ?_
    simp only [go_sem, opRow]
    refine ⟨fun h => ⟨by have := hitL_lt h; omega, [], ?_⟩, fun h => ⟨[], ?_⟩⟩
    · simp only [go_sem, hasL, h, ltB]
    · simp only [go_sem, hasL, h, ltB, List.length_nil]
  unfold lookS
  generalize hasL ⟨lines, dones, floor⟩ o.ser = H at hsz ⊢
  have hr := rangeS_len H o.frm o.to
  refine run_seqV ?_
  simp only [go_sem, opRow]
  refine ⟨fun k4 => ?_, fun k4 => ?_⟩
  · rw [if_pos k4]
    refine call0 (Get_rc H (by omega) o.frm) ?_
    simp only [go_sem]
    exact hend ⟨0, (getS H o.frm).2, (getS H o.frm).1.v⟩ _ _ _ [_] (by simp only [go_sem])
  · rw [if_neg k4]
    refine run_seqV ?_
    simp only [go_sem]
    refine call0 (Range_rc H (by omega) o.frm o.to) ?_
    simp only [go_sem]
    refine call0 (Of_rc o.tot (rangeS H o.frm o.to) (by omega)) ?_
    simp only [go_sem]
    refine V_sound ?_
    simp only [go_sem]
    exact hend ⟨0, (totS o.tot (rangeS H o.frm o.to)).2, (totS o.tot (rangeS H o.frm o.to)).1⟩ _ _ _ [] (by simp only [go_sem])
def doOp (s : Shf) (o : Opn) : Shf × Ans :=
  if opOk o = false then (s, ⟨1, false, 0⟩)
  else if o.kind = 1 then (⟨(writeS s.lines s.floor o).1, s.dones, s.floor⟩, (writeS s.lines s.floor o).2)
  else if o.kind = 2 then (⟨(trimSh s.lines s.floor o.frm).1, s.dones, (trimSh s.lines s.floor o.frm).2.1⟩, (trimSh s.lines s.floor o.frm).2.2)
  else (s, lookS s o)
set_option maxRecDepth 20000 in
theorem do_rc {M : List Blk} {b vb c vc : Nat} {s : Shf} {fb fc : Bool} (hbc : b ≠ c) (hb : M[b]? = some (lnR vb s.lines fb)) (hc : M[c]? = some (dnR vc s.dones fc)) (hMB : ∀ x ∈ M, ltB M.length x) (hz : zShf s) (o : Opn) (ho : o.ser.size ≤ 2000) :
    ∃ v f, CallR Tryz.prog M n_shelf_do [ownA b vb s.lines.length c vc s.dones.length s.floor, opnA o] (.tup [ownA b v (doOp s o).1.lines.length c vc (doOp s o).1.dones.length (doOp s o).1.floor, ansA (doOp s o).2]) (M.set b (lnR v (doOp s o).1.lines f)) := by
  have hbl : b < M.length := getElem?_lt hb
  have hcl : c < M.length := getElem?_lt hc
  have hbA : ∀ l : List Blk, (M ++ l)[b]? = some (lnR vb s.lines fb) := fun l => by rw [ga hbl, hb]
  have hcA : ∀ l : List Blk, (M ++ l)[c]? = some (dnR vc s.dones fc) := fun l => by rw [ga hcl, hc]
  obtain ⟨lines, dones, floor⟩ := s
  simp only at hb hc hbA hcA ⊢
  have hB4 : ∀ x ∈ M ++ [boxS b vb lines.length c vc dones.length floor, .rows 35 7 0 [opRow o] true, zSh, ansB ⟨0, false, 0⟩], ltB (M ++ [boxS b vb lines.length c vc dones.length floor, .rows 35 7 0 [opRow o] true, zSh, ansB ⟨0, false, 0⟩]).length x := by
    refine ltM_app hMB ?_
    intro x hx
    simp only [List.mem_cons, List.not_mem_nil, or_false] at hx
    rcases hx with rfl | rfl | rfl | rfl
    · simp only [go_sem, ltB, List.length_cons, List.length_nil]
      omega
    · simp only [go_sem, ltB, opRow]
    · simp only [go_sem, ltB]
    · simp only [go_sem, ltB]
  have hsame : ∀ (a : Ans) (e : Nat → SV) (D : List Blk) (X0 X1 : Blk), e 4 = .p (.one (.ptr (M.length + 2) 0 0 0)) → e 5 = .p (.one (.ptr (M.length + 3) 0 0 0)) →
      FinK 35 M.length [.l true 3 4, .l true 3 5] (.tup [ownA b vb lines.length c vc dones.length floor, ansA a]) (M.set b (lnR vb lines fb)) .ret ⟨e, M ++ ([X0, X1, boxS b vb lines.length c vc dones.length floor, ansB a] ++ D)⟩ := by
    intro a e D X0 X1 h4 h5
    have := endSA (n := 35) (v := vb) (l2 := lines) (f := fb) hbl hcl hMB floor a (dl := dones.length) (vc := vc) e D X0 X1 h4 h5
    rwa [set_self hb] at this ⊢
  obtain ⟨hll, hdl, hser, hsmp⟩ := hz
  simp only at hll hdl hser hsmp
  cases hok : opOk o with
  | false =>
    have hw : doOp ⟨lines, dones, floor⟩ o = (⟨lines, dones, floor⟩, ⟨1, false, 0⟩) := by rw [doOp, if_pos hok]
    refine ⟨vb, fb, callR_intro F_shelf_do (by simp) ?_⟩
    rw [hw]
    refine run_seqV ?_
    simp only [go_sem, mget, mget0, mset, mset0, List.append_assoc, List.length_append, List.length_cons, List.length_nil, Nat.zero_add, Nat.add_assoc, Nat.reduceAdd]
    refine run_seqV ?_
    simp only [go_sem, mget, mget0, mset, mset0]
    refine call0 (CheckOp_rc o ho) ?_
    simp only [go_sem, mget, mget0, mset, mset0, hok]
    exact hsame ⟨1, false, 0⟩ _ [] _ _ (by simp only [go_sem]) (by simp only [go_sem])
  | true =>
    have hnok : ¬ opOk o = false := by rw [hok]; simp
    obtain ⟨kind, ser, smp, frm, to, tot⟩ := o
    simp only at ho
    by_cases k1 : kind = 1
    · subst k1
      have hw : doOp ⟨lines, dones, floor⟩ ⟨1, ser, smp, frm, to, tot⟩ = (⟨(writeS lines floor ⟨1, ser, smp, frm, to, tot⟩).1, dones, floor⟩, (writeS lines floor ⟨1, ser, smp, frm, to, tot⟩).2) := by rw [doOp, if_neg hnok, if_pos rfl]
      obtain ⟨v, f, hwr⟩ := write_rc (M := M ++ [boxS b vb lines.length c vc dones.length floor, .rows 35 7 0 [opRow ⟨1, ser, smp, frm, to, tot⟩] true, zSh, ansB ⟨0, false, 0⟩]) hbc (hbA _) (hcA _) hB4 floor ⟨1, ser, smp, frm, to, tot⟩ hll hdl hsmp
      refine ⟨v, f, callR_intro F_shelf_do (by simp) ?_⟩
      rw [hw]
      rw [sa hbl] at hwr
      have he := endSA (n := 35) (v := v) (l2 := (writeS lines floor ⟨1, ser, smp, frm, to, tot⟩).1) (f := f) hbl hcl hMB floor (writeS lines floor ⟨1, ser, smp, frm, to, tot⟩).2 (dl := dones.length) (vc := vc)
      generalize writeS lines floor ⟨1, ser, smp, frm, to, tot⟩ = W at hwr he ⊢
      refine run_seqV ?_
      simp only [go_sem, mget, mget0, mset, mset0, List.append_assoc, List.length_append, List.length_cons, List.length_nil, Nat.zero_add, Nat.add_assoc, Nat.reduceAdd]
      refine run_seqV ?_
      simp only [go_sem, mget, mget0, mset, mset0]
      refine call0 (CheckOp_rc ⟨1, ser, smp, frm, to, tot⟩ ho) ?_
      simp only [go_sem, mget, mget0, mset, mset0, hok]
      refine run_seqV ?_
      simp only [go_sem, mget, mget0, mset, mset0]
      refine call1 hwr (by simp only [go_sem]) (fun h => Bool.noConfusion h) ?_
      simp only [go_sem, mgetS, mgetS0, msetS, msetS0]
      exact he _ [] _ _ (by simp only [go_sem]) (by simp only [go_sem])
    by_cases k2 : kind = 2
    · subst k2
      have hw : doOp ⟨lines, dones, floor⟩ ⟨2, ser, smp, frm, to, tot⟩ = (⟨(trimSh lines floor frm).1, dones, (trimSh lines floor frm).2.1⟩, (trimSh lines floor frm).2.2) := by rw [doOp, if_neg hnok, if_neg (show ¬ (2 : Int) = 1 by decide), if_pos rfl]
      obtain ⟨v, f, hwr⟩ := trim_rc (M := M ++ [boxS b vb lines.length c vc dones.length floor, .rows 35 7 0 [opRow ⟨2, ser, smp, frm, to, tot⟩] true, zSh, ansB ⟨0, false, 0⟩]) (c := c) (vc := vc) (dl := dones.length) (hbA _) (by rw [List.length_append]; omega) hB4 floor frm hll hsmp
      refine ⟨v, f, callR_intro F_shelf_do (by simp) ?_⟩
      rw [hw]
      rw [sa hbl] at hwr
      have he := endSA (n := 35) (v := v) (l2 := (trimSh lines floor frm).1) (f := f) hbl hcl hMB (trimSh lines floor frm).2.1 (trimSh lines floor frm).2.2 (dl := dones.length) (vc := vc)
      generalize trimSh lines floor frm = W at hwr he ⊢
      refine run_seqV ?_
      simp only [go_sem, mget, mget0, mset, mset0, List.append_assoc, List.length_append, List.length_cons, List.length_nil, Nat.zero_add, Nat.add_assoc, Nat.reduceAdd]
      refine run_seqV ?_
      simp only [go_sem, mget, mget0, mset, mset0]
      refine call0 (CheckOp_rc ⟨2, ser, smp, frm, to, tot⟩ ho) ?_
      simp only [go_sem, mget, mget0, mset, mset0, hok]
      refine run_seqV ?_
      simp only [go_sem, mget, mget0, mset, mset0]
      refine call1 hwr (by simp only [go_sem]) (fun h => Bool.noConfusion h) ?_
      simp only [go_sem, mgetS, mgetS0, msetS, msetS0]
      exact he _ [] _ _ (by simp only [go_sem]) (by simp only [go_sem])
    · have hw : doOp ⟨lines, dones, floor⟩ ⟨kind, ser, smp, frm, to, tot⟩ = (⟨lines, dones, floor⟩, lookS ⟨lines, dones, floor⟩ ⟨kind, ser, smp, frm, to, tot⟩) := by rw [doOp, if_neg hnok, if_neg k1, if_neg k2]
      refine ⟨vb, fb, callR_intro F_shelf_do (by simp) ?_⟩
      rw [hw]
      refine run_seqV ?_
      simp only [go_sem, mget, mget0, mset, mset0, List.append_assoc, List.length_append, List.length_cons, List.length_nil, Nat.zero_add, Nat.add_assoc, Nat.reduceAdd]
      refine run_seqV ?_
      simp only [go_sem, mget, mget0, mset, mset0]
      refine call0 (CheckOp_rc ⟨kind, ser, smp, frm, to, tot⟩ ho) ?_
      simp only [go_sem, mget, mget0, mset, mset0, hok]
      refine run_seqV ?_
      simp only [go_sem, mget, mget0, mset, mset0, k1, k2]
      refine V_sound ?_
      simp only [go_sem, mget, mget0, mset, mset0]
      refine callL (look_rc ⟨lines, dones, floor⟩ ⟨hll, hdl, hser, hsmp⟩ ⟨kind, ser, smp, frm, to, tot⟩ []) ⟨snap_shf (hbA _) (hcA _) floor, ⟨rfl, ?_⟩, trivial⟩ (by simp only [go_sem]) ?_
      · intro k a a' h h'
        rw [h] at h'
        injection h' with h'
        subst h'
        refine Snap.same _ ?_
        have := List.mem_of_getElem? h
        simp only [List.mem_cons, List.not_mem_nil, or_false] at this
        rcases this with rfl | rfl | rfl | rfl | rfl | rfl | rfl <;> trivial
      simp only [go_sem, mget, mget0, mset, mset0]
      exact hsame _ _ [] _ _ (by simp only [go_sem]) (by simp only [go_sem])
end Go.Proofs.YtcmkhlfjcdchmaaGreat.A
end
section
namespace Go.Proofs.YtcmkhlfjcdchmaaGreat.A
open Go Go.Proofs.YtcmkhlfjcdchmaaGreatAbs
theorem ovl_dn : Ovl Tryz.prog 116 5 := ⟨⟨_, 27, 4, 45, Tryz.func116, by kernel_rfl, by kernel_rfl, by kernel_rfl, by kernel_rfl, by kernel_rfl, by kernel_rfl⟩⟩
abbrev dnCells (x : Dn) : List AV := [.c (.v (.int .i64 x.client)), .c (.v (.int .i64 x.id)), .c (.v (.int .i64 x.ans.code)), .c (.v (.bool x.ans.has)), .c (.v (.int .i64 x.ans.n))]
abbrev dnA (x : Dn) : Pt := .agg (dnCells x)
theorem done1_rc (x : Dn) (k : Int) (M : List Blk) : CallR Tryz.prog M n_shelf_done_1 [dnA x, .i k] (.i (cmpI x.client k)) M := by
  refine callP F_shelf_done_1 (Nat.le_of_ble_eq_true rfl) (by simp only [go_sem]) (by simp only [go_sem]) ?_ M
  simp only [c_shelf_done_1, go_sem]
  refine call0 (CompareI_rc _ _) ?_
  simp only [go_sem]
def atD (l : List Dn) (k : Int) : Nat := bsF (fun i => decide (cmpI (l.getD i default).client k < 0)) 0 l.length
def hitD (l : List Dn) (k : Int) : Bool := decide (atD l k < l.length) && (cmpI (l.getD (atD l k) default).client k == 0)
theorem atD_le (l : List Dn) (k : Int) : atD l k ≤ l.length := (bsF_le l.length 0 l.length (by omega) (Nat.zero_le _)).2
theorem hitD_lt {l : List Dn} {k : Int} (h : hitD l k = true) : atD l k < l.length := by
  unfold hitD at h
  exact of_decide_eq_true (Bool.and_eq_true_iff.1 h).1
theorem bsD_rc (l : List Dn) (hl : l.length ≤ 140737488355328) (k : Int) (M : List Blk) : CallR Tryz.prog M n_slices_BinarySearchFunc_api_Done_api_Done_int [dnL l, .i k, .one (.fn n_shelf_done_1 0 fun _ => default)] (.tup [.i (atD l k : Nat), .b (hitD l k)]) M :=
  bs_rc F_slices_BinarySearchFunc_api_Done_api_Done_int l.length (by omega) (fun i j => (l.getD i default).c j) (.i k) n_shelf_done_1 0 (fun _ => default) (fun i => cmpI (l.getD i default).client k) (by simp only [go_sem]) (fun i hi => absurd hi (Nat.not_lt_zero _)) (fun i hi M => done1_rc (l.getD i default) k M) M
/-- Whom to forget: the first of the least numbers, but not a client itself; -1: nobody. -/
def evN (l : List Dn) (c : Int) : Nat → Int
  | 0 => -1
  | i + 1 => if (l.getD i default).client ≠ c ∧ (evN l c i < 0 ∨ (l.getD i default).id < (l.getD (evN l c i).toNat default).id) then (i : Int) else evN l c i
theorem evN_lt (l : List Dn) (c : Int) : ∀ k, -1 ≤ evN l c k ∧ evN l c k < k
  | 0 => by simp [evN]
  | k + 1 => by
    have := evN_lt l c k
    rw [evN]
    split <;> omega
def insD (l : List Dn) (d : Dn) : List Dn := l.take (atD l d.client) ++ d :: l.drop (atD l d.client)
def doneS (l : List Dn) (d : Dn) : List Dn :=
  if hitD l d.client = true then l.set (atD l d.client) d
  else if (insD l d).length ≤ 8 then insD l d
  else (insD l d).take (evN (insD l d) d.client (insD l d).length).toNat ++ (insD l d).drop ((evN (insD l d) d.client (insD l d).length).toNat + 1)
theorem insD_len (l : List Dn) (d : Dn) : (insD l d).length = l.length + 1 := by
  have := atD_le l d.client
  rw [insD]
  simp only [List.length_append, List.length_cons, List.length_take, List.length_drop]; omega
set_option maxRecDepth 20000 in
theorem done_rc {M : List Blk} {b vb ll c vc : Nat} {dones : List Dn} {fc : Bool} (hbl : b < M.length) (hc : M[c]? = some (dnR vc dones fc)) (hMB : ∀ x ∈ M, ltB M.length x) (floor : Int) (d : Dn) (hdl : dones.length ≤ 1000) (hev : 8 < (insD dones d).length → 0 ≤ evN (insD dones d) d.client (insD dones d).length) :
    ∃ v f, CallR Tryz.prog M n_shelf_done [ownA b vb ll c vc dones.length floor, dnA d] (.p (ownA b vb ll c v (doneS dones d).length floor)) (M.set c (dnR v (doneS dones d) f)) := by
  have hcl : c < M.length := getElem?_lt hc
  have hcA : ∀ l : List Blk, (M ++ l)[c]? = some (dnR vc dones fc) := fun l => by rw [ga hcl, hc]
  have hsA : ∀ (l : List Blk) (X : Blk), (M ++ l).set c X = M.set c X ++ l := fun l X => sa hcl
  have hend : ∀ (l2 : List Dn) (v : Nat) (f : Bool) (e : Nat → SV) (D : List Blk) (X0 X1 : Blk), e 4 = .p (.one (.ptr (M.length + 2) 0 0 0)) →
      FinK 74 M.length [.l true 3 4] (.p (ownA b vb ll c v l2.length floor)) (M.set c (dnR v l2 f)) .ret ⟨e, M.set c (dnR v l2 f) ++ ([X0, X1, boxS b vb ll c v l2.length floor] ++ D)⟩ := by
    intro l2 v f e D X0 X1 h4
    refine fin_m (.inr rfl) (Gh.refl _) _ (qs := [ownA b vb ll c v l2.length floor]) (cnd := True) ?_ trivial rfl (SubS.refl _) ?_ ?_ ?_
    · simp only [go_sem, h4, mgetS]
    · rw [List.length_set]; exact Nat.le_refl _
    · simp only [go_sem, List.length_set]
      exact ⟨hbl, hcl⟩
    · exact ltM_set hMB (rowsL_ltB _ _ _ _ _)
  have hsz : dones.length ≤ 140737488355328 := by omega
  cases hh : hitD dones d.client with
  | true =>
    refine ⟨vc, fc, callR_intro F_shelf_done (by simp) ?_⟩
    have hi := hitD_lt hh
    have hw : doneS dones d = dones.set (atD dones d.client) d := by rw [doneS, if_pos hh]
    have hlen : (doneS dones d).length = dones.length := by rw [hw, List.length_set]
    have hrow := rowsL_getD (sz := 5) (c := Dn.c) hi
    have hset := rowsL_set (sz := 5) (c := Dn.c) dones (atD dones d.client) d
    rw [← hw] at hset
    simp only [go_sem] at hrow hset
    refine run_seqV ?_
    simp only [go_sem, mget, mget0, mset, mset0, List.append_assoc, List.length_append, List.length_cons, List.length_nil, Nat.zero_add, Nat.add_assoc, Nat.reduceAdd]
    refine run_seqV ?_
    simp only [go_sem, mget, mget0, mset, mset0]
    refine callL (bsD_rc dones hsz d.client []) ⟨snapL dones (hcA _), Snap.same _ trivial, Snap.same _ (fun i hi => absurd hi (Nat.not_lt_zero _)), trivial⟩ (by simp only [go_sem]) ?_
    simp only [go_sem, mget, mget0, mset, mset0, hh]
    refine run_seqV ?_
    simp only [go_sem, mget, mget0, mset, mset0, hcA, hsA, hrow, hset, msetS, msetS0, mgetS, mgetS0]
    have he := hend (doneS dones d) vc fc
    rw [hlen] at he ⊢
    refine ⟨by omega, hi, ?_⟩
    exact he _ [] _ _ (by simp only [go_sem])
  | false =>
    have hat := atD_le dones d.client
    have hil := insD_len dones d
    have hB4 : ∀ x ∈ M ++ [boxS b vb ll c vc dones.length floor, .rows 45 5 0 [dnCells d] true, zSh, .rows 45 5 0 [dnCells d] true], ltB (M ++ [boxS b vb ll c vc dones.length floor, .rows 45 5 0 [dnCells d] true, zSh, .rows 45 5 0 [dnCells d] true]).length x := by
      refine ltM_app hMB ?_
      intro x hx
      simp only [List.mem_cons, List.not_mem_nil, or_false] at hx
      rcases hx with rfl | rfl | rfl | rfl
      · simp only [go_sem, ltB, List.length_cons, List.length_nil]
        omega
      · simp only [go_sem, ltB]
      · simp only [go_sem, ltB]
      · simp only [go_sem, ltB]
    have hins := ins_rc (M := M ++ [boxS b vb ll c vc dones.length floor, .rows 45 5 0 [dnCells d] true, zSh, .rows 45 5 0 [dnCells d] true]) (b := c) (c := M.length + 3) (i := atD dones d.client) (l := rowsL 5 Dn.c dones) (row := cellsUp (Dn.c d) 0 5) F_slices_Insert_api_Done_api_Done ovl_dn (by decide) (by omega) (hcA _) (by rw [mget]; rfl) (by rw [rowsL_len]; exact hat) (by rw [rowsL_len]; omega) (by rw [rowsL_len]; omega) hB4
    rw [rowsL_ins, rowsL_len, show dones.take (atD dones d.client) ++ d :: dones.drop (atD dones d.client) = insD dones d from rfl, ← hil, hsA] at hins
    generalize hI : insD dones d = L at hins hil hev
    have hgA : ∀ l : List Blk, (M.set c (dnR (vc + 1) L false) ++ l)[c]? = some (dnR (vc + 1) L false) := fun l => by rw [ga (by rw [List.length_set]; exact hcl), gb hcl]
    have hgS : ∀ (l : List Blk) (X : Blk), (M.set c (dnR (vc + 1) L false) ++ l).set c X = M.set c X ++ l := fun l X => by rw [sa (by rw [List.length_set]; exact hcl), List.set_set]
    refine ⟨vc + 1, false, callR_intro F_shelf_done (by simp) ?_⟩
    refine run_seqV ?_
    simp only [go_sem, mget, mget0, mset, mset0, List.append_assoc, List.length_append, List.length_cons, List.length_nil, Nat.zero_add, Nat.add_assoc, Nat.reduceAdd]
    refine run_seqV ?_
    simp only [go_sem, mget, mget0, mset, mset0]
    refine callL (bsD_rc dones hsz d.client []) ⟨snapL dones (hcA _), Snap.same _ trivial, Snap.same _ (fun i hi => absurd hi (Nat.not_lt_zero _)), trivial⟩ (by simp only [go_sem]) ?_
    simp only [go_sem, mget, mget0, mset, mset0, hh]
    refine run_seqV ?_
    simp only [go_sem, mget, mget0, mset, mset0]
    refine run_seqV ?_
    simp only [go_sem, mget, mget0, mset, mset0, List.append_assoc, List.length_append, List.length_cons, List.length_nil, Nat.zero_add, Nat.add_assoc, Nat.reduceAdd]
    refine call1 hins (by simp only [go_sem]) (fun h => Bool.noConfusion h) ?_
    simp only [go_sem, msetS, msetS0, mgetS, mgetS0]
    by_cases h8 : L.length ≤ 8
    · have hw : doneS dones d = L := by rw [doneS, if_neg (by rw [hh]; simp), hI, if_pos h8]
      rw [hw]
      have h8' : (8 < (L.length : Int)) = False := by simp only [eq_iff_iff, iff_false]; omega
      refine run_seqV ?_
      simp only [go_sem, msetS, msetS0, mgetS, mgetS0, hgA, h8', decide_false]
      refine V_sound ?_
      simp only [go_sem, msetS, msetS0, mgetS, mgetS0, hgA]
      have he := hend L (vc + 1) false
      exact he _ [_] _ _ (by simp only [go_sem])
    · have h8' : (8 < (L.length : Int)) = True := eq_true (by omega)
      have hev := hev (by omega)
      have hevl := (evN_lt L d.client L.length).2
      have hw : doneS dones d = L.take (evN L d.client L.length).toNat ++ L.drop ((evN L d.client L.length).toNat + 1) := by rw [doneS, if_neg (by rw [hh]; simp), hI, if_neg h8]
      have hBm : ∀ x ∈ M.set c (dnR (vc + 1) L false) ++ [boxS b vb ll c (vc + 1) L.length floor, .rows 45 5 0 [dnCells d] true, zSh, .rows 45 5 0 [dnCells d] true], ltB (M.set c (dnR (vc + 1) L false) ++ [boxS b vb ll c (vc + 1) L.length floor, .rows 45 5 0 [dnCells d] true, zSh, .rows 45 5 0 [dnCells d] true]).length x := by
        refine ltM_app (ltM_set hMB (rowsL_ltB _ _ _ _ _)) ?_
        intro x hx
        simp only [List.mem_cons, List.not_mem_nil, or_false] at hx
        rw [List.length_set]
        rcases hx with rfl | rfl | rfl | rfl
        · simp only [go_sem, ltB, List.length_cons, List.length_nil]
          omega
        · simp only [go_sem, ltB]
        · simp only [go_sem, ltB]
        · simp only [go_sem, ltB]
      refine run_join [(2, .p (.one (.ptr M.length 0 0 0))), (4, .p (.one (.ptr (M.length + 2) 0 0 0)))] (M.set c (dnR (vc + 1) (doneS dones d) false) ++ [boxS b vb ll c (vc + 1) (doneS dones d).length floor, .rows 45 5 0 [dnCells d] true, zSh, .rows 45 5 0 [dnCells d] true]) ?_ ?_
      · refine run_seqV ?_
        simp only [go_sem, msetS, msetS0, mgetS, mgetS0, hgA, h8', decide_true]
        refine run_cond (t := true) (by simp only [go_sem]) (fun _ => ?_) (fun h => by cases h)
        refine run_seqV ?_
        simp only [go_sem]
        refine run_seqV ?_
        simp only [go_sem, msetS, msetS0, mgetS, mgetS0, hgA]
        refine R_loop (ι := Nat) (J := fun k => k ≤ L.length)
          (env := fun k => [(2, .p (.one (.ptr M.length 0 0 0))), (3, .p (.one (.ptr (M.length + 1) 0 0 0))), (4, .p (.one (.ptr (M.length + 2) 0 0 0))), (7, .i (evN L d.client k)), (37, .p (.one (.arr 5 c (vc + 1) 0 L.length))), (38, .i L.length), (39, .i k)])
          (mem := fun _ => M.set c (dnR (vc + 1) L false) ++ [boxS b vb ll c (vc + 1) L.length floor, .rows 45 5 0 [dnCells d] true, zSh, .rows 45 5 0 [dnCells d] true])
          (μ := fun k => L.length - k) 0 (Nat.zero_le _) ⟨[], ?_, ?_, ?_, hBm⟩ ?_
        · simp only [List.append_nil]
        · rw [List.length_append, List.length_set]; omega
        · simp only [go_sem, List.length_append, List.length_cons, List.length_nil, List.length_set, evN]
          omega
        rintro k hk
        refine run_seqV ?_
        simp only [go_sem]
        refine run_seqV ?_
        simp only [go_sem]
        refine ⟨fun h1 => ?_, fun h1 => ?_⟩
        · have hrow := rowsL_getD (sz := 5) (c := Dn.c) h1
          have hb1 := evN_lt L d.client k
          have hrow2 := rowsL_getD (sz := 5) (c := Dn.c) (l := L) (i := (evN L d.client k).toNat) (by omega)
          simp only [go_sem] at hrow hrow2
          have e3 : IntKind.i64.wrap ((k : Int) + 1) = ((k + 1 : Nat) : Int) := w64s (by omega)
          refine run_seq ?_
          refine run_block ?_
          refine run_seqV ?_
          simp only [go_sem, msetS, msetS0, mgetS, mgetS0, hgA, hrow, List.append_assoc, List.length_append, List.length_cons, List.length_nil, List.length_set, Nat.zero_add, Nat.add_assoc, Nat.reduceAdd]
          refine ⟨by omega, h1, ?_⟩
          refine V_sound ?_
          simp only [go_sem, msetS, msetS0, mgetS, mgetS0, hgA, hrow2]
          have hg : ∀ {X : Prop}, (((L.getD k default).client != d.client && !decide (evN L d.client k < 0)) = true → X) ↔ (((L.getD k default).client ≠ d.client ∧ 0 ≤ evN L d.client k) → X) := by
            intro X
            simp only [Bool.and_eq_true, bne_iff_ne, Bool.not_eq_true', decide_eq_false_iff_not, Int.not_lt]
          simp only [hg]
          have hv : (((L.getD k default).client != d.client && (decide (evN L d.client k < 0) || decide ((L.getD k default).id < (L.getD (evN L d.client k).toNat default).id))) = true) ↔ ((L.getD k default).client ≠ d.client ∧ (evN L d.client k < 0 ∨ (L.getD k default).id < (L.getD (evN L d.client k).toNat default).id)) := by
            simp only [Bool.and_eq_true, Bool.or_eq_true, bne_iff_ne, decide_eq_true_eq]
          refine ⟨fun h => by omega, fun h => by omega, fun h => by omega, fun hc => ?_, fun hc => ?_⟩
          · have hn : evN L d.client (k + 1) = k := by rw [evN, if_pos (hv.1 hc)]
            refine V_sound ?_
            simp only [go_sem, e3]
            refine ⟨k + 1, h1, by omega, [_], by simp only [List.append_assoc, List.cons_append, List.nil_append]; rfl, ?_, ?_, hBm⟩
            · rw [List.length_append, List.length_set]; omega
            · simp only [go_sem, List.length_append, List.length_cons, List.length_nil, List.length_set, hn]
              omega
          · have hn : evN L d.client (k + 1) = evN L d.client k := by
              rw [evN, if_neg (fun h => by rw [hv.2 h] at hc; cases hc)]
            refine V_sound ?_
            simp only [go_sem, e3]
            refine ⟨k + 1, h1, by omega, [_], by simp only [List.append_assoc, List.cons_append, List.nil_append]; rfl, ?_, ?_, hBm⟩
            · rw [List.length_append, List.length_set]; omega
            · simp only [go_sem, List.length_append, List.length_cons, List.length_nil, List.length_set, hn]
              omega
        · have hkl : k = L.length := by omega
          subst hkl
          obtain ⟨q, hq⟩ : ∃ q : Nat, evN L d.client L.length = q := ⟨(evN L d.client L.length).toNat, by omega⟩
          rw [hq] at hw hevl ⊢
          rw [Int.toNat_natCast] at hw
          have e3 : IntKind.i64.wrap ((q : Int) + 1) = ((q + 1 : Nat) : Int) := w64s (by omega)
          have hd := del_rc (M := M.set c (dnR (vc + 1) L false) ++ [boxS b vb ll c (vc + 1) L.length floor, .rows 45 5 0 [dnCells d] true, zSh, .rows 45 5 0 [dnCells d] true]) (b := c) (v := vc + 1) (i := q) (j := q + 1) (l := rowsL 5 Dn.c L) F_slices_Delete_api_Done_api_Done (hgA _) (by omega) (by rw [rowsL_len]; omega) (by rw [rowsL_len]; omega) hBm
          have hlw : q + (L.length - (q + 1)) = (doneS dones d).length := by
            rw [hw, List.length_append, List.length_take, List.length_drop]; omega
          rw [rowsL_take, rowsL_drop, rowsL_app, ← hw, rowsL_len, hlw, hgS] at hd
          refine V_sound ?_
          simp only [go_sem, msetS, msetS0, mgetS, mgetS0, hgA, e3]
          refine call1 hd (by simp only [go_sem]) (fun h => Bool.noConfusion h) ?_
          simp only [go_sem, msetS, msetS0, mgetS, mgetS0]
          refine ⟨[], ?_, ?_, ?_, ?_⟩
          · simp only [List.append_nil]
          · rw [List.length_append, List.length_set]; omega
          · simp only [go_sem, List.length_append, List.length_cons, List.length_nil, List.length_set]
            omega
          · refine ltM_app (ltM_set hMB (rowsL_ltB _ _ _ _ _)) ?_
            intro x hx
            simp only [List.mem_cons, List.not_mem_nil, or_false] at hx
            rw [List.length_set]
            rcases hx with rfl | rfl | rfl | rfl
            · simp only [go_sem, ltB, List.length_cons, List.length_nil]
              omega
            · simp only [go_sem, ltB]
            · simp only [go_sem, ltB]
            · simp only [go_sem, ltB]
      · refine V_sound ?_
        simp only [go_sem, msetS, msetS0, mgetS, mgetS0, hgA]
        exact hend (doneS dones d) (vc + 1) false _ [_] _ _ (by simp only [go_sem])
end Go.Proofs.YtcmkhlfjcdchmaaGreat.A
end
section
namespace Go.Proofs.YtcmkhlfjcdchmaaGreat.A
open Go Go.Proofs.YtcmkhlfjcdchmaaGreatAbs
structure Ent where
  epoch : Int
  client : Int
  id : Int
  op : Opn
instance : Inhabited Ent := ⟨⟨0, 0, 0, default⟩⟩
@[go_sem] def Ent.c (x : Ent) : Nat → CV
  | 0 => .v (.int .i64 x.epoch)
  | 1 => .v (.int .i64 x.client)
  | 2 => .v (.int .i64 x.id)
  | 3 => .v (.int .i64 x.op.kind)
  | 4 => .v (.string x.op.ser)
  | 5 => .v (.int .i64 x.op.smp.t)
  | 6 => .v (.int .i64 x.op.smp.v)
  | 7 => .v (.int .i64 x.op.frm)
  | 8 => .v (.int .i64 x.op.to)
  | _ => .v (.int .i64 x.op.tot)
abbrev entCells (x : Ent) : List AV := .c (.v (.int .i64 x.epoch)) :: .c (.v (.int .i64 x.client)) :: .c (.v (.int .i64 x.id)) :: opRow x.op
abbrev entA (x : Ent) : Pt := .agg (entCells x)
theorem frz_rows {α : Type} [Inhabited α] {sz : Nat} {c : α → Nat → CV} (b v : Nat) (r : List (List AV)) (l : List α) : (rowsL sz c l).map (fun x => x.map (frzA b v r)) = rowsL sz c l := by
  rw [List.map_congr_left (g := id)]
  · exact List.map_id _
  · intro x hx
    obtain ⟨y, _, rfl⟩ := List.mem_map.1 hx
    have : ∀ (k : Nat) (a : AV), a ∈ cellsUp (c y) 0 sz → frzA b v r a = a := fun k a ha => by
      obtain ⟨z, rfl⟩ := cellsUp_closed _ _ _ a ha
      rfl
    rw [List.map_congr_left (g := id) (fun a ha => this 0 a ha)]
    exact List.map_id _
theorem frzB_dn (b v w : Nat) (r : List (List AV)) (l : List Dn) (f : Bool) : frzB b v r (dnR w l f) = dnR w l f := by
  show Blk.rows _ _ _ _ _ = _
  rw [frz_rows]
theorem subS_tupL {l l' : List Pt} (h : SubL l l') : SubS (.tup l) (.tup l') := by
  rintro I σ y ⟨vs, rfl, hs, hr⟩
  refine ⟨vs, rfl, by rw [hs, hl_len h], fun k q x hq hx => ?_⟩
  have hk : k < l.length := by rw [hl_len h]; exact getElem?_lt hq
  exact h.get k _ q (List.getElem?_eq_getElem hk) hq I σ x (hr k _ x (List.getElem?_eq_getElem hk) hx)
where hl_len {l l' : List Pt} (h : SubL l l') : l.length = l'.length := h.length
def SubAs : List AV → List AV → Prop
  | [], [] => True
  | a :: l, a' :: l' => SubA a a' ∧ SubAs l l'
  | _, _ => False
theorem SubAs.length : ∀ {l l' : List AV}, SubAs l l' → l.length = l'.length
  | [], [], _ => rfl
  | a :: l, a' :: l', h => by simp [SubAs.length h.2]
  | [], a :: l', h => h.elim
  | a :: l, [], h => h.elim
theorem SubAs.get : ∀ {l l' : List AV}, SubAs l l' → ∀ (k : Nat) (q q' : AV), l[k]? = some q → l'[k]? = some q' → SubA q q'
  | [], [], _, k, q, q', h, _ => by simp at h
  | a :: l, a' :: l', h, 0, q, q', h1, h2 => by injection h1 with h1; injection h2 with h2; subst h1; subst h2; exact h.1
  | a :: l, a' :: l', h, k + 1, q, q', h1, h2 => SubAs.get h.2 k q q' h1 h2
  | [], a :: l', h, _, _, _, _, _ => h.elim
  | a :: l, [], h, _, _, _, _, _ => h.elim
theorem subP_aggL {l l' : List AV} (h : SubAs l l') : SubP (.agg l) (.agg l') := by
  rintro I σ y ⟨cs, rfl, hl, hr⟩
  refine ⟨cs, rfl, by rw [hl, h.length], fun k q x hq hx => ?_⟩
  have hk : k < l.length := by rw [h.length]; exact getElem?_lt hq
  exact h.get k _ q (List.getElem?_eq_getElem hk) hq I σ x (hr k _ x (List.getElem?_eq_getElem hk) hx)
theorem endDo {n : Nat} (s : Shf) (a : Ans) (code : Int) (e : Nat → SV) (X : List Blk) (v vc : Nat) (f fc : Bool) (h4 : e 4 = .p (.one (.ptr 2 0 0 0))) (h5 : e 5 = .p (.one (.ptr 3 0 0 0))) (h6 : e 6 = .i code)
    (x2 : X[2]? = some (boxS 6 v s.lines.length 7 vc s.dones.length s.floor)) (x3 : X[3]? = some (ansB a)) (x6 : X[6]? = some (lnR v s.lines f)) (x7 : X[7]? = some (dnR vc s.dones fc)) : FinK n 0 [.l true 3 4, .l true 3 5, .t 6] (.tup [shfA s, ansA a, .i code]) [] .ret ⟨e, X⟩ := by
  have y7 : ((X.map (frzB 6 v (rowsL 2 Lin.c s.lines))).set 6 .dead)[7]? = some (dnR vc s.dones fc) := by
    rw [List.getElem?_set, if_neg (by decide), List.getElem?_map, x7]
    exact congrArg some (frzB_dn _ _ _ _ _ _)
  refine finQ (.inr rfl) ((gh_freeze (b := 6) (l := rowsL 2 Lin.c s.lines) x6 (rowsL_closed _)).trans (gh_freeze (b := 7) (l := rowsL 5 Dn.c s.dones) y7 (rowsL_closed _))) (qs := [.agg [.c (.imm 2 s.lines.length fun i j => toC (((rowsL 2 Lin.c s.lines).getD (0 + i) []).getD j default)), .c (.imm 5 s.dones.length fun i j => toC (((rowsL 5 Dn.c s.dones).getD (0 + i) []).getD j default)), .c (.v (.int .i64 s.floor))], ansA a, .i code]) (cnd := True ∧ True) ?_ ⟨trivial, trivial⟩ ?_ (by simp only [go_sem])
  · simp only [go_sem, h4, h5, h6, List.getElem?_set, List.getElem?_map, x2, x3, Option.map_some]
  · exact subS_tupL ⟨subP_aggL ⟨frz_sub _, frz_sub _, SubA.refl _, trivial⟩, SubP.refl _, SubP.refl _, trivial⟩
def metI (dones : List Dn) (c i : Int) : Nat := dones.findIdx fun d => decide (d.client = c) && decide (i ≤ d.id)
def DoS (s : Shf) (e : Ent) : Shf × Ans × Int :=
  if shOk s = false ∨ ¬ (0 ≤ e.client ∧ e.client ≤ 2147483647) ∨ ¬ (1 ≤ e.id ∧ e.id ≤ 2147483647) then (⟨[], [], 0⟩, ⟨0, false, 0⟩, 1)
  else if metI s.dones e.client e.id < s.dones.length then (s, if (s.dones.getD (metI s.dones e.client e.id) default).id = e.id then (s.dones.getD (metI s.dones e.client e.id) default).ans else ⟨9, false, 0⟩, 0)
  else if 0 < e.client then (⟨(doOp s e.op).1.lines, doneS (doOp s e.op).1.dones ⟨e.client, e.id, (doOp s e.op).2⟩, (doOp s e.op).1.floor⟩, (doOp s e.op).2, 0)
  else ((doOp s e.op).1, (doOp s e.op).2, 0)
theorem doOp_dones (s : Shf) (o : Opn) : (doOp s o).1.dones = s.dones := by
  unfold doOp
  split
  · rfl
  · split
    · rfl
    · split <;> rfl
set_option maxRecDepth 20000 in
theorem Do_rc (s : Shf) (hz : zShf s) (en : Ent) (ho : en.op.ser.size ≤ 2000) (hev : shOk s = true → metI s.dones en.client en.id = s.dones.length → 8 < (insD s.dones ⟨en.client, en.id, (doOp s en.op).2⟩).length → 0 ≤ evN (insD s.dones ⟨en.client, en.id, (doOp s en.op).2⟩) en.client (insD s.dones ⟨en.client, en.id, (doOp s en.op).2⟩).length) (M : List Blk) :
    CallR Tryz.prog M n_shelf_Do [shfA s, entA en] (.tup [shfA (DoS s en).1, ansA (DoS s en).2.1, .i (DoS s en).2.2]) M := by
  refine callPG F_shelf_Do (Nat.le_of_ble_eq_true rfl) (by simp only [go_sem, opRow]) ?_ M
  obtain ⟨epoch, client, id, op⟩ := en
  simp only at ho hev ⊢
  refine run_seqV ?_
  simp only [go_sem, opRow]
  refine run_seqV ?_
  simp only [go_sem]
  refine call0 (sCheck_rc s hz) ?_
  simp only [go_sem]
  refine callg0 (fun _ => in_rc client 0 2147483647) ?_
  simp only [go_sem]
  refine callg0 (fun _ => in_rc id 1 2147483647) ?_
  simp only [go_sem]
  rw [ifne]
  refine ⟨fun hc => ?_, fun hc => ?_⟩
  · have hw : DoS s ⟨epoch, client, id, op⟩ = (⟨[], [], 0⟩, ⟨0, false, 0⟩, 1) := by
      rw [DoS, if_pos]
      simp only [Bool.or_eq_true, Bool.not_eq_true', decide_eq_false_iff_not] at hc
      simp only
      rcases hc with (hc | hc) | hc
      · exact .inl hc
      · exact .inr (.inl (by omega))
      · exact .inr (.inr (by omega))
    rw [hw]
    exact fin0 (.inr rfl) (qs := [.agg [.c (.v (.slice none 0 0)), .c (.v (.slice none 0 0)), .c (.v (.int .i64 0))], ansA ⟨0, false, 0⟩, .i 1]) (cnd := True ∧ True) (by simp only [go_sem]) ⟨trivial, trivial⟩ (subS_tupL ⟨subP_aggL ⟨nil_sub (α := Lin), nil_sub (α := Dn), SubA.refl _, trivial⟩, SubP.refl _, SubP.refl _, trivial⟩) (by simp only [go_sem])
  have hs : shOk s = true ∧ (0 ≤ client ∧ client ≤ 2147483647) ∧ (1 ≤ id ∧ id ≤ 2147483647) := by
    simp only [Bool.or_eq_false_iff, Bool.not_eq_false', decide_eq_true_eq] at hc
    exact ⟨hc.1.1, hc.1.2, hc.2⟩
  have hev := hev hs.1
  have hw : DoS s ⟨epoch, client, id, op⟩ = if metI s.dones client id < s.dones.length then (s, if (s.dones.getD (metI s.dones client id) default).id = id then (s.dones.getD (metI s.dones client id) default).ans else ⟨9, false, 0⟩, 0)
      else if 0 < client then (⟨(doOp s op).1.lines, doneS (doOp s op).1.dones ⟨client, id, (doOp s op).2⟩, (doOp s op).1.floor⟩, (doOp s op).2, 0) else ((doOp s op).1, (doOp s op).2, 0) := by
    rw [DoS, if_neg]
    simp only
    rintro (h | h | h)
    · rw [hs.1] at h; cases h
    · exact h hs.2.1
    · exact h hs.2.2
  rw [hw]
  have hown := own_rc s hz (M := [.rows 29 3 0 [[.c (immL 2 Lin.c s.lines), .c (immL 5 Dn.c s.dones), .c (.v (.int .i64 s.floor))]] true, .rows 37 10 0 [entCells ⟨epoch, client, id, op⟩] true, zSh, ansB ⟨0, false, 0⟩]) (by simp only [go_sem, ltB, opRow])
  simp only [List.length_cons, List.length_nil, Nat.zero_add, Nat.reduceAdd, List.cons_append, List.nil_append] at hown
  refine run_seqV ?_
  simp only [go_sem]
  refine call1 hown (by simp only [go_sem]) (fun h => Bool.noConfusion h) ?_
  simp only [go_sem]
  refine run_seqV ?_
  simp only [go_sem]
  obtain ⟨lines, dones, floor⟩ := s
  obtain ⟨hll, hdl, hser, hsmp⟩ := hz
  simp only at hll hdl hser hsmp hev hw hs ⊢
  have hBm : ∀ x ∈ [boxS 6 1 lines.length 7 1 dones.length floor, .rows 37 10 0 [entCells ⟨epoch, client, id, op⟩] true, zSh, ansB ⟨0, false, 0⟩, .dead, boxS 6 1 lines.length 7 1 dones.length floor, lnR 1 lines false, dnR 1 dones false], ltB 8 x := by
    intro x hx
    simp only [List.mem_cons, List.not_mem_nil, or_false] at hx
    rcases hx with rfl | rfl | rfl | rfl | rfl | rfl | rfl | rfl
    · simp only [go_sem, ltB]
    · simp only [go_sem, ltB, opRow]
    · simp only [go_sem, ltB]
    · simp only [go_sem, ltB]
    · trivial
    · simp only [go_sem, ltB]
    · exact rowsL_ltB _ _ _ _ _
    · exact rowsL_ltB _ _ _ _ _
  refine R_loop (ι := Nat) (J := fun k => k ≤ dones.length ∧ ∀ i, i < k → ¬ ((dones.getD i default).client = client ∧ id ≤ (dones.getD i default).id))
    (env := fun k => [(2, .p (.one (.ptr 0 0 0 0))), (3, .p (.one (.ptr 1 0 0 0))), (4, .p (.one (.ptr 2 0 0 0))), (5, .p (.one (.ptr 3 0 0 0))), (30, .p (.one (.arr 5 7 1 0 dones.length))), (31, .i dones.length), (32, .i k)])
    (mem := fun _ => [boxS 6 1 lines.length 7 1 dones.length floor, .rows 37 10 0 [entCells ⟨epoch, client, id, op⟩] true, zSh, ansB ⟨0, false, 0⟩, .dead, boxS 6 1 lines.length 7 1 dones.length floor, lnR 1 lines false, dnR 1 dones false])
    (μ := fun k => dones.length - k) 0 ⟨Nat.zero_le _, fun i hi => absurd hi (Nat.not_lt_zero _)⟩ ⟨[], by simp only [List.append_nil, opRow], Nat.zero_le _, ?_, hBm⟩ ?_
  · simp only [go_sem, List.length_cons, List.length_nil, Nat.zero_add, Nat.reduceAdd]
  rintro k ⟨hk, hne⟩
  refine run_seqV ?_
  simp only [go_sem]
  refine run_seqV ?_
  simp only [go_sem]
  refine ⟨fun h1 => ?_, fun h1 => ?_⟩
  · have hrow := rowsL_getD (sz := 5) (c := Dn.c) h1
    simp only [go_sem] at hrow
    have e3 : IntKind.i64.wrap ((k : Int) + 1) = ((k + 1 : Nat) : Int) := w64s (by omega)
    refine run_seq ?_
    refine run_block ?_
    refine run_seqV ?_
    simp only [go_sem, hrow]
    refine ⟨by omega, h1, run_seqV ?_⟩
    simp only [go_sem, hrow, opRow]
    refine ⟨fun h2 => ⟨rfl, ?_⟩, fun h2 => run_seqV ?_⟩
    · have hq : (dones.getD k default).client = client ∧ (dones.getD k default).id = id := by simpa using h2
      have hm : metI dones client id = k := by
        rw [metI, List.findIdx_eq h1]
        refine ⟨?_, fun i hi => ?_⟩
        · have h5 := hq
          rw [List.getD_eq_getElem?_getD, List.getElem?_eq_getElem h1, Option.getD_some] at h5
          rw [h5.1, h5.2]; simp
        · have h5 := hne i hi
          rw [List.getD_eq_getElem?_getD, List.getElem?_eq_getElem (show i < dones.length by omega), Option.getD_some] at h5
          simpa [Bool.and_eq_false_iff] using h5
      rw [hm, if_pos h1]
      simp only [if_pos hq.2]
      exact endDo ⟨lines, dones, floor⟩ (dones.getD k default).ans 0 _ _ 1 1 false false (by simp only [go_sem]) (by simp only [go_sem]) (by simp only [go_sem]) rfl rfl rfl rfl
    · simp only [go_sem, hrow, opRow]
      have hnq : ¬ ((dones.getD k default).client = client ∧ (dones.getD k default).id = id) := by
        intro h; rw [h.1, h.2] at h2; simp at h2
      refine V_sound ?_
      simp only [go_sem]
      refine ⟨fun h3 => ?_, fun h3 => ?_⟩
      · have hq : (dones.getD k default).client = client ∧ id < (dones.getD k default).id := by simpa using h3
        have hm : metI dones client id = k := by
          rw [metI, List.findIdx_eq h1]
          refine ⟨?_, fun i hi => ?_⟩
          · have h5 := hq
            rw [List.getD_eq_getElem?_getD, List.getElem?_eq_getElem h1, Option.getD_some] at h5
            rw [h5.1]; simp; omega
          · have h5 := hne i hi
            rw [List.getD_eq_getElem?_getD, List.getElem?_eq_getElem (show i < dones.length by omega), Option.getD_some] at h5
            simpa [Bool.and_eq_false_iff] using h5
        rw [hm, if_pos h1]
        simp only [if_neg (show ¬ (dones.getD k default).id = id by omega)]
        exact endDo ⟨lines, dones, floor⟩ ⟨9, false, 0⟩ 0 _ _ 1 1 false false (by simp only [go_sem]) (by simp only [go_sem]) (by simp only [go_sem]) rfl rfl rfl rfl
      · refine V_sound ?_
        simp only [go_sem, e3]
        refine ⟨k + 1, ⟨h1, fun i hi => ?_⟩, by omega, [_], by simp only [List.cons_append, List.nil_append]; rfl, ?_, ?_, hBm⟩
        · by_cases e : i = k
          · subst e
            rintro ⟨h5, h6⟩
            have : ¬ ((dones.getD i default).client = client ∧ id < (dones.getD i default).id) := by
              rintro ⟨h7, h8⟩
              rw [h7, beq_self_eq_true, decide_eq_true h8] at h3
              cases h3
            rcases Int.lt_or_eq_of_le h6 with h7 | h7
            · exact this ⟨h5, h7⟩
            · exact hnq ⟨h5, h7.symm⟩
          · exact hne i (by omega)
        · simp only [List.length_cons, List.length_nil]; omega
        · simp only [go_sem]
  · have hkl : k = dones.length := by omega
    subst hkl
    have hm : metI dones client id = dones.length := by
      rw [metI, List.findIdx_eq_length]
      intro y hy
      obtain ⟨j, hj, rfl⟩ := List.mem_iff_getElem.1 hy
      have h5 := hne j hj
      rw [List.getD_eq_getElem?_getD, List.getElem?_eq_getElem hj, Option.getD_some] at h5
      simpa [Bool.and_eq_false_iff] using h5
    have hev := hev hm
    rw [hm, if_neg (Nat.lt_irrefl _)]
    obtain ⟨v, f, hdo⟩ := do_rc (M := [boxS 6 1 lines.length 7 1 dones.length floor, .rows 37 10 0 [entCells ⟨epoch, client, id, op⟩] true, zSh, ansB ⟨0, false, 0⟩, .dead, boxS 6 1 lines.length 7 1 dones.length floor, lnR 1 lines false, dnR 1 dones false]) (b := 6) (c := 7) (vb := 1) (vc := 1) (fb := false) (fc := false) (s := ⟨lines, dones, floor⟩) (by decide) rfl rfl hBm ⟨hll, hdl, hser, hsmp⟩ op ho
    rw [doOp_dones] at hdo ⊢
    simp only [List.set_cons_succ, List.set_cons_zero] at hdo
    generalize he : doOp ⟨lines, dones, floor⟩ op = W at hdo hev ⊢
    have hWd : W.1.dones = dones := by rw [← he, doOp_dones]
    obtain ⟨⟨L, dn, fl⟩, a⟩ := W
    simp only at hWd hdo hev ⊢
    subst hWd
    refine run_seqV ?_
    simp only [go_sem, opRow]
    refine call1 hdo (by simp only [go_sem]) (fun h => Bool.noConfusion h) ?_
    simp only [go_sem]
    have hBn : ∀ x ∈ [boxS 6 v L.length 7 1 dn.length fl, .rows 37 10 0 [entCells ⟨epoch, client, id, op⟩] true, zSh, ansB ⟨0, false, 0⟩, .dead, boxS 6 1 lines.length 7 1 dn.length floor, lnR v L f, dnR 1 dn false, ansB a], ltB 9 x := by
      intro x hx
      simp only [List.mem_cons, List.not_mem_nil, or_false] at hx
      rcases hx with rfl | rfl | rfl | rfl | rfl | rfl | rfl | rfl | rfl
      · simp only [go_sem, ltB]
      · simp only [go_sem, ltB, opRow]
      · simp only [go_sem, ltB]
      · simp only [go_sem, ltB]
      · trivial
      · simp only [go_sem, ltB]
      · exact rowsL_ltB _ _ _ _ _
      · exact rowsL_ltB _ _ _ _ _
      · simp only [go_sem, ltB]
    obtain ⟨v2, f2, hdn⟩ := done_rc (b := 6) (vb := v) (ll := L.length) (c := 7) (vc := 1) (dones := dn) (fc := false) (Nat.le_of_ble_eq_true rfl) rfl hBn fl ⟨client, id, a⟩ hdl hev
    simp only [List.set_cons_succ, List.set_cons_zero] at hdn
    refine run_seqV ?_
    simp only [go_sem]
    refine ⟨fun hc => ?_, fun hc => ?_⟩
    · rw [if_pos hc]
      refine call1 hdn (by simp only [go_sem]) (fun h => Bool.noConfusion h) ?_
      simp only [go_sem]
      refine run_seqV ?_
      simp only [go_sem]
      refine ⟨rfl, V_sound ?_⟩
      simp only [go_sem]
      exact endDo ⟨L, doneS dn ⟨client, id, a⟩, fl⟩ a 0 _ _ v v2 f f2 (by simp only [go_sem]) (by simp only [go_sem]) (by simp only [go_sem]) rfl rfl rfl rfl
    · rw [if_neg hc]
      refine run_seqV ?_
      simp only [go_sem]
      refine ⟨rfl, V_sound ?_⟩
      simp only [go_sem]
      exact endDo ⟨L, dn, fl⟩ a 0 _ _ v 1 f false (by simp only [go_sem]) (by simp only [go_sem]) (by simp only [go_sem]) rfl rfl rfl rfl
end Go.Proofs.YtcmkhlfjcdchmaaGreat.A
end
section
namespace Go.Proofs.YtcmkhlfjcdchmaaGreat.A
open Go Go.Proofs.YtcmkhlfjcdchmaaGreatAbs
def rlI (l : List Lin) (n : ByteArray) : Nat := l.findIdx fun x => decide (x.ser = n)
def rlineS (l : List Lin) (n : ByteArray) : List Smp := if rlI l n < l.length then (l.getD (rlI l n) default).smps else []
theorem rlI_eq {l : List Lin} {n : ByteArray} {k : Nat} (h1 : k < l.length) (hc : (l.getD k default).ser = n) (hne : ∀ i, i < k → (l.getD i default).ser ≠ n) : rlI l n = k := by
  rw [rlI, List.findIdx_eq h1]
  refine ⟨by simpa [List.getD_eq_getElem?_getD, h1] using hc, fun i hi => ?_⟩
  simpa [List.getD_eq_getElem?_getD, show i < l.length by omega] using hne i hi
theorem rlI_len {l : List Lin} {n : ByteArray} (hne : ∀ i, i < l.length → (l.getD i default).ser ≠ n) : rlI l n = l.length := by
  rw [rlI, List.findIdx_eq_length]
  intro y hy
  obtain ⟨j, hj, rfl⟩ := List.mem_iff_getElem.1 hy
  simpa [List.getD_eq_getElem?_getD, hj] using hne j hj
set_option maxRecDepth 20000 in
theorem rline_rc (s : Shf) (hll : s.lines.length ≤ 1000) (n : ByteArray) (M : List Blk) : CallR Tryz.prog M n_windroseref14_Line [shfA s, .s n] (.p (smpL (rlineS s.lines n))) M := by
  refine callPG F_windroseref14_Line (Nat.le_of_ble_eq_true rfl) (by simp only [go_sem]) ?_ M
  obtain ⟨lines, dones, floor⟩ := s
  simp only at hll ⊢
  refine run_seqV ?_
  simp only [go_sem]
  refine run_seqV ?_
  simp only [go_sem]
  refine R_loop (ι := Nat) (J := fun k => k ≤ lines.length ∧ ∀ i, i < k → (lines.getD i default).ser ≠ n)
    (env := fun k => [(1, .p (.s n)), (2, .p (.one (.ptr 0 0 0 0))), (5, .i k)])
    (mem := fun _ => [.rows 29 3 0 [[.c (immL 2 Lin.c lines), .c (immL 5 Dn.c dones), .c (.v (.int .i64 floor))]] true])
    (μ := fun k => lines.length - k) 0 ⟨Nat.zero_le _, fun i hi => absurd hi (Nat.not_lt_zero _)⟩ ⟨[], ?_, Nat.zero_le _, ?_, ?_⟩ ?_
  · simp only [go_sem]
  · simp only [go_sem]
  · simp only [go_sem, ltB]
  rintro k ⟨hk, hne⟩
  refine run_seqV ?_
  simp only [go_sem]
  have e3 : k < lines.length → IntKind.i64.wrap ((k : Int) + 1) = ((k + 1 : Nat) : Int) := fun h => w64s (by omega)
  refine ⟨fun h1 => ?_, fun h1 => ?_⟩
  · have e3 := e3 h1
    refine run_seqV ?_
    simp only [go_sem]
    refine ⟨by omega, fun hc => ⟨by omega, ?_⟩, fun hc => ?_⟩
    · have : rlI lines n = k := rlI_eq h1 hc hne
      simp only [rlineS, this, if_pos h1]
      exact fin0 (.inr rfl) (qs := [smpL (lines.getD k default).smps]) (cnd := True) (by simp only [go_sem]) trivial (SubS.refl _) (by simp only [go_sem])
    · refine V_sound ?_
      simp only [go_sem, e3]
      refine ⟨k + 1, ⟨h1, fun i hi => ?_⟩, by omega, [], by simp only [go_sem], Nat.zero_le _, by simp only [go_sem], by simp only [go_sem, ltB]⟩
      by_cases e : i = k
      · subst e; exact hc
      · exact hne i (by omega)
  · have hkl : k = lines.length := by omega
    subst hkl
    have : rlI lines n = lines.length := rlI_len hne
    simp only [rlineS, this, if_neg (Nat.lt_irrefl _)]
    refine V_sound ?_
    simp only [go_sem]
    exact fin0 (.inr rfl) (qs := [.one (.c (.v (.slice none 0 0)))]) (cnd := True) (by simp only [go_sem]) trivial (subS_p (subP_one (nil_sub (α := Smp)))) (by simp only [go_sem])
def stStep (n : ByteArray) (x : List Smp) (p : List Lin × Bool) (y : Lin) : List Lin × Bool :=
  let q := if (!p.2 && !sLt y.ser n) = true then (p.1 ++ [⟨n, x⟩], true) else p
  if y.ser = n then q else (q.1 ++ [y], q.2)
def stAll (n : ByteArray) (x : List Smp) (l : List Lin) : List Lin × Bool := l.foldl (stStep n x) ([], decide (x.length = 0))
def setS (l : List Lin) (n : ByteArray) (x : List Smp) : List Lin := if (stAll n x l).2 = true then (stAll n x l).1 else (stAll n x l).1 ++ [⟨n, x⟩]
theorem stAll_len (n : ByteArray) (x : List Smp) (l : List Lin) : ∀ p : List Lin × Bool, (l.foldl (stStep n x) p).1.length + (if (l.foldl (stStep n x) p).2 = true then 0 else 1) ≤ p.1.length + l.length + (if p.2 = true then 0 else 1) := by
  induction l with
  | nil => intro p; rw [List.foldl_nil, List.length_nil]; omega
  | cons y l ih =>
    intro p
    rw [List.foldl_cons]
    refine Nat.le_trans (ih _) ?_
    have : (stStep n x p y).1.length + (if (stStep n x p y).2 = true then 0 else 1) ≤ p.1.length + 1 + (if p.2 = true then 0 else 1) := by
      obtain ⟨a, b⟩ := p
      unfold stStep
      cases b <;> cases sLt y.ser n <;> by_cases h : y.ser = n <;> simp [h] <;> omega
    simp only [List.length_cons]
    omega
theorem lin_row (a : List Lin) (n : ByteArray) (x : List Smp) : rowsL 2 Lin.c a ++ [[AV.c (CV.v (Value.string n)), AV.c (smpCV x)]] = rowsL 2 Lin.c (a ++ [⟨n, x⟩]) := rowsL_app1 a ⟨n, x⟩
set_option maxRecDepth 20000 in
theorem rset_rc (l : List Lin) (hl : l.length ≤ 100000) (n : ByteArray) (x : List Smp) (M : List Blk) : CallR Tryz.prog M n_windroseref14_set [linL l, .s n, smpL x] (.p (linL (setS l n x))) M := by
  refine callPG F_windroseref14_set (Nat.le_of_ble_eq_true rfl) (by simp only [go_sem]) ?_ M
  refine run_seqV ?_
  simp only [go_sem]
  refine run_seqV ?_
  simp only [go_sem]
  refine run_seqV ?_
  simp only [go_sem]
  refine run_seqV ?_
  simp only [go_sem]
  refine R_loop (ι := Nat × Nat × Bool) (J := fun p => p.1 ≤ l.length)
    (env := fun p => [(0, .p (linL l)), (1, .p (.s n)), (2, .p (smpL x)), (7, .p (.one (.arr 2 0 p.2.1 0 (stAll n x (l.take p.1)).1.length))), (8, .b (stAll n x (l.take p.1)).2), (9, .i p.1)])
    (mem := fun p => [.rows 49 2 p.2.1 (rowsL 2 Lin.c (stAll n x (l.take p.1)).1) p.2.2])
    (μ := fun p => l.length - p.1) (0, 0, true) (Nat.zero_le _) ⟨[], ?_, Nat.zero_le _, ?_, ?_⟩ ?_
  · simp only [go_sem, List.take_zero, stAll, List.foldl_nil, rowsL_nil]
  · simp only [go_sem, List.take_zero, stAll, List.foldl_nil, List.length_nil]
    rw [Bool.eq_iff_iff]; simp
  · simp only [go_sem, ltB]
    exact fun r hr => (rowsL_row r hr).2 _
  rintro ⟨k, v, f⟩ hk
  simp only at hk
  refine run_seqV ?_
  simp only [go_sem]
  have hwl : (stAll n x (l.take k)).1.length ≤ k + 1 := by
    have := stAll_len n x (l.take k) ([], decide (x.length = 0))
    rw [List.length_take] at this
    simp only [List.length_nil] at this
    unfold stAll
    split at this <;> split at this <;> omega
  refine ⟨fun h1 => ?_, fun h1 => ?_⟩
  · have hst : stAll n x (l.take (k + 1)) = stStep n x (stAll n x (l.take k)) (l.getD k default) := foldl_take _ _ _ h1
    generalize hw : stAll n x (l.take k) = W at hst hwl ⊢
    obtain ⟨ws, put⟩ := W
    refine run_seq ?_
    refine run_block ?_
    refine run_seqV ?_
    simp only at hwl
    simp only [go_sem]
    have e3 : IntKind.i64.wrap ((k : Int) + 1) = ((k + 1 : Nat) : Int) := w64s (by omega)
    have hlx : (⟨(l.getD k default).ser, (l.getD k default).smps⟩ : Lin) = l.getD k default := rfl
    refine ⟨fun _ => ⟨by omega, h1⟩, fun hp => ⟨by omega, ?_⟩, fun hp => ?_⟩
    · have hst' : stAll n x (l.take (k + 1)) = if (l.getD k default).ser = n then (ws ++ [⟨n, x⟩], true) else (ws ++ [⟨n, x⟩] ++ [l.getD k default], true) := by
        rw [hst, stStep]; simp only [hp, if_true]
      refine V_sound ?_
      simp only [go_sem, lin_row, rowsL_len, List.length_append, List.length_cons, List.length_nil, Nat.zero_add, hlx]
      refine ⟨⟨by omega, h1⟩, fun hq => ⟨⟨by omega, h1⟩, by omega, V_sound ?_⟩, fun hq => V_sound ?_⟩
      · have hq : ¬ (l.getD k default).ser = n := by simpa using hq
        rw [if_neg hq] at hst'
        simp only [go_sem, e3]
        refine ⟨(k + 1, v + 1 + 1, false), h1, by simp only []; omega, [.rows 49 2 0 [[.c (.v (.string n)), .c (smpCV x)]] true, .rows 49 2 0 [[.c (.v (.string (l.getD k default).ser)), .c (smpCV (l.getD k default).smps)]] true], ?_, Nat.zero_le _, ?_, ?_⟩
        · simp only [hst', go_sem, lin_row]
        · simp only [go_sem, hst', List.length_append, List.length_cons, List.length_nil, Nat.zero_add]
        · simp only [go_sem, ltB]
          exact fun r hr => (rowsL_row r hr).2 _
      · have hq : (l.getD k default).ser = n := by simpa using hq
        rw [if_pos hq] at hst'
        simp only [go_sem, e3]
        refine ⟨(k + 1, v + 1, false), h1, by simp only []; omega, [.rows 49 2 0 [[.c (.v (.string n)), .c (smpCV x)]] true], ?_, Nat.zero_le _, ?_, ?_⟩
        · simp only [hst', go_sem, lin_row]
        · simp only [go_sem, hst', List.length_append, List.length_cons, List.length_nil, Nat.zero_add]
        · simp only [go_sem, ltB]
          exact fun r hr => (rowsL_row r hr).2 _
    · have hst' : stAll n x (l.take (k + 1)) = if (l.getD k default).ser = n then (ws, put) else (ws ++ [l.getD k default], put) := by
        rw [hst, stStep]; simp only [hp, Bool.false_eq_true, if_false]
      refine V_sound ?_
      simp only [go_sem, lin_row, rowsL_len, List.length_append, List.length_cons, List.length_nil, Nat.zero_add, hlx]
      refine ⟨⟨by omega, h1⟩, fun hq => ⟨⟨by omega, h1⟩, by omega, V_sound ?_⟩, fun hq => V_sound ?_⟩
      · have hq : ¬ (l.getD k default).ser = n := by simpa using hq
        rw [if_neg hq] at hst'
        simp only [go_sem, e3]
        refine ⟨(k + 1, v + 1, false), h1, by simp only []; omega, [.rows 49 2 0 [[.c (.v (.string (l.getD k default).ser)), .c (smpCV (l.getD k default).smps)]] true], ?_, Nat.zero_le _, ?_, ?_⟩
        · simp only [hst', go_sem, lin_row]
        · simp only [go_sem, hst', List.length_append, List.length_cons, List.length_nil, Nat.zero_add]
        · simp only [go_sem, ltB]
          exact fun r hr => (rowsL_row r hr).2 _
      · have hq : (l.getD k default).ser = n := by simpa using hq
        rw [if_pos hq] at hst'
        simp only [go_sem, e3]
        refine ⟨(k + 1, v, f), h1, by simp only []; omega, [], ?_, Nat.zero_le _, ?_, ?_⟩
        · simp only [hst', go_sem, lin_row]
        · simp only [go_sem, hst', List.length_append, List.length_cons, List.length_nil, Nat.zero_add]
        · simp only [go_sem, ltB]
          exact fun r hr => (rowsL_row r hr).2 _
  · have hkl : k = l.length := by omega
    subst hkl
    rw [List.take_length] at hwl ⊢
    unfold setS
    generalize hw : stAll n x l = W at hwl ⊢
    obtain ⟨ws, put⟩ := W
    simp only at hwl
    have hend : ∀ (ws : List Lin) (e : Nat → SV) (X : List Blk) (v : Nat) (f : Bool), e 6 = .p (.one (.arr 2 0 v 0 ws.length)) → X[0]? = some (.rows 49 2 v (rowsL 2 Lin.c ws) f) → FinK 60 0 [.t 6] (.p (linL ws)) [] .ret ⟨e, X⟩ := by
      intro ws e X v f h4 hX
      refine finQ (.inr rfl) (gh_freeze (b := 0) (l := rowsL 2 Lin.c ws) hX (rowsL_closed ws)) (qs := [.one (.c (.imm 2 ws.length fun i j => toC (((rowsL 2 Lin.c ws).getD (0 + i) []).getD j default)))]) (cnd := True) ?_ trivial (subS_p (subP_one (frz_sub ws))) (by simp only [go_sem])
      simp only [go_sem, h4, Nat.zero_add]
    refine run_seqV ?_
    simp only [go_sem, rowsL_len]
    refine ⟨fun hp => ⟨by omega, ?_⟩, fun hp => ?_⟩
    · have hput : put = false := by simpa using hp
      rw [hput]
      refine V_sound ?_
      have hl2 : ws.length + 1 = (ws ++ [(⟨n, x⟩ : Lin)]).length := by simp
      simp only [go_sem, lin_row, hl2]
      exact hend (ws ++ [(⟨n, x⟩ : Lin)]) _ _ _ _ (by simp only [go_sem]) rfl
    · have hput : put = true := by simpa using hp
      rw [hput]
      refine V_sound ?_
      simp only [go_sem]
      exact hend ws _ _ _ _ (by simp only [go_sem]) rfl
end Go.Proofs.YtcmkhlfjcdchmaaGreat.A
end
section
namespace Go.Proofs.YtcmkhlfjcdchmaaGreat.A
open Go Go.Proofs.YtcmkhlfjcdchmaaGreatAbs
def leN (l : List Dn) : Nat → Int
  | 0 => -1
  | i + 1 => if leN l i < 0 ∨ (l.getD i default).id < (l.getD (leN l i).toNat default).id then (i : Int) else leN l i
theorem leN_lt (l : List Dn) : ∀ k, -1 ≤ leN l k ∧ leN l k < k
  | 0 => by simp [leN]
  | k + 1 => by
    have := leN_lt l k
    rw [leN]
    split <;> omega
def hadN (l : List Dn) (c : Int) : Nat → Bool
  | 0 => false
  | i + 1 => hadN l c i || ((l.getD i default).client == c)
def ntA (l : List Dn) (d : Dn) (had : Bool) (least : Int) : Nat → List Dn × Bool
  | 0 => ([], false)
  | i + 1 =>
    let q := if (!(ntA l d had least i).2 && decide (d.client ≤ (l.getD i default).client)) = true then ((ntA l d had least i).1 ++ [d], true) else ntA l d had least i
    if ((l.getD i default).client != d.client && (had || decide ((l.length : Int) < 8) || ((i : Int) != least))) = true then (q.1 ++ [l.getD i default], q.2) else q
def noteS (l : List Dn) (d : Dn) : List Dn :=
  let p := ntA l d (hadN l d.client l.length) (leN l l.length) l.length
  if p.2 = true then p.1 else p.1 ++ [d]
theorem ntA_len (l : List Dn) (d : Dn) (had : Bool) (least : Int) : ∀ k, (ntA l d had least k).1.length ≤ 2 * k
  | 0 => Nat.le_refl _
  | k + 1 => by
    have := ntA_len l d had least k
    rw [ntA]
    split <;> split <;> first | omega | (simp only [List.length_append, List.length_cons, List.length_nil]; omega)
theorem dn_row (l : List Dn) (a b c : Int) (h : Bool) (n : Int) : rowsL 5 Dn.c l ++ [[AV.c (CV.v (Value.int IntKind.i64 a)), AV.c (CV.v (Value.int IntKind.i64 b)), AV.c (CV.v (Value.int IntKind.i64 c)), AV.c (CV.v (Value.bool h)), AV.c (CV.v (Value.int IntKind.i64 n))]] = rowsL 5 Dn.c (l ++ [⟨a, b, ⟨c, h, n⟩⟩]) := rowsL_app1 l ⟨a, b, ⟨c, h, n⟩⟩
set_option maxRecDepth 20000 in
theorem rnote_rc (l : List Dn) (hl : l.length ≤ 1000) (d : Dn) (M : List Blk) : CallR Tryz.prog M n_windroseref14_note [dnL l, dnA d] (.p (dnL (noteS l d))) M := by
  refine callPG F_windroseref14_note (Nat.le_of_ble_eq_true rfl) (by simp only [go_sem]) ?_ M
  refine run_seqV ?_
  simp only [go_sem]
  refine run_seqV ?_
  simp only [go_sem]
  refine run_seqV ?_
  simp only [go_sem]
  refine run_seqV ?_
  simp only [go_sem]
  refine run_seqV ?_
  simp only [go_sem]
  refine run_seqV ?_
  simp only [go_sem]
  refine R_loop (ι := Nat) (J := fun k => k ≤ l.length)
    (env := fun k => [(0, .p (dnL l)), (3, .p (.one (.ptr 0 0 0 0))), (5, .p (.one (.arr 5 1 0 0 0))), (6, .b false), (7, .i (leN l k)), (8, .b (hadN l d.client k)), (9, .i k)])
    (mem := fun _ => [.rows 45 5 0 [dnCells d] true, .rows 45 5 0 [] true])
    (μ := fun k => l.length - k) 0 (Nat.zero_le _) ⟨[], ?_, Nat.zero_le _, ?_, ?_⟩ ?_
  · simp only [go_sem]
  · simp only [go_sem, leN, hadN]
  · simp only [go_sem, ltB]
  rintro k hk
  refine run_seqV ?_
  simp only [go_sem]
  have hle := leN_lt l k
  refine ⟨fun h1 => ?_, fun h1 => ?_⟩
  · have e3 : IntKind.i64.wrap ((k : Int) + 1) = ((k + 1 : Nat) : Int) := w64s (by omega)
    refine run_seq ?_
    refine run_block ?_
    refine run_seqV ?_
    simp only [go_sem]
    have hh : hadN l d.client (k + 1) = (hadN l d.client k || ((l.getD k default).client == d.client)) := rfl
    refine ⟨fun _ => ⟨by omega, h1⟩, V_sound ?_⟩
    simp only [go_sem]
    refine ⟨fun h => ⟨by omega, h1⟩, fun h => ?_, fun hc => ?_, fun hc => ?_⟩
    · have h0 : ¬ leN l k < 0 := by simpa using h
      exact ⟨by omega, by omega⟩
    · have hn : leN l (k + 1) = k := by rw [leN, if_pos (by simpa using hc)]
      refine V_sound ?_
      simp only [go_sem, e3]
      refine ⟨k + 1, h1, by omega, [], by simp only [go_sem], Nat.zero_le _, ?_, by simp only [go_sem, ltB]⟩
      simp only [go_sem, hn, hh]
    · have hn : leN l (k + 1) = leN l k := by
        rw [leN, if_neg]
        intro h
        have : (decide (leN l k < 0) || decide ((l.getD k default).id < (l.getD (leN l k).toNat default).id)) = true := by simpa using h
        rw [this] at hc; cases hc
      refine V_sound ?_
      simp only [go_sem, e3]
      refine ⟨k + 1, h1, by omega, [], by simp only [go_sem], Nat.zero_le _, ?_, by simp only [go_sem, ltB]⟩
      simp only [go_sem, hn, hh]
  · have hkl : k = l.length := by omega
    subst hkl
    unfold noteS
    generalize hadN l d.client l.length = had
    generalize leN l l.length = least at hle ⊢
    refine run_seqV ?_
    simp only [go_sem]
    refine R_loop (ι := Nat × Nat × Bool) (J := fun p => p.1 ≤ l.length)
      (env := fun p => [(0, .p (dnL l)), (3, .p (.one (.ptr 0 0 0 0))), (5, .p (.one (.arr 5 1 p.2.1 0 (ntA l d had least p.1).1.length))), (6, .b (ntA l d had least p.1).2), (7, .i least), (8, .b had), (10, .i p.1)])
      (mem := fun p => [.rows 45 5 0 [dnCells d] true, .rows 45 5 p.2.1 (rowsL 5 Dn.c (ntA l d had least p.1).1) p.2.2])
      (μ := fun p => l.length - p.1) (0, 0, true) (Nat.zero_le _) ⟨[], ?_, Nat.zero_le _, ?_, ?_⟩ ?_
    · simp only [go_sem, ntA, rowsL_nil]
    · simp only [go_sem, ntA, List.length_nil]
    · simp only [go_sem, ltB]
      exact fun r hr => (rowsL_row r hr).2 _
    rintro ⟨k, v, f⟩ hk
    simp only at hk
    refine run_seqV ?_
    simp only [go_sem]
    have hwl := ntA_len l d had least k
    have hst : ntA l d had least (k + 1) = (let q := if (!(ntA l d had least k).2 && decide (d.client ≤ (l.getD k default).client)) = true then ((ntA l d had least k).1 ++ [d], true) else ntA l d had least k
      if ((l.getD k default).client != d.client && (had || decide ((l.length : Int) < 8) || ((k : Int) != least))) = true then (q.1 ++ [l.getD k default], q.2) else q) := rfl
    refine ⟨fun h1 => ?_, fun h1 => ?_⟩
    · generalize hw : ntA l d had least k = W at hst hwl ⊢
      obtain ⟨ws, put⟩ := W
      have hrow := rowsL_getD (sz := 5) (c := Dn.c) h1
      simp only [go_sem] at hrow
      simp only at hwl
      have e3 : IntKind.i64.wrap ((k : Int) + 1) = ((k + 1 : Nat) : Int) := w64s (by omega)
      refine run_seq ?_
      refine run_block ?_
      refine run_seqV ?_
      simp only [go_sem]
      have hlx : (⟨(l.getD k default).client, (l.getD k default).id, ⟨(l.getD k default).ans.code, (l.getD k default).ans.has, (l.getD k default).ans.n⟩⟩ : Dn) = l.getD k default := rfl
      have hdx : (⟨d.client, d.id, ⟨d.ans.code, d.ans.has, d.ans.n⟩⟩ : Dn) = d := rfl
      refine ⟨fun _ => ⟨by omega, h1⟩, fun hp => ⟨by omega, ?_⟩, fun hp => ?_⟩
      · simp only [if_pos hp] at hst
        refine V_sound ?_
        simp only [go_sem, dn_row, rowsL_len, List.length_append, List.length_cons, List.length_nil, Nat.zero_add, hlx, hdx]
        refine ⟨⟨by omega, h1⟩, fun hq => ⟨⟨by omega, h1⟩, by omega, V_sound ?_⟩, fun hq => V_sound ?_⟩
        · simp only [if_pos hq] at hst
          simp only [go_sem, e3]
          refine ⟨(k + 1, v + 1 + 1, false), h1, by simp only []; omega, [.rows 45 5 0 [dnCells d] true, .rows 45 5 0 [dnCells (l.getD k default)] true], ?_, Nat.zero_le _, ?_, ?_⟩
          · simp only [hst, go_sem, dn_row]
          · simp only [go_sem, hst, List.length_append, List.length_cons, List.length_nil, Nat.zero_add]
          · simp only [go_sem, ltB]
            exact fun r hr => (rowsL_row r hr).2 _
        · simp only [hq, Bool.false_eq_true, if_false] at hst
          simp only [go_sem, e3]
          refine ⟨(k + 1, v + 1, false), h1, by simp only []; omega, [.rows 45 5 0 [dnCells d] true], ?_, Nat.zero_le _, ?_, ?_⟩
          · simp only [hst, go_sem, dn_row]
          · simp only [go_sem, hst, List.length_append, List.length_cons, List.length_nil, Nat.zero_add]
          · simp only [go_sem, ltB]
            exact fun r hr => (rowsL_row r hr).2 _
      · simp only [hp, Bool.false_eq_true, if_false] at hst
        refine V_sound ?_
        simp only [go_sem, dn_row, rowsL_len, List.length_append, List.length_cons, List.length_nil, Nat.zero_add, hlx, hdx]
        refine ⟨⟨by omega, h1⟩, fun hq => ⟨⟨by omega, h1⟩, by omega, V_sound ?_⟩, fun hq => V_sound ?_⟩
        · simp only [if_pos hq] at hst
          simp only [go_sem, e3]
          refine ⟨(k + 1, v + 1, false), h1, by simp only []; omega, [.rows 45 5 0 [dnCells (l.getD k default)] true], ?_, Nat.zero_le _, ?_, ?_⟩
          · simp only [hst, go_sem, dn_row]
          · simp only [go_sem, hst, List.length_append, List.length_cons, List.length_nil, Nat.zero_add]
          · simp only [go_sem, ltB]
            exact fun r hr => (rowsL_row r hr).2 _
        · simp only [hq, Bool.false_eq_true, if_false] at hst
          simp only [go_sem, e3]
          refine ⟨(k + 1, v, f), h1, by simp only []; omega, [], ?_, Nat.zero_le _, ?_, ?_⟩
          · simp only [hst, go_sem, dn_row]
          · simp only [go_sem, hst, List.length_append, List.length_cons, List.length_nil, Nat.zero_add]
          · simp only [go_sem, ltB]
            exact fun r hr => (rowsL_row r hr).2 _
    · have hkl : k = l.length := by omega
      subst hkl
      generalize hw : ntA l d had least l.length = W at hwl ⊢
      obtain ⟨ws, put⟩ := W
      simp only at hwl
      have hend : ∀ (ws : List Dn) (e : Nat → SV) (X : List Blk) (v : Nat) (f : Bool), e 4 = .p (.one (.arr 5 1 v 0 ws.length)) → X[1]? = some (.rows 45 5 v (rowsL 5 Dn.c ws) f) → FinK 102 0 [.t 4] (.p (dnL ws)) [] .ret ⟨e, X⟩ := by
        intro ws e X v f h4 hX
        refine finQ (.inr rfl) (gh_freeze (b := 1) (l := rowsL 5 Dn.c ws) hX (rowsL_closed ws)) (qs := [.one (.c (.imm 5 ws.length fun i j => toC (((rowsL 5 Dn.c ws).getD (0 + i) []).getD j default)))]) (cnd := True) ?_ trivial (subS_p (subP_one (frz_sub ws))) (by simp only [go_sem])
        simp only [go_sem, h4, Nat.zero_add]
      refine run_seqV ?_
      simp only [go_sem, rowsL_len]
      refine ⟨fun hp => ⟨by omega, ?_⟩, fun hp => ?_⟩
      · have hput : put = false := by simpa using hp
        rw [hput]
        refine V_sound ?_
        have hl2 : ws.length + 1 = (ws ++ [d]).length := by simp
        simp only [go_sem, dn_row, hl2]
        exact hend (ws ++ [d]) _ _ _ _ (by simp only [go_sem]) rfl
      · have hput : put = true := by simpa using hp
        rw [hput]
        refine V_sound ?_
        simp only [go_sem]
        exact hend ws _ _ _ _ (by simp only [go_sem]) rfl
end Go.Proofs.YtcmkhlfjcdchmaaGreat.A
end
section
namespace Go.Proofs.YtcmkhlfjcdchmaaGreat.A
open Go Go.Proofs.YtcmkhlfjcdchmaaGreatAbs
theorem setS_len (l : List Lin) (n : ByteArray) (x : List Smp) : (setS l n x).length ≤ l.length + 1 := by
  have := stAll_len n x l ([], decide (x.length = 0))
  simp only [List.length_nil] at this
  unfold setS stAll
  split at this <;> split at this <;> split <;> first | omega | (simp only [List.length_append, List.length_cons, List.length_nil]; omega) | contradiction
def trA (s : Shf) (a : Int) : Nat → List Lin
  | 0 => s.lines
  | k + 1 => setS (trA s a k) (s.lines.getD k default).ser (rtrimS (s.lines.getD k default).smps a)
theorem trA_len (s : Shf) (a : Int) : ∀ k, (trA s a k).length ≤ s.lines.length + k
  | 0 => Nat.le_refl _
  | k + 1 => by
    have := trA_len s a k
    have := setS_len (trA s a k) (s.lines.getD k default).ser (rtrimS (s.lines.getD k default).smps a)
    rw [trA]; omega
def ropS (s : Shf) (o : Opn) : Shf × Ans :=
  if o.kind = 1 then
    if o.smp.t < s.floor then (s, ⟨9, false, 0⟩)
    else if (rlineS s.lines o.ser).length = 0 ∧ s.lines.length = 16 then (s, ⟨6, false, 0⟩)
    else if (rputS (rlineS s.lines o.ser) o.smp).2 = 7 then (s, ⟨0, false, 0⟩)
    else if (rputS (rlineS s.lines o.ser) o.smp).2 ≠ 0 then (s, ⟨(rputS (rlineS s.lines o.ser) o.smp).2, false, 0⟩)
    else (⟨setS s.lines o.ser (rputS (rlineS s.lines o.ser) o.smp).1, s.dones, s.floor⟩, ⟨0, true, 0⟩)
  else if o.kind = 2 then
    if o.frm < s.floor then (s, ⟨9, false, 0⟩) else (⟨trA s o.frm s.lines.length, s.dones, o.frm⟩, ⟨0, false, 0⟩)
  else if o.kind = 4 then (s, ⟨0, (rgetS (rlineS s.lines o.ser) o.frm).2, (rgetS (rlineS s.lines o.ser) o.frm).1.v⟩)
  else (s, ⟨0, (totS o.tot (rrangeS (rlineS s.lines o.ser) o.frm o.to)).2, (totS o.tot (rrangeS (rlineS s.lines o.ser) o.frm o.to)).1⟩)
theorem rlineS_len {l : List Lin} (hs : ∀ i, i < l.length → (l.getD i default).smps.length ≤ 1000) (n : ByteArray) : (rlineS l n).length ≤ 1000 := by
  unfold rlineS
  split
  · exact hs _ (by assumption)
  · exact Nat.zero_le _
abbrev shfB (s : Shf) : Blk := .rows 29 3 0 [[.c (immL 2 Lin.c s.lines), .c (immL 5 Dn.c s.dones), .c (.v (.int .i64 s.floor))]] true
theorem endOp {n : Nat} (s : Shf) (a : Ans) (e : Nat → SV) (X : List Blk) (h4 : e 4 = .p (.one (.ptr 2 0 0 0))) (h5 : e 5 = .p (.one (.ptr 3 0 0 0))) (x2 : X[2]? = some (shfB s)) (x3 : X[3]? = some (ansB a)) : FinK n 0 [.l true 3 4, .l true 3 5] (.tup [shfA s, ansA a]) [] .ret ⟨e, X⟩ := by
  refine fin0 (.inr rfl) (qs := [shfA s, ansA a]) (cnd := True ∧ True) ?_ ⟨trivial, trivial⟩ (SubS.refl _) (by simp only [go_sem])
  simp only [go_sem, h4, h5, x2, x3, Option.map_some]
set_option maxRecDepth 20000 in
theorem rop_rc (s : Shf) (hz : zShf s) (o : Opn) (M : List Blk) : CallR Tryz.prog M n_windroseref14_op [shfA s, opnA o] (.tup [shfA (ropS s o).1, ansA (ropS s o).2]) M := by
  refine callPG F_windroseref14_op (Nat.le_of_ble_eq_true rfl) (by simp only [go_sem]) ?_ M
  have hrl := rlineS_len hz.smp o.ser
  obtain ⟨kind, ser, smp, frm, to, tot⟩ := o
  obtain ⟨lines, dones, floor⟩ := s
  obtain ⟨hll, hdl, hser, hsmp⟩ := hz
  simp only at hll hdl hser hsmp hrl ⊢
  refine run_seqV ?_
  simp only [go_sem]
  refine run_seqV ?_
  simp only [go_sem]
  refine call0 (rline_rc ⟨lines, dones, floor⟩ hll ser) ?_
  simp only [go_sem]
  refine run_seq ?_
  refine run_seqV ?_
  simp only [go_sem, opRow]
  refine run_block ?_
  refine run_seqV ?_
  simp only [go_sem, opRow]
  refine run_cond (t := kind == 1) (by simp only [go_sem]) (fun h => ?_) (fun h => ?_)
  · have k1 : kind = 1 := by simpa using h
    subst k1
    refine run_seqV ?_
    simp only [go_sem]
    have hw : ropS ⟨lines, dones, floor⟩ ⟨1, ser, smp, frm, to, tot⟩ = if smp.t < floor then (⟨lines, dones, floor⟩, ⟨9, false, 0⟩)
        else if (rlineS lines ser).length = 0 ∧ lines.length = 16 then (⟨lines, dones, floor⟩, ⟨6, false, 0⟩)
        else if (rputS (rlineS lines ser) smp).2 = 7 then (⟨lines, dones, floor⟩, ⟨0, false, 0⟩)
        else if (rputS (rlineS lines ser) smp).2 ≠ 0 then (⟨lines, dones, floor⟩, ⟨(rputS (rlineS lines ser) smp).2, false, 0⟩)
        else (⟨setS lines ser (rputS (rlineS lines ser) smp).1, dones, floor⟩, ⟨0, true, 0⟩) := rfl
    rw [hw]
    refine ⟨fun hc => ?_, fun hc => ?_⟩
    · rw [if_pos hc]
      exact endOp ⟨lines, dones, floor⟩ ⟨9, false, 0⟩ _ _ (by simp only [go_sem]) (by simp only [go_sem]) rfl rfl
    rw [if_neg hc]
    refine run_seqV ?_
    simp only [go_sem]
    refine ⟨fun hd => ?_, fun hd => ?_⟩
    · have hd : (rlineS lines ser).length = 0 ∧ lines.length = 16 := by
        simp only [Bool.and_eq_true, beq_iff_eq] at hd
        omega
      rw [if_pos hd]
      exact endOp ⟨lines, dones, floor⟩ ⟨6, false, 0⟩ _ _ (by simp only [go_sem]) (by simp only [go_sem]) rfl rfl
    have hd : ¬ ((rlineS lines ser).length = 0 ∧ lines.length = 16) := by
      rintro ⟨h1, h2⟩
      rw [h1, h2] at hd
      cases hd
    rw [if_neg hd]
    refine run_seqV ?_
    simp only [go_sem]
    refine call0 (rPut_rc (rlineS lines ser) hrl smp) ?_
    generalize rputS (rlineS lines ser) smp = W
    obtain ⟨L, c⟩ := W
    simp only [go_sem]
    refine run_seqV ?_
    simp only [go_sem]
    refine ⟨fun h7 => ?_, fun h7 => ?_⟩
    · rw [if_pos h7]
      exact endOp ⟨lines, dones, floor⟩ ⟨0, false, 0⟩ _ _ (by simp only [go_sem]) (by simp only [go_sem]) rfl rfl
    rw [if_neg h7]
    refine run_seqV ?_
    simp only [go_sem]
    refine ⟨fun h0 => ?_, fun h0 => ?_⟩
    · have h0 : c ≠ 0 := by simpa using h0
      rw [if_pos h0]
      exact endOp ⟨lines, dones, floor⟩ ⟨c, false, 0⟩ _ _ (by simp only [go_sem]) (by simp only [go_sem]) rfl rfl
    have h0 : ¬ c ≠ 0 := by simpa using h0
    rw [if_neg h0]
    refine run_seqV ?_
    simp only [go_sem]
    refine call0 (rset_rc lines (by omega) ser L) ?_
    simp only [go_sem]
    refine V_sound ?_
    simp only [go_sem]
    exact endOp ⟨setS lines ser L, dones, floor⟩ ⟨0, true, 0⟩ _ _ (by simp only [go_sem]) (by simp only [go_sem]) rfl rfl
  · have k1 : ¬ kind = 1 := by simpa using h
    refine run_seqV ?_
    simp only [go_sem]
    refine run_cond (t := kind == 2) (by simp only [go_sem]) (fun h => ?_) (fun h => ?_)
    · have k2 : kind = 2 := by simpa using h
      subst k2
      have hw : ropS ⟨lines, dones, floor⟩ ⟨2, ser, smp, frm, to, tot⟩ = if frm < floor then (⟨lines, dones, floor⟩, ⟨9, false, 0⟩) else (⟨trA ⟨lines, dones, floor⟩ frm lines.length, dones, frm⟩, ⟨0, false, 0⟩) := rfl
      rw [hw]
      refine run_seqV ?_
      simp only [go_sem]
      refine ⟨fun hc => ?_, fun hc => ?_⟩
      · rw [if_pos hc]
        exact endOp ⟨lines, dones, floor⟩ ⟨9, false, 0⟩ _ _ (by simp only [go_sem]) (by simp only [go_sem]) rfl rfl
      rw [if_neg hc]
      refine run_seqV ?_
      simp only [go_sem]
      refine run_seqV ?_
      simp only [go_sem]
      refine R_loop (ι := Nat) (J := fun k => k ≤ lines.length)
        (env := fun k => [(2, .p (.one (.ptr 0 0 0 0))), (3, .p (.one (.ptr 1 0 0 0))), (4, .p (.one (.ptr 2 0 0 0))), (5, .p (.one (.ptr 3 0 0 0))), (9, .p (linL (trA ⟨lines, dones, floor⟩ frm k))), (10, .i k)])
        (mem := fun _ => [shfB ⟨lines, dones, floor⟩, .rows 35 7 0 [opRow ⟨2, ser, smp, frm, to, tot⟩] true, zSh, ansB ⟨0, false, 0⟩])
        (μ := fun k => lines.length - k) 0 (Nat.zero_le _) ⟨[], ?_, Nat.zero_le _, ?_, ?_⟩ ?_
      · simp only [go_sem, opRow]
      · simp only [go_sem, trA]
      · simp only [go_sem, ltB, opRow]
      rintro k hk
      refine run_seqV ?_
      simp only [go_sem]
      refine ⟨fun h1 => ?_, fun h1 => ?_⟩
      · have e3 : IntKind.i64.wrap ((k : Int) + 1) = ((k + 1 : Nat) : Int) := w64s (by omega)
        have hl := trA_len ⟨lines, dones, floor⟩ frm k
        have hsk := hsmp k h1
        simp only at hl
        refine run_seqV ?_
        simp only [go_sem, opRow]
        refine ⟨⟨by omega, h1⟩, ⟨by omega, h1⟩, ?_⟩
        refine call0 (rTrim_rc (lines.getD k default).smps (by omega) frm) ?_
        simp only [go_sem]
        refine call0 (rset_rc (trA ⟨lines, dones, floor⟩ frm k) (by omega) (lines.getD k default).ser (rtrimS (lines.getD k default).smps frm)) ?_
        simp only [go_sem]
        refine V_sound ?_
        simp only [go_sem, e3]
        refine ⟨k + 1, h1, by omega, [], ?_, Nat.zero_le _, ?_, ?_⟩
        · simp only [go_sem, opRow]
        · simp only [go_sem, trA]
        · simp only [go_sem, ltB, opRow]
      · have hkl : k = lines.length := by omega
        subst hkl
        refine V_sound ?_
        simp only [go_sem, opRow]
        exact endOp ⟨trA ⟨lines, dones, floor⟩ frm lines.length, dones, frm⟩ ⟨0, false, 0⟩ _ _ (by simp only [go_sem]) (by simp only [go_sem]) rfl rfl
    · have k2 : ¬ kind = 2 := by simpa using h
      have hw : ropS ⟨lines, dones, floor⟩ ⟨kind, ser, smp, frm, to, tot⟩ = if kind = 4 then (⟨lines, dones, floor⟩, ⟨0, (rgetS (rlineS lines ser) frm).2, (rgetS (rlineS lines ser) frm).1.v⟩)
          else (⟨lines, dones, floor⟩, ⟨0, (totS tot (rrangeS (rlineS lines ser) frm to)).2, (totS tot (rrangeS (rlineS lines ser) frm to)).1⟩) := by
        rw [ropS, if_neg k1, if_neg k2]
      rw [hw]
      refine run_seqV ?_
      simp only [go_sem]
      refine run_cond (t := kind == 4) (by simp only [go_sem]) (fun h => ?_) (fun h => ?_)
      · have k4 : kind = 4 := by simpa using h
        subst k4
        rw [if_pos rfl]
        refine run_seqV ?_
        simp only [go_sem]
        refine call0 (rGet_rc (rlineS lines ser) (by omega) frm) ?_
        simp only [go_sem]
        refine V_sound ?_
        simp only [go_sem]
        refine ⟨rfl, ?_⟩
        exact endOp ⟨lines, dones, floor⟩ ⟨0, (rgetS (rlineS lines ser) frm).2, (rgetS (rlineS lines ser) frm).1.v⟩ _ _ (by simp only [go_sem]) (by simp only [go_sem]) rfl rfl
      · have k4 : ¬ kind = 4 := by simpa using h
        rw [if_neg k4]
        refine V_sound ?_
        simp only [go_sem]
        refine run_seqV ?_
        simp only [go_sem]
        have hf : (rrangeS (rlineS lines ser) frm to).length ≤ (rlineS lines ser).length := List.length_filter_le _ _
        refine call0 (rRange_rc (rlineS lines ser) (by omega) frm to) ?_
        simp only [go_sem]
        refine call0 (rOf_rc tot (rrangeS (rlineS lines ser) frm to) (by omega)) ?_
        simp only [go_sem]
        refine V_sound ?_
        simp only [go_sem]
        exact endOp ⟨lines, dones, floor⟩ ⟨0, (totS tot (rrangeS (rlineS lines ser) frm to)).2, (totS tot (rrangeS (rlineS lines ser) frm to)).1⟩ _ _ (by simp only [go_sem]) (by simp only [go_sem]) rfl rfl
end Go.Proofs.YtcmkhlfjcdchmaaGreat.A
end
section
namespace Go.Proofs.YtcmkhlfjcdchmaaGreat.A
open Go Go.Proofs.YtcmkhlfjcdchmaaGreatAbs
def rApS (s : Shf) (o : Opn) : Shf × Ans := if opOk o = false then (s, ⟨1, false, 0⟩) else ropS s o
theorem ropS_dones (s : Shf) (o : Opn) : (ropS s o).1.dones = s.dones := by
  unfold ropS
  repeat' split
  all_goals rfl
theorem rApS_dones (s : Shf) (o : Opn) : (rApS s o).1.dones = s.dones := by
  unfold rApS
  split
  · rfl
  · exact ropS_dones s o
set_option maxRecDepth 20000 in
theorem rApply_rc (s : Shf) (hz : zShf s) (o : Opn) (ho : o.ser.size ≤ 2000) (M : List Blk) : CallR Tryz.prog M n_windroseref14_Apply [shfA s, opnA o] (.tup [shfA (rApS s o).1, ansA (rApS s o).2]) M := by
  refine callPG F_windroseref14_Apply (Nat.le_of_ble_eq_true rfl) (by simp only [go_sem]) ?_ M
  refine run_seqV ?_
  simp only [go_sem]
  refine run_seqV ?_
  simp only [go_sem, opRow]
  refine call0 (rOp_rc o ho) ?_
  simp only [go_sem]
  refine ⟨fun h => ?_, fun h => ?_⟩
  · have h : opOk o = false := by simpa using h
    rw [rApS, if_pos h]
    exact endOp s ⟨1, false, 0⟩ _ _ (by simp only [go_sem]) (by simp only [go_sem]) rfl rfl
  · have h : ¬ opOk o = false := by simpa using h
    rw [rApS, if_neg h]
    refine run_seqV ?_
    simp only [go_sem, opRow]
    refine call0 (rop_rc s hz o) ?_
    generalize ropS s o = W
    obtain ⟨x, a⟩ := W
    simp only [go_sem]
    refine V_sound ?_
    simp only [go_sem]
    exact endOp x a _ _ (by simp only [go_sem]) (by simp only [go_sem]) rfl rfl
def rDoS (s : Shf) (e : Ent) : Shf × Ans × Int :=
  if ¬ (0 ≤ e.client ∧ e.client ≤ 2147483647) ∨ ¬ (1 ≤ e.id ∧ e.id ≤ 2147483647) then (⟨[], [], 0⟩, ⟨0, false, 0⟩, 1)
  else if metI s.dones e.client e.id < s.dones.length then (s, if (s.dones.getD (metI s.dones e.client e.id) default).id = e.id then (s.dones.getD (metI s.dones e.client e.id) default).ans else ⟨9, false, 0⟩, 0)
  else if 0 < e.client then (⟨(rApS s e.op).1.lines, noteS s.dones ⟨e.client, e.id, (rApS s e.op).2⟩, (rApS s e.op).1.floor⟩, (rApS s e.op).2, 0)
  else ((rApS s e.op).1, (rApS s e.op).2, 0)
theorem endOpC {n : Nat} (s : Shf) (a : Ans) (c : Int) (e : Nat → SV) (X : List Blk) (h4 : e 4 = .p (.one (.ptr 2 0 0 0))) (h5 : e 5 = .p (.one (.ptr 3 0 0 0))) (h6 : e 6 = .i c) (x2 : X[2]? = some (shfB s)) (x3 : X[3]? = some (ansB a)) : FinK n 0 [.l true 3 4, .l true 3 5, .t 6] (.tup [shfA s, ansA a, .i c]) [] .ret ⟨e, X⟩ := by
  refine fin0 (.inr rfl) (qs := [shfA s, ansA a, .i c]) (cnd := True ∧ True) ?_ ⟨trivial, trivial⟩ (SubS.refl _) (by simp only [go_sem])
  simp only [go_sem, h4, h5, h6, x2, x3, Option.map_some]
set_option maxRecDepth 20000 in
theorem rDo_rc (s : Shf) (hz : zShf s) (en : Ent) (ho : en.op.ser.size ≤ 2000) (M : List Blk) :
    CallR Tryz.prog M n_windroseref14_Do [shfA s, entA en] (.tup [shfA (rDoS s en).1, ansA (rDoS s en).2.1, .i (rDoS s en).2.2]) M := by
  refine callPG F_windroseref14_Do (Nat.le_of_ble_eq_true rfl) (by simp only [go_sem, opRow]) ?_ M
  obtain ⟨epoch, client, id, op⟩ := en
  simp only at ho ⊢
  have hz0 := hz
  obtain ⟨lines, dones, floor⟩ := s
  obtain ⟨hll, hdl, hser, hsmp⟩ := hz
  simp only at hll hdl hser hsmp ⊢
  refine run_seqV ?_
  simp only [go_sem, opRow]
  refine run_seqV ?_
  simp only [go_sem]
  refine ⟨fun hc => ?_, fun hc => ?_⟩
  · have hw : rDoS ⟨lines, dones, floor⟩ ⟨epoch, client, id, op⟩ = (⟨[], [], 0⟩, ⟨0, false, 0⟩, 1) := by
      rw [rDoS, if_pos]
      simp only [Bool.or_eq_true, decide_eq_true_eq] at hc
      simp only
      omega
    rw [hw]
    exact fin0 (.inr rfl) (qs := [.agg [.c (.v (.slice none 0 0)), .c (.v (.slice none 0 0)), .c (.v (.int .i64 0))], ansA ⟨0, false, 0⟩, .i 1]) (cnd := True ∧ True) (by simp only [go_sem]) ⟨trivial, trivial⟩ (subS_tupL ⟨subP_aggL ⟨nil_sub (α := Lin), nil_sub (α := Dn), SubA.refl _, trivial⟩, SubP.refl _, SubP.refl _, trivial⟩) (by simp only [go_sem])
  have hs : (0 ≤ client ∧ client ≤ 2147483647) ∧ (1 ≤ id ∧ id ≤ 2147483647) := by
    simp only [Bool.or_eq_false_iff, decide_eq_false_iff_not] at hc
    omega
  have hw : rDoS ⟨lines, dones, floor⟩ ⟨epoch, client, id, op⟩ = if metI dones client id < dones.length then (⟨lines, dones, floor⟩, if (dones.getD (metI dones client id) default).id = id then (dones.getD (metI dones client id) default).ans else ⟨9, false, 0⟩, 0)
      else if 0 < client then (⟨(rApS ⟨lines, dones, floor⟩ op).1.lines, noteS dones ⟨client, id, (rApS ⟨lines, dones, floor⟩ op).2⟩, (rApS ⟨lines, dones, floor⟩ op).1.floor⟩, (rApS ⟨lines, dones, floor⟩ op).2, 0) else ((rApS ⟨lines, dones, floor⟩ op).1, (rApS ⟨lines, dones, floor⟩ op).2, 0) := by
    rw [rDoS, if_neg]
    simp only
    omega
  rw [hw]
  refine run_seqV ?_
  simp only [go_sem]
  refine R_loop (ι := Nat) (J := fun k => k ≤ dones.length ∧ ∀ i, i < k → ¬ ((dones.getD i default).client = client ∧ id ≤ (dones.getD i default).id))
    (env := fun k => [(2, .p (.one (.ptr 0 0 0 0))), (3, .p (.one (.ptr 1 0 0 0))), (4, .p (.one (.ptr 2 0 0 0))), (5, .p (.one (.ptr 3 0 0 0))), (7, .i k)])
    (mem := fun _ => [shfB ⟨lines, dones, floor⟩, .rows 37 10 0 [entCells ⟨epoch, client, id, op⟩] true, zSh, ansB ⟨0, false, 0⟩])
    (μ := fun k => dones.length - k) 0 ⟨Nat.zero_le _, fun i hi => absurd hi (Nat.not_lt_zero _)⟩ ⟨[], ?_, Nat.zero_le _, ?_, ?_⟩ ?_
  · simp only [go_sem, opRow]
  · simp only [go_sem]
  · simp only [go_sem, ltB, opRow]
  rintro k ⟨hk, hne⟩
  refine run_seqV ?_
  simp only [go_sem]
  refine ⟨fun h1 => ?_, fun h1 => ?_⟩
  · have hrow := rowsL_getD (sz := 5) (c := Dn.c) h1
    simp only [go_sem] at hrow
    have e3 : IntKind.i64.wrap ((k : Int) + 1) = ((k + 1 : Nat) : Int) := w64s (by omega)
    have hmet : (dones.getD k default).client = client → id ≤ (dones.getD k default).id → metI dones client id = k := fun hq1 hq2 => by
      rw [metI, List.findIdx_eq h1]
      refine ⟨?_, fun i hi => ?_⟩
      · rw [List.getD_eq_getElem?_getD, List.getElem?_eq_getElem h1, Option.getD_some] at hq1 hq2
        rw [hq1]; simp; omega
      · have h5 := hne i hi
        rw [List.getD_eq_getElem?_getD, List.getElem?_eq_getElem (show i < dones.length by omega), Option.getD_some] at h5
        simpa [Bool.and_eq_false_iff] using h5
    refine run_seq ?_
    refine run_block ?_
    refine run_seqV ?_
    simp only [go_sem, opRow]
    refine ⟨⟨by omega, h1⟩, run_seqV ?_⟩
    simp only [go_sem]
    refine ⟨fun h2 => ⟨rfl, ?_⟩, fun h2 => run_seqV ?_⟩
    · have hq : (dones.getD k default).client = client ∧ (dones.getD k default).id = id := by simpa using h2
      have hm := hmet hq.1 (by omega)
      rw [hm, if_pos h1]
      simp only [if_pos hq.2]
      exact endOpC ⟨lines, dones, floor⟩ (dones.getD k default).ans 0 _ _ (by simp only [go_sem]) (by simp only [go_sem]) (by simp only [go_sem]) rfl rfl
    · simp only [go_sem]
      have hnq : ¬ ((dones.getD k default).client = client ∧ (dones.getD k default).id = id) := by
        intro h; rw [h.1, h.2] at h2; simp at h2
      refine V_sound ?_
      simp only [go_sem]
      refine ⟨fun h3 => ?_, fun h3 => ?_⟩
      · have hq : (dones.getD k default).client = client ∧ id < (dones.getD k default).id := by simpa using h3
        have hm := hmet hq.1 (by omega)
        rw [hm, if_pos h1]
        simp only [if_neg (show ¬ (dones.getD k default).id = id by omega)]
        exact endOpC ⟨lines, dones, floor⟩ ⟨9, false, 0⟩ 0 _ _ (by simp only [go_sem]) (by simp only [go_sem]) (by simp only [go_sem]) rfl rfl
      · refine V_sound ?_
        simp only [go_sem, e3]
        refine ⟨k + 1, ⟨h1, fun i hi => ?_⟩, by omega, [.rows 45 5 0 [dnCells (dones.getD k default)] true], ?_, ?_, ?_, ?_⟩
        · by_cases e : i = k
          · subst e
            rintro ⟨h5, h6⟩
            have : ¬ ((dones.getD i default).client = client ∧ id < (dones.getD i default).id) := by
              rintro ⟨h7, h8⟩
              rw [h7, beq_self_eq_true, decide_eq_true h8] at h3
              cases h3
            rcases Int.lt_or_eq_of_le h6 with h7 | h7
            · exact this ⟨h5, h7⟩
            · exact hnq ⟨h5, h7.symm⟩
          · exact hne i (by omega)
        · rfl
        · simp only [List.length_cons, List.length_nil]; omega
        · simp only [go_sem]
        · simp only [go_sem, ltB, opRow]
  · have hkl : k = dones.length := by omega
    subst hkl
    have hm : metI dones client id = dones.length := by
      rw [metI, List.findIdx_eq_length]
      intro y hy
      obtain ⟨j, hj, rfl⟩ := List.mem_iff_getElem.1 hy
      have h5 := hne j hj
      rw [List.getD_eq_getElem?_getD, List.getElem?_eq_getElem hj, Option.getD_some] at h5
      simpa [Bool.and_eq_false_iff] using h5
    rw [hm, if_neg (Nat.lt_irrefl _)]
    have hap := fun M => rApply_rc ⟨lines, dones, floor⟩ hz0 op ho M
    have hd := rApS_dones ⟨lines, dones, floor⟩ op
    generalize rApS ⟨lines, dones, floor⟩ op = W at hap hd ⊢
    obtain ⟨⟨L, dn, fl⟩, a⟩ := W
    simp only at hd
    subst hd
    refine run_seqV ?_
    simp only [go_sem, opRow]
    refine call0 hap ?_
    simp only [go_sem]
    refine run_seqV ?_
    simp only [go_sem]
    refine ⟨fun hc => ?_, fun hc => ?_⟩
    · rw [if_pos hc]
      refine call0 (rnote_rc dn hdl ⟨client, id, a⟩) ?_
      simp only [go_sem]
      refine V_sound ?_
      simp only [go_sem]
      refine ⟨rfl, ?_⟩
      exact endOpC ⟨L, noteS dn ⟨client, id, a⟩, fl⟩ a 0 _ _ (by simp only [go_sem]) (by simp only [go_sem]) (by simp only [go_sem]) rfl rfl
    · rw [if_neg hc]
      refine V_sound ?_
      simp only [go_sem]
      refine ⟨rfl, ?_⟩
      exact endOpC ⟨L, dn, fl⟩ a 0 _ _ (by simp only [go_sem]) (by simp only [go_sem]) (by simp only [go_sem]) rfl rfl
end Go.Proofs.YtcmkhlfjcdchmaaGreat.A
end
section
namespace Go.Proofs.YtcmkhlfjcdchmaaGreat.A
open Go Go.Proofs.YtcmkhlfjcdchmaaGreatAbs
abbrev entL (l : List Ent) : Pt := immP 10 Ent.c l
def evOk (s : Shf) (en : Ent) : Prop := shOk s = true → metI s.dones en.client en.id = s.dones.length → 8 < (insD s.dones ⟨en.client, en.id, (doOp s en.op).2⟩).length → 0 ≤ evN (insD s.dones ⟨en.client, en.id, (doOp s en.op).2⟩) en.client (insD s.dones ⟨en.client, en.id, (doOp s en.op).2⟩).length
end Go.Proofs.YtcmkhlfjcdchmaaGreat.A
end
section
namespace Go.Proofs.YtcmkhlfjcdchmaaGreat.A
open Go Go.Proofs.YtcmkhlfjcdchmaaGreatAbs
theorem gd_get {α : Type} [Inhabited α] {l : List α} {i : Nat} (h : i < l.length) : l.getD i default = l[i] := by
  rw [List.getD_eq_getElem?_getD, List.getElem?_eq_getElem h]; rfl
theorem gd_app {α : Type} [Inhabited α] (A B : List α) (k : Nat) : (A ++ B).getD (A.length + k) default = B.getD k default := by
  rw [List.getD_eq_getElem?_getD, List.getD_eq_getElem?_getD, List.getElem?_append_right (Nat.le_add_right _ _), Nat.add_sub_cancel_left]
theorem gd_app0 {α : Type} [Inhabited α] (A B : List α) (y : α) : (A ++ y :: B).getD A.length default = y := by
  have := gd_app A (y :: B) 0
  rw [Nat.add_zero] at this
  rw [this]; rfl
theorem gd_appL {α : Type} [Inhabited α] (A B : List α) {k : Nat} (h : k < A.length) : (A ++ B).getD k default = A.getD k default := by
  rw [List.getD_eq_getElem?_getD, List.getD_eq_getElem?_getD, List.getElem?_append_left h]
theorem set_mid {α : Type} (A B : List α) (x y : α) : (A ++ x :: B).set A.length y = A ++ y :: B := by
  rw [List.set_append_right _ _ (Nat.le_refl _), Nat.sub_self]; rfl
theorem bs_split {α : Type} [Inhabited α] {l : List α} {R : α → α → Prop} (hs : l.Pairwise R) (p q : α → Bool) (h1 : ∀ x y, R x y → p y = true → p x = true) (h2 : ∀ x y, R x y → p x = false → q y = false) :
    ∃ A B, l = A ++ B ∧ bsF (fun i => p (l.getD i default)) 0 l.length = A.length ∧ (∀ x ∈ A, p x = true) ∧ (∀ x ∈ B, p x = false) ∧ ∀ x ∈ B.tail, q x = false := by
  have hR := List.pairwise_iff_getElem.1 hs
  have hl := bsF_le (lt := fun i => p (l.getD i default)) l.length 0 l.length (by omega) (Nat.zero_le _)
  obtain ⟨ha, hb⟩ := bsF_lt (lt := fun i => p (l.getD i default)) l.length 0 l.length (by omega) (Nat.zero_le _) (fun a b _ hab hbl hp => by
    by_cases e : a = b
    · subst e; exact hp
    · have hal : a < l.length := by omega
      rw [gd_get hbl] at hp
      rw [gd_get hal]
      exact h1 _ _ (hR a b hal hbl (by omega)) hp)
  generalize bsF (fun i => p (l.getD i default)) 0 l.length = k at hl ha hb
  refine ⟨l.take k, l.drop k, (List.take_append_drop k l).symm, by rw [List.length_take]; omega, fun x hx => ?_, fun x hx => ?_, fun x hx => ?_⟩
  · obtain ⟨i, hi, rfl⟩ := List.mem_iff_getElem.1 hx
    rw [List.length_take] at hi
    have := ha i (Nat.zero_le _) (by omega)
    rw [gd_get (by omega)] at this
    rw [List.getElem_take]
    exact this
  · obtain ⟨i, hi, rfl⟩ := List.mem_iff_getElem.1 hx
    rw [List.length_drop] at hi
    have := hb (k + i) (by omega) (by omega)
    rw [gd_get (by omega)] at this
    rw [List.getElem_drop]
    exact this
  · rw [List.tail_drop] at hx
    obtain ⟨i, hi, rfl⟩ := List.mem_iff_getElem.1 hx
    rw [List.length_drop] at hi
    have hk : k < l.length := by omega
    have := hb k (Nat.le_refl _) hk
    rw [gd_get hk] at this
    rw [List.getElem_drop]
    exact h2 _ _ (hR k (k + 1 + i) hk (by omega) (by omega)) this
theorem pw_idx {α : Type} [Inhabited α] {l : List α} {R : α → α → Prop} (ht : ∀ x y z, R x y → R y z → R x z) (h : ∀ i, i < l.length → i = 0 ∨ R (l.getD (i - 1) default) (l.getD i default)) : l.Pairwise R := by
  have key : ∀ j, j < l.length → ∀ i, i < j → R (l.getD i default) (l.getD j default) := by
    intro j
    induction j with
    | zero => intro _ i hi; omega
    | succ j ih =>
      intro hj i hi
      have h1 : R (l.getD j default) (l.getD (j + 1) default) := by
        rcases h (j + 1) hj with e | e
        · omega
        · simpa using e
      by_cases e : i = j
      · subst e; exact h1
      · exact ht _ _ _ (ih (by omega) i (by omega)) h1
  rw [List.pairwise_iff_getElem]
  intro i j hi hj hij
  have := key j hj i hij
  rwa [gd_get hi, gd_get hj] at this
theorem idx_pw {α : Type} [Inhabited α] {l : List α} {R : α → α → Prop} (h : l.Pairwise R) {i : Nat} (hi : i < l.length) (h0 : i ≠ 0) : R (l.getD (i - 1) default) (l.getD i default) := by
  rw [gd_get hi, gd_get (show i - 1 < l.length by omega)]
  exact List.pairwise_iff_getElem.1 h _ _ _ _ (by omega)
theorem all_mem {α : Type} [Inhabited α] {l : List α} {p : α → Prop} : (∀ i, i < l.length → p (l.getD i default)) ↔ ∀ x ∈ l, p x := by
  constructor
  · intro h x hx
    obtain ⟨i, hi, rfl⟩ := List.mem_iff_getElem.1 hx
    have := h i hi
    rwa [gd_get hi] at this
  · intro h i hi
    rw [gd_get hi]
    exact h _ (List.getElem_mem hi)
def upS (l : List Smp) : Prop := l.Pairwise fun x y => x.t < y.t
theorem smsOk_iff (l : List Smp) : smsOk l = true ↔ l.length ≤ 64 ∧ (∀ x ∈ l, smOk x = true) ∧ upS l := by
  unfold smsOk
  rw [Bool.and_eq_true, decide_eq_true_eq, List.all_eq_true]
  constructor
  · rintro ⟨h1, h2⟩
    have h3 : ∀ i, i < l.length → smAt l i = true := fun i hi => h2 i (List.mem_range.2 hi)
    refine ⟨h1, all_mem.1 fun i hi => ?_, pw_idx (fun x y z => Int.lt_trans) fun i hi => ?_⟩
    · have := h3 i hi
      unfold smAt at this
      exact (Bool.and_eq_true_iff.1 this).1
    · have := h3 i hi
      unfold smAt at this
      have := (Bool.and_eq_true_iff.1 this).2
      simpa using this
  · rintro ⟨h1, h2, h3⟩
    refine ⟨h1, fun i hi => ?_⟩
    have hi := List.mem_range.1 hi
    unfold smAt
    rw [Bool.and_eq_true]
    refine ⟨all_mem.2 h2 i hi, ?_⟩
    by_cases h0 : i = 0
    · simp [h0]
    · have := idx_pw h3 hi h0
      simp only [Bool.or_eq_true, decide_eq_true_eq]
      exact .inr this
theorem sm_split {l : List Smp} (hs : upS l) (t : Int) : ∃ A B, l = A ++ B ∧ atS l t = A.length ∧ (∀ x ∈ A, x.t < t) ∧
    ((hitS l t = true ∧ ∃ y B', B = y :: B' ∧ y.t = t ∧ ∀ x ∈ B', t < x.t) ∨ (hitS l t = false ∧ ∀ x ∈ B, t < x.t)) := by
  obtain ⟨A, B, h1, h2, h3, h4, h5⟩ := bs_split hs (fun x => decide (cmpI x.t t < 0)) (fun x => decide (x.t = t)) (fun x y h hy => by
      rw [decide_eq_true_eq, cmpI_lt] at *; omega) (fun x y h hx => by
      rw [decide_eq_false_iff_not, cmpI_lt] at hx; rw [decide_eq_false_iff_not]; omega)
  have h2 : atS l t = A.length := h2
  refine ⟨A, B, h1, h2, fun x hx => by have := h3 x hx; rwa [decide_eq_true_eq, cmpI_lt] at this, ?_⟩
  have hB : ∀ x ∈ B, t ≤ x.t := fun x hx => by have := h4 x hx; rw [decide_eq_false_iff_not, cmpI_lt] at this; omega
  cases B with
  | nil =>
    right
    refine ⟨?_, fun x hx => by cases hx⟩
    rw [hitS, h2, h1]; simp
  | cons y B' =>
    have hy : l.getD A.length default = y := by rw [h1, gd_app0]
    have hlen : A.length < l.length := by rw [h1]; simp
    have hT : ∀ x ∈ B', x.t ≠ t := fun x hx => by have := h5 x hx; rwa [decide_eq_false_iff_not] at this
    have hhit : hitS l t = decide (y.t = t) := by rw [hitS, h2, hy, cmpI_eq, decide_eq_true hlen, Bool.true_and]
    by_cases e : y.t = t
    · left
      exact ⟨by rw [hhit, decide_eq_true e], y, B', rfl, e, fun x hx => by have := hB x (List.mem_cons_of_mem _ hx); have := hT x hx; omega⟩
    · right
      refine ⟨by rw [hhit, decide_eq_false e], fun x hx => ?_⟩
      rcases List.mem_cons.1 hx with rfl | hx
      · have := hB x (List.mem_cons_self ..); omega
      · have := hB x (List.mem_cons_of_mem _ hx); have := hT x hx; omega
theorem rgetI_app {A B : List Smp} {t : Int} (h : ∀ x ∈ A, x.t ≠ t) : rgetI (A ++ B) t = A.length + rgetI B t := by
  unfold rgetI
  rw [List.findIdx_append, if_neg]
  · omega
  · rw [List.findIdx_lt_length]
    rintro ⟨x, hx, h1⟩
    exact h x hx (by simpa using h1)
theorem rget_eq {l : List Smp} (h : smsOk l = true) (t : Int) : rgetS l t = getS l t := by
  obtain ⟨A, B, h1, h2, h3, h4⟩ := sm_split ((smsOk_iff l).1 h).2.2 t
  have hA : ∀ x ∈ A, x.t ≠ t := fun x hx e => by have := h3 x hx; omega
  rcases h4 with ⟨hh, y, B', rfl, hy, hB⟩ | ⟨hh, hB⟩
  · have e : rgetI l t = A.length := by
      rw [h1, rgetI_app hA]
      simp [rgetI, List.findIdx_cons, hy]
    have hl : A.length < l.length := by rw [h1]; simp
    rw [rgetS, getS, e, h2, if_pos hl, if_pos ⟨hh, h⟩]
  · have e : rgetI l t = l.length := by
      rw [rgetI, List.findIdx_eq_length]
      intro x hx
      rw [h1] at hx
      rcases List.mem_append.1 hx with hx | hx
      · simpa using hA x hx
      · have := hB x hx; simp; omega
    rw [rgetS, getS, e, if_neg (Nat.lt_irrefl _), if_neg (by rw [hh]; simp)]
theorem wS_A (s : Smp) : ∀ (A : List Smp) (p : List Smp), (∀ x ∈ A, x.t < s.t) → A.foldl (wStepS s) (p, false) = (p ++ A, false)
  | [], p, h => by simp
  | x :: A, p, h => by
    have h1 := h x (List.mem_cons_self ..)
    rw [List.foldl_cons, show wStepS s (p, false) x = (p ++ [x], false) by simp [wStepS, show ¬ s.t < x.t by omega], wS_A s A _ fun y hy => h y (List.mem_cons_of_mem _ hy)]
    simp
theorem wS_T (s : Smp) : ∀ (A : List Smp) (p : List Smp), A.foldl (wStepS s) (p, true) = (p ++ A, true)
  | [], p => by simp
  | x :: A, p => by
    rw [List.foldl_cons, show wStepS s (p, true) x = (p ++ [x], true) by simp [wStepS], wS_T s A _]
    simp
theorem withS_eq {A B : List Smp} {s : Smp} (hA : ∀ x ∈ A, x.t < s.t) (hB : ∀ x ∈ B, s.t < x.t) : withS (A ++ B) s = A ++ s :: B := by
  unfold withS wAllS
  rw [List.foldl_append, wS_A s A [] hA]
  cases B with
  | nil => simp
  | cons y B =>
    have h1 := hB y (List.mem_cons_self ..)
    rw [List.foldl_cons, show wStepS s ([] ++ A, false) y = (A ++ [s] ++ [y], true) by simp [wStepS, h1], wS_T]
    simp
theorem smp_vt {x s : Smp} (h : x.t = s.t) : (x = s) ↔ x.v = s.v := by
  cases x; cases s
  simp only at h
  simp [h]
theorem rput_eq {l : List Smp} (h : smsOk l = true) (s : Smp) : rputS l s = putS l s := by
  unfold rputS putS
  rw [if_neg (show ¬ smsOk l = false by rw [h]; simp), rget_eq h]
  by_cases hs : smOk s = false
  · rw [if_pos hs, if_pos hs]
  · rw [if_neg hs, if_neg hs]
    obtain ⟨A, B, h1, h2, h3, h4⟩ := sm_split ((smsOk_iff l).1 h).2.2 s.t
    rcases h4 with ⟨hh, y, B', rfl, hy, hB⟩ | ⟨hh, hB⟩
    · have hg : l.getD A.length default = y := by rw [h1, gd_app0]
      have hG : getS l s.t = (y, true) := by rw [getS, if_pos ⟨hh, h⟩, h2, hg]
      rw [hG, if_pos hh, h2, hg]
      simp only [true_and, if_true, smp_vt hy]
      by_cases e : y.v = s.v <;> simp only [e, if_true, if_false]
    · have hG : getS l s.t = (zSmp, false) := by rw [getS, if_neg (by rw [hh]; simp)]
      rw [hG, if_neg (show ¬ hitS l s.t = true by rw [hh]; simp)]
      simp only [Bool.false_eq_true, false_and, if_false]
      by_cases e : l.length = 64
      · rw [if_pos e, if_pos e]
      · rw [if_neg e, if_neg e, h2]
        have e1 : l.take A.length = A := by rw [h1]; simp
        have e2 : l.drop A.length = B := by rw [h1]; simp
        rw [e1, e2, h1, withS_eq h3 hB]
theorem putS_ok {l : List Smp} (h : smsOk l = true) (s : Smp) : smsOk (putS l s).1 = true := by
  unfold putS
  rw [if_neg (show ¬ smsOk l = false by rw [h]; simp)]
  split
  · exact h
  split
  · exact h
  split
  · exact h
  rename_i hs hh h64
  obtain ⟨k1, k2, k3⟩ := (smsOk_iff l).1 h
  obtain ⟨A, B, h1, h2, h3, h4⟩ := sm_split k3 s.t
  have hB : ∀ x ∈ B, s.t < x.t := by
    rcases h4 with ⟨hh', _⟩ | ⟨_, hB⟩
    · exact absurd hh' hh
    · exact hB
  have e1 : l.take A.length = A := by rw [h1]; simp
  have e2 : l.drop A.length = B := by rw [h1]; simp
  rw [h2, e1, e2, smsOk_iff]
  have hlen : l.length = A.length + B.length := by rw [h1]; simp
  refine ⟨by simp; omega, fun x hx => ?_, ?_⟩
  · rcases List.mem_append.1 hx with hx | hx
    · exact k2 x (by rw [h1]; exact List.mem_append_left _ hx)
    · rcases List.mem_cons.1 hx with rfl | hx
      · simpa using hs
      · exact k2 x (by rw [h1]; exact List.mem_append_right _ hx)
  · unfold upS at k3 ⊢
    rw [h1, List.pairwise_append] at k3
    rw [List.pairwise_append, List.pairwise_cons]
    refine ⟨k3.1, ⟨hB, k3.2.1⟩, fun a ha b hb => ?_⟩
    rcases List.mem_cons.1 hb with rfl | hb
    · exact h3 a ha
    · exact k3.2.2 a ha b hb
theorem putS_mem {l : List Smp} (h : smsOk l = true) (s : Smp) : ∀ x ∈ (putS l s).1, x = s ∨ x ∈ l := by
  unfold putS
  rw [if_neg (show ¬ smsOk l = false by rw [h]; simp)]
  split
  · exact fun x hx => .inr hx
  split
  · exact fun x hx => .inr hx
  split
  · exact fun x hx => .inr hx
  intro x hx
  rcases List.mem_append.1 hx with hx | hx
  · exact .inr (List.mem_of_mem_take hx)
  · rcases List.mem_cons.1 hx with rfl | hx
    · exact .inl rfl
    · exact .inr (List.mem_of_mem_drop hx)
theorem filter_slice {α : Type} [Inhabited α] (l : List α) (p : α → Bool) (i j : Nat) (hp : ∀ k, k < l.length → p (l.getD k default) = (decide (i ≤ k) && decide (k < j))) : l.filter p = (l.drop i).take (j - i) := by
  have e : l = l.take i ++ ((l.drop i).take (j - i) ++ (l.drop i).drop (j - i)) := by rw [List.take_append_drop, List.take_append_drop]
  have hp' : ∀ k (h : k < l.length), p l[k] = (decide (i ≤ k) && decide (k < j)) := fun k h => by rw [← hp k h, gd_get h]
  conv => lhs; rw [e]
  rw [List.filter_append, List.filter_append]
  have e1 : (l.take i).filter p = [] := by
    rw [List.filter_eq_nil_iff]
    intro x hx
    obtain ⟨k, hk, rfl⟩ := List.mem_iff_getElem.1 hx
    rw [List.length_take] at hk
    rw [List.getElem_take, hp' k (by omega), decide_eq_false (by omega)]
    simp
  have e2 : ((l.drop i).take (j - i)).filter p = (l.drop i).take (j - i) := by
    rw [List.filter_eq_self]
    intro x hx
    obtain ⟨k, hk, rfl⟩ := List.mem_iff_getElem.1 hx
    rw [List.length_take, List.length_drop] at hk
    rw [List.getElem_take, List.getElem_drop, hp' (i + k) (by omega), decide_eq_true (by omega), decide_eq_true (by omega)]
    simp
  have e3 : ((l.drop i).drop (j - i)).filter p = [] := by
    rw [List.filter_eq_nil_iff]
    intro x hx
    obtain ⟨k, hk, rfl⟩ := List.mem_iff_getElem.1 hx
    rw [List.length_drop, List.length_drop] at hk
    rw [List.getElem_drop, List.getElem_drop, hp' _ (by omega)]
    simp only [Bool.and_eq_true, decide_eq_true_eq, not_and]
    omega
  rw [e1, e2, e3, List.nil_append, List.append_nil]
theorem at_char {l : List Smp} (hs : upS l) (t : Int) {k : Nat} (hk : k < l.length) : ((l.getD k default).t < t ↔ k < atS l t) := by
  obtain ⟨A, B, h1, h2, h3, h4⟩ := sm_split hs t
  rw [h2]
  by_cases h : k < A.length
  · have : (l.getD k default).t < t := by
      rw [h1, gd_appL _ _ h, gd_get h]
      exact h3 _ (List.getElem_mem h)
    exact ⟨fun _ => h, fun _ => this⟩
  · have hB : ∀ x ∈ B, t ≤ x.t := by
      rcases h4 with ⟨_, y, B', rfl, hy, hB⟩ | ⟨_, hB⟩
      · intro x hx
        rcases List.mem_cons.1 hx with rfl | hx
        · omega
        · have := hB x hx; omega
      · intro x hx
        have := hB x hx; omega
    have hkB : k - A.length < B.length := by rw [h1, List.length_append] at hk; omega
    have : t ≤ (l.getD k default).t := by
      rw [h1, show k = A.length + (k - A.length) by omega, gd_app, gd_get hkB]
      exact hB _ (List.getElem_mem hkB)
    constructor
    · intro h'; omega
    · intro h'; omega
theorem rrange_eq {l : List Smp} (h : smsOk l = true) (a b : Int) : rrangeS l a b = rangeS l a b := by
  have hu := ((smsOk_iff l).1 h).2.2
  rw [rangeS, if_pos h, rrangeS]
  refine filter_slice l _ _ _ fun k hk => ?_
  have h1 := at_char hu a hk
  have h2 := at_char hu b hk
  rw [Bool.eq_iff_iff]
  simp only [Bool.and_eq_true, decide_eq_true_eq]
  omega
theorem rtrim_eq {l : List Smp} (h : smsOk l = true) (a : Int) : rtrimS l a = trimS l a := by
  have hu := ((smsOk_iff l).1 h).2.2
  have hat := atS_le l a
  rw [trimS, if_pos h, rtrimS, filter_slice l _ (atS l a) l.length fun k hk => ?_]
  · rw [List.take_of_length_le]
    rw [List.length_drop]; exact Nat.le_refl _
  · have h1 := at_char hu a hk
    rw [Bool.eq_iff_iff]
    simp only [Bool.and_eq_true, decide_eq_true_eq]
    omega
theorem rtrim_ok {l : List Smp} (h : smsOk l = true) (a : Int) : smsOk (rtrimS l a) = true := by
  obtain ⟨h1, h2, h3⟩ := (smsOk_iff l).1 h
  rw [smsOk_iff]
  refine ⟨Nat.le_trans (List.length_filter_le ..) h1, fun x hx => h2 x (List.mem_filter.1 hx).1, List.Pairwise.filter _ h3⟩
end Go.Proofs.YtcmkhlfjcdchmaaGreat.A
end
section
namespace Go.Proofs.YtcmkhlfjcdchmaaGreat.A
open Go Go.Proofs.YtcmkhlfjcdchmaaGreatAbs
@[go_sem] def Ans.c (x : Ans) : Nat → CV
  | 0 => .v (.int .i64 x.code)
  | 1 => .v (.bool x.has)
  | _ => .v (.int .i64 x.n)
theorem lin_ext {x y : Lin} : x = y ↔ x.ser = y.ser ∧ x.smps = y.smps := by
  cases x; cases y; simp
instance : DecidableEq Lin := fun a b => decidable_of_iff' _ lin_ext
theorem ans_ext {x y : Ans} : x = y ↔ x.code = y.code ∧ x.has = y.has ∧ x.n = y.n := by
  cases x; cases y; simp
instance : DecidableEq Ans := fun a b => decidable_of_iff' _ ans_ext
theorem dn_ext {x y : Dn} : x = y ↔ x.client = y.client ∧ x.id = y.id ∧ x.ans = y.ans := by
  cases x; cases y; simp
instance : DecidableEq Dn := fun a b => decidable_of_iff' _ dn_ext
theorem shf_ext {x y : Shf} : x = y ↔ x.lines = y.lines ∧ x.dones = y.dones ∧ x.floor = y.floor := by
  cases x; cases y; simp
instance : DecidableEq Shf := fun a b => decidable_of_iff' _ shf_ext
theorem dn_eq (x y : Dn) : eqCells [1, 1, 1, 0, 1] (cellsUp (Dn.c x) 0 5) (cellsUp (Dn.c y) 0 5) = some (decide (x = y)) := by
  simp only [go_sem, if_true, Option.some.injEq, Bool.and_true]
  rw [Bool.eq_iff_iff]
  simp only [Bool.and_eq_true, beq_iff_eq, decide_eq_true_eq, dn_ext, ans_ext]
set_option maxRecDepth 20000 in
theorem Same1_rc (x y : Lin) (hx : x.smps.length ≤ 140737488355328) (M : List Blk) : CallR Tryz.prog M n_shelf_Same_1 [.agg [.c (.v (.string x.ser)), .c (smpCV x.smps)], .agg [.c (.v (.string y.ser)), .c (smpCV y.smps)]] (.b (decide (x = y))) M := by
  refine callP F_shelf_Same_1 (Nat.le_of_ble_eq_true rfl) (by simp only [go_sem]) (by simp only [go_sem]) ?_ M
  simp only [c_shelf_Same_1, go_sem]
  refine callg0 (fun _ => SmEqual_rc x.smps y.smps hx) ?_
  simp only [go_sem]
  rw [Bool.eq_iff_iff]
  simp only [Bool.and_eq_true, decide_eq_true_eq, lin_ext]
set_option maxRecDepth 20000 in
theorem ssame_rc (a b : Shf) (ha : zShf a) (M : List Blk) : CallR Tryz.prog M n_shelf_Same [shfA a, shfA b] (.b (decide (a = b))) M := by
  have hdn := eq_rc (P := Tryz.prog) (c := Dn.c) (eq := fun x y => decide (x = y)) F_slices_Equal_api_Done_api_Done dn_eq a.dones b.dones (by have := ha.dl; omega)
  have hln := fun M => eqf_rc (P := Tryz.prog) (c := Lin.c) (eq := fun x y => decide (x = y)) F_slices_EqualFunc_api_Line_api_Line_api_Line_api_Line rfl n_shelf_Same_1 0 (fun _ => default) (fun i hi => absurd hi (Nat.not_lt_zero _)) a.lines b.lines (by have := ha.ll; omega) (fun i hi _ M => Same1_rc (a.lines.getD i default) (b.lines.getD i default) (by have := ha.smp i hi; omega) M) M
  refine callP F_shelf_Same (Nat.le_of_ble_eq_true rfl) (by simp only [go_sem]) (by simp only [go_sem]) ?_ M
  simp only [c_shelf_Same, go_sem]
  refine call0 hln ?_
  simp only [go_sem]
  refine callg0 (fun _ => hdn) ?_
  simp only [go_sem, eqL_dec]
  rw [Bool.eq_iff_iff]
  simp only [Bool.and_eq_true, decide_eq_true_eq, beq_iff_eq, shf_ext, and_assoc]
theorem endB {n : Nat} (v : Bool) (e : Nat → SV) (X : List Blk) (r : Nat) (h4 : e r = .b v) : FinK n 0 [.t r] (.b v) [] .ret ⟨e, X⟩ := by
  refine fin0 (.inr rfl) (qs := [.one (.c (.v (.bool v)))]) (cnd := True) ?_ trivial (SubS.refl _) (by simp only [go_sem])
  simp only [go_sem, h4]
set_option maxRecDepth 20000 in
theorem rssame_rc (a b : Shf) (ha : zShf a) (M : List Blk) : CallR Tryz.prog M n_windroseref14_Same [shfA a, shfA b] (.b (decide (a = b))) M := by
  refine callPG F_windroseref14_Same (Nat.le_of_ble_eq_true rfl) (by simp only [go_sem]) ?_ M
  obtain ⟨hll, hdl, hser, hsmp⟩ := ha
  obtain ⟨la, da, fa⟩ := a
  obtain ⟨lb, db, fb⟩ := b
  simp only at hll hdl hser hsmp ⊢
  refine run_seqV ?_
  simp only [go_sem]
  refine run_seqV ?_
  simp only [go_sem]
  refine ⟨fun hc => ?_, fun hc => ?_⟩
  · rw [decide_eq_false]
    · exact endB false _ _ 4 (by simp only [go_sem])
    · rintro e
      cases e
      simp at hc
  have hs : la.length = lb.length ∧ da.length = db.length ∧ fa = fb := by
    simp only [Bool.or_eq_false_iff, bne_eq_false_iff_eq, Int.natCast_inj] at hc
    exact ⟨hc.1.1, hc.1.2, hc.2⟩
  obtain ⟨hl, hd, rfl⟩ := hs
  clear hc
  refine run_seqV ?_
  simp only [go_sem]
  refine R_loop (ι := Nat) (J := fun k => k ≤ la.length ∧ ∀ i, i < k → la.getD i default = lb.getD i default)
    (env := fun k => [(2, .p (.one (.ptr 0 0 0 0))), (3, .p (.one (.ptr 1 0 0 0))), (5, .i k)])
    (mem := fun _ => [shfB ⟨la, da, fa⟩, shfB ⟨lb, db, fa⟩])
    (μ := fun k => la.length - k) 0 ⟨Nat.zero_le _, fun i hi => absurd hi (Nat.not_lt_zero _)⟩ ⟨[], rfl, Nat.zero_le _, ?_, ?_⟩ ?_
  · simp only [go_sem]
  · simp only [go_sem, ltB]
  rintro k ⟨hk, heq⟩
  refine run_seqV ?_
  simp only [go_sem]
  refine ⟨fun h1 => ?_, fun h1 => ?_⟩
  · refine run_seq ?_
    refine run_block ?_
    refine run_seqV ?_
    simp only [go_sem]
    refine ⟨by omega, by omega, fun _ => by omega, fun _ => by omega, callg0 (fun _ => rSmSame_rc _ _ (by have := hsmp k h1; omega)) ?_⟩
    simp only [go_sem]
    refine V_sound ?_
    simp only [go_sem]
    refine ⟨fun hc => ?_, fun hc => ?_⟩
    · rw [decide_eq_false]
      · exact endB false _ _ 4 (by simp only [go_sem])
      · rintro e
        cases e
        simp at hc
    · have hkk : la.getD k default = lb.getD k default := by
        rw [lin_ext]
        simpa using hc
      refine V_sound ?_
      simp only [go_sem, w64s (show k < 9223372036854775807 by omega)]
      refine ⟨k + 1, ⟨h1, fun i hi => ?_⟩, by omega, [], by simp only [List.append_nil], Nat.zero_le _, ?_, ?_⟩
      · by_cases e : i = k
        · subst e; exact hkk
        · exact heq i (by omega)
      · simp only [go_sem]
      · simp only [go_sem, ltB]
  · have e : la = lb := getD_ext hl fun i hi => heq i (by omega)
    subst e
    refine run_seqV ?_
    simp only [go_sem]
    refine R_loop (ι := Nat) (J := fun k => k ≤ da.length ∧ ∀ i, i < k → da.getD i default = db.getD i default)
      (env := fun k => [(2, .p (.one (.ptr 0 0 0 0))), (3, .p (.one (.ptr 1 0 0 0))), (6, .i k)])
      (mem := fun _ => [shfB ⟨la, da, fa⟩, shfB ⟨la, db, fa⟩])
      (μ := fun k => da.length - k) 0 ⟨Nat.zero_le _, fun i hi => absurd hi (Nat.not_lt_zero _)⟩ ⟨[], rfl, Nat.zero_le _, ?_, ?_⟩ ?_
    · simp only [go_sem]
    · simp only [go_sem, ltB]
    rintro k ⟨hk, heq⟩
    refine run_seqV ?_
    simp only [go_sem]
    refine ⟨fun h1 => ?_, fun h1 => ?_⟩
    · refine run_seq ?_
      refine run_block ?_
      refine run_seqV ?_
      simp only [go_sem]
      refine ⟨by omega, by omega, V_sound ?_⟩
      simp only [go_sem]
      refine ⟨fun hc => ?_, fun hc => ?_⟩
      · rw [decide_eq_false]
        · exact endB false _ _ 4 (by simp only [go_sem])
        · rintro e
          cases e
          simp at hc
      · have hkk : da.getD k default = db.getD k default := by
          rw [dn_ext, ans_ext]
          simpa using hc
        refine V_sound ?_
        simp only [go_sem, w64s (show k < 9223372036854775807 by omega)]
        refine ⟨k + 1, ⟨h1, fun i hi => ?_⟩, by omega, [], by simp only [List.append_nil], Nat.zero_le _, ?_, ?_⟩
        · by_cases e : i = k
          · subst e; exact hkk
          · exact heq i (by omega)
        · simp only [go_sem]
        · simp only [go_sem, ltB]
    · have e : da = db := getD_ext hd fun i hi => heq i (by omega)
      subst e
      refine V_sound ?_
      simp only [go_sem]
      exact endB true _ _ 4 (by simp only [go_sem])
theorem all_no {α : Type} [Inhabited α] {l : List α} {p : α → Bool} {k : Nat} (hk : k < l.length) (h : p (l.getD k default) = false) : l.all p = false := by
  rw [List.all_eq_false]
  exact ⟨l.getD k default, by rw [gd_get hk]; exact List.getElem_mem hk, by rw [h]; simp⟩
theorem all_yes {α : Type} [Inhabited α] {l : List α} {p : α → Bool} (h : ∀ i, i < l.length → p (l.getD i default) = true) : l.all p = true := by
  rw [List.all_eq_true]
  exact all_mem.1 h
def light14B (s : Shf) : Bool := decide (s.lines.length ≤ 20) && decide (s.dones.length ≤ 20) && s.lines.all fun x => decide (x.ser.size ≤ 500) && decide (x.smps.length ≤ 70)
theorem light14_rc (s : Shf) (hl : s.lines.length ≤ 140737488355328) (M : List Blk) : CallR Tryz.prog M n_windroselaw14_Light [shfA s] (.b (light14B s)) M := by
  refine callPG F_windroselaw14_Light (Nat.le_of_ble_eq_true rfl) (by simp only [go_sem]) ?_ M
  obtain ⟨lines, dones, floor⟩ := s
  simp only at hl ⊢
  refine run_seqV ?_
  simp only [go_sem]
  refine run_seqV ?_
  simp only [go_sem]
  refine R_loop (ι := Nat) (J := fun k => k ≤ lines.length ∧ k ≤ 20 ∧ ∀ i, i < k → (decide ((lines.getD i default).ser.size ≤ 500) && decide ((lines.getD i default).smps.length ≤ 70)) = true)
    (env := fun k => [(1, .p (.one (.ptr 0 0 0 0))), (3, .i k)])
    (mem := fun _ => [shfB ⟨lines, dones, floor⟩])
    (μ := fun k => lines.length - k) 0 ⟨Nat.zero_le _, Nat.zero_le _, fun i hi => absurd hi (Nat.not_lt_zero _)⟩ ⟨[], rfl, Nat.zero_le _, ?_, ?_⟩ ?_
  · simp only [go_sem]
  · simp only [go_sem, ltB]
  rintro k ⟨hk, hk2, hok⟩
  refine run_seqV ?_
  simp only [go_sem]
  refine ⟨fun h1 => ?_, fun h1 => ?_⟩
  · have h1 : k < lines.length ∧ k < 20 := by
      simp only [Bool.and_eq_true, decide_eq_true_eq] at h1
      omega
    refine run_seq ?_
    refine run_block ?_
    refine run_seqV ?_
    simp only [go_sem]
    refine ⟨by omega, fun _ => by omega, V_sound ?_⟩
    simp only [go_sem]
    refine ⟨fun hc => ?_, fun hc => ?_⟩
    · have : (lines.all fun x => decide (x.ser.size ≤ 500) && decide (x.smps.length ≤ 70)) = false := all_no h1.1 (by
        simp only [Bool.or_eq_true, decide_eq_true_eq, Bool.and_eq_false_iff, decide_eq_false_iff_not] at hc ⊢
        omega)
      rw [light14B, this, Bool.and_false]
      exact endB false _ _ 2 (by simp only [go_sem])
    · refine V_sound ?_
      simp only [go_sem, w64s (show k < 9223372036854775807 by omega)]
      refine ⟨k + 1, ⟨by omega, by omega, fun i hi => ?_⟩, by omega, [], by simp only [List.append_nil], Nat.zero_le _, ?_, ?_⟩
      · by_cases e : i = k
        · subst e
          simp only [Bool.or_eq_false_iff, decide_eq_false_iff_not, Bool.and_eq_true, decide_eq_true_eq] at hc ⊢
          omega
        · exact hok i (by omega)
      · simp only [go_sem]
      · simp only [go_sem, ltB]
  · refine V_sound ?_
    simp only [go_sem]
    have e : light14B ⟨lines, dones, floor⟩ = (decide ((lines.length : Int) ≤ 20) && decide ((dones.length : Int) ≤ 20)) := by
      rw [light14B]
      by_cases h8 : lines.length ≤ 20
      · have hkl : k = lines.length := by
          simp only [Bool.and_eq_false_iff, decide_eq_false_iff_not] at h1
          omega
        subst hkl
        rw [show (lines.all fun x => decide (x.ser.size ≤ 500) && decide (x.smps.length ≤ 70)) = true from all_yes hok, Bool.and_true, Bool.eq_iff_iff]
        simp only [Bool.and_eq_true, decide_eq_true_eq]
        omega
      · simp only
        rw [decide_eq_false h8, decide_eq_false (show ¬ (lines.length : Int) ≤ 20 by omega), Bool.false_and, Bool.false_and, Bool.false_and]
    rw [e]
    exact endB _ _ _ 2 (by simp only [go_sem])
end Go.Proofs.YtcmkhlfjcdchmaaGreat.A
end
section
namespace Go.Proofs.YtcmkhlfjcdchmaaGreat.A
open Go Go.Proofs.YtcmkhlfjcdchmaaGreatAbs
def upLn (l : List Lin) : Prop := l.Pairwise fun x y => sLt x.ser y.ser = true
theorem cmpS_lt0 (a b : ByteArray) : (cmpS a b < 0) ↔ sLt a b = true := by
  have := cmpS_neg a b
  rw [← this, decide_eq_true_eq]
theorem cmpS_eq0 (a b : ByteArray) : (cmpS a b == 0) = decide (a = b) := by
  unfold cmpS
  cases h : sLt a b with
  | true => have := sLt_ne h; simp [this]
  | false =>
    cases k : sLt b a with
    | true => have := sLt_ne k; simp [Ne.symm this]
    | false => have := sLt_total h k; simp [this]
theorem ln_split {l : List Lin} (hs : upLn l) (n : ByteArray) : ∃ A B, l = A ++ B ∧ atL l n = A.length ∧ (∀ x ∈ A, sLt x.ser n = true) ∧
    ((hitL l n = true ∧ ∃ y B', B = ⟨n, y⟩ :: B' ∧ ∀ x ∈ B', sLt n x.ser = true) ∨ (hitL l n = false ∧ ∀ x ∈ B, sLt n x.ser = true)) := by
  obtain ⟨A, B, h1, h2, h3, h4, h5⟩ := bs_split hs (fun x => decide (cmpS x.ser n < 0)) (fun x => decide (x.ser = n)) (fun x y h hy => by
      rw [decide_eq_true_eq, cmpS_lt0] at *; exact sLt_trans h hy) (fun x y h hx => by
      rw [decide_eq_false_iff_not, cmpS_lt0] at hx; rw [decide_eq_false_iff_not]; rintro rfl; exact hx h)
  have h2 : atL l n = A.length := h2
  refine ⟨A, B, h1, h2, fun x hx => by have := h3 x hx; rwa [decide_eq_true_eq, cmpS_lt0] at this, ?_⟩
  have hB : ∀ x ∈ B, sLt x.ser n = false := fun x hx => by have := h4 x hx; rw [decide_eq_false_iff_not, cmpS_lt0] at this; simpa using this
  cases B with
  | nil =>
    right
    refine ⟨?_, fun x hx => by cases hx⟩
    rw [hitL, h2, h1]; simp
  | cons y B' =>
    have hy : l.getD A.length default = y := by rw [h1, gd_app0]
    have hlen : A.length < l.length := by rw [h1]; simp
    have hT : ∀ x ∈ B', x.ser ≠ n := fun x hx => by have := h5 x hx; rwa [decide_eq_false_iff_not] at this
    have hhit : hitL l n = decide (y.ser = n) := by rw [hitL, h2, hy, cmpS_eq0, decide_eq_true hlen, Bool.true_and]
    have hgt : ∀ x ∈ y :: B', x.ser ≠ n → sLt n x.ser = true := fun x hx hne => by
      cases h : sLt n x.ser with
      | true => rfl
      | false => exact absurd (sLt_total (hB x hx) h) hne
    by_cases e : y.ser = n
    · left
      refine ⟨by rw [hhit, decide_eq_true e], y.smps, B', by rw [← e], fun x hx => hgt x (List.mem_cons_of_mem _ hx) (hT x hx)⟩
    · right
      refine ⟨by rw [hhit, decide_eq_false e], fun x hx => ?_⟩
      rcases List.mem_cons.1 hx with rfl | hx
      · exact hgt _ (List.mem_cons_self ..) e
      · exact hgt x (List.mem_cons_of_mem _ hx) (hT x hx)
theorem rlI_app {A B : List Lin} {n : ByteArray} (h : ∀ x ∈ A, x.ser ≠ n) : rlI (A ++ B) n = A.length + rlI B n := by
  unfold rlI
  rw [List.findIdx_append, if_neg]
  · omega
  · rw [List.findIdx_lt_length]
    rintro ⟨x, hx, h1⟩
    exact h x hx (by simpa using h1)
theorem rline_hit {A B : List Lin} {n : ByteArray} {y : List Smp} (h : ∀ x ∈ A, x.ser ≠ n) : rlineS (A ++ ⟨n, y⟩ :: B) n = y := by
  have e : rlI (A ++ ⟨n, y⟩ :: B) n = A.length := by rw [rlI_app h]; simp [rlI, List.findIdx_cons]
  rw [rlineS, e, if_pos (by simp), gd_app0]
theorem rline_no {l : List Lin} {n : ByteArray} (h : ∀ x ∈ l, x.ser ≠ n) : rlineS l n = [] := by
  have e : rlI l n = l.length := by
    rw [rlI, List.findIdx_eq_length]
    exact fun x hx => by simpa using h x hx
  rw [rlineS, e, if_neg (Nat.lt_irrefl _)]
theorem rline_eq {s : Shf} (hs : upLn s.lines) (n : ByteArray) : rlineS s.lines n = hasL s n := by
  obtain ⟨A, B, h1, h2, h3, h4⟩ := ln_split hs n
  have hA : ∀ x ∈ A, x.ser ≠ n := fun x hx => sLt_ne (h3 x hx)
  rcases h4 with ⟨hh, y, B', rfl, hB⟩ | ⟨hh, hB⟩
  · rw [hasL, if_pos hh, h2, h1, rline_hit hA, gd_app0]
  · rw [hasL, if_neg (by rw [hh]; simp), rline_no]
    intro x hx
    rw [h1] at hx
    rcases List.mem_append.1 hx with hx | hx
    · exact hA x hx
    · exact (sLt_ne (hB x hx)).symm
theorem st_A (n : ByteArray) (x : List Smp) : ∀ (A p : List Lin) (b : Bool), (∀ y ∈ A, sLt y.ser n = true) → A.foldl (stStep n x) (p, b) = (p ++ A, b)
  | [], p, b, h => by simp
  | y :: A, p, b, h => by
    have h1 := h y (List.mem_cons_self ..)
    rw [List.foldl_cons, show stStep n x (p, b) y = (p ++ [y], b) by simp [stStep, h1, sLt_ne h1], st_A n x A _ b fun z hz => h z (List.mem_cons_of_mem _ hz)]
    simp
theorem st_T (n : ByteArray) (x : List Smp) : ∀ (A p : List Lin), (∀ y ∈ A, y.ser ≠ n) → A.foldl (stStep n x) (p, true) = (p ++ A, true)
  | [], p, h => by simp
  | y :: A, p, h => by
    have h1 := h y (List.mem_cons_self ..)
    rw [List.foldl_cons, show stStep n x (p, true) y = (p ++ [y], true) by simp [stStep, h1], st_T n x A _ fun z hz => h z (List.mem_cons_of_mem _ hz)]
    simp
def mayL (n : ByteArray) (x : List Smp) : List Lin := if x.length = 0 then [] else [⟨n, x⟩]
theorem setS_hit {A B : List Lin} {n : ByteArray} {y : List Smp} (hA : ∀ z ∈ A, sLt z.ser n = true) (hB : ∀ z ∈ B, sLt n z.ser = true) (x : List Smp) : setS (A ++ ⟨n, y⟩ :: B) n x = A ++ (mayL n x ++ B) := by
  have hB' : ∀ z ∈ B, z.ser ≠ n := fun z hz => (sLt_ne (hB z hz)).symm
  unfold setS stAll mayL
  rw [List.foldl_append, st_A n x A [] _ hA, List.foldl_cons]
  by_cases h : x.length = 0
  · rw [decide_eq_true h, show stStep n x ([] ++ A, true) ⟨n, y⟩ = (A, true) by simp [stStep], st_T n x B A hB']
    simp [h]
  · rw [decide_eq_false h, show stStep n x ([] ++ A, false) ⟨n, y⟩ = (A ++ [⟨n, x⟩], true) by simp [stStep, sLt_irrefl], st_T n x B _ hB']
    simp [h]
theorem setS_no {A B : List Lin} {n : ByteArray} (hA : ∀ z ∈ A, sLt z.ser n = true) (hB : ∀ z ∈ B, sLt n z.ser = true) (x : List Smp) : setS (A ++ B) n x = A ++ (mayL n x ++ B) := by
  have hB' : ∀ z ∈ B, z.ser ≠ n := fun z hz => (sLt_ne (hB z hz)).symm
  unfold setS stAll mayL
  rw [List.foldl_append, st_A n x A [] _ hA]
  by_cases h : x.length = 0
  · rw [decide_eq_true h, st_T n x B _ hB']
    simp [h]
  · rw [decide_eq_false h]
    cases B with
    | nil => simp [h]
    | cons b B =>
      have h1 := hB b (List.mem_cons_self ..)
      rw [List.foldl_cons, show stStep n x ([] ++ A, false) b = (A ++ [⟨n, x⟩] ++ [b], true) by simp [stStep, sLt_asymm h1, (sLt_ne h1).symm], st_T n x B _ fun z hz => hB' z (List.mem_cons_of_mem _ hz)]
      simp [h]
structure linOk (f : Int) (x : Lin) : Prop where
  ser : serT x.ser = true
  ne : x.smps.length ≠ 0
  ok : smsOk x.smps = true
  fl : ∀ y ∈ x.smps, f ≤ y.t
structure dnOk (d : Dn) : Prop where
  c1 : 1 ≤ d.client
  c2 : d.client ≤ 2147483647
  i1 : 1 ≤ d.id
  i2 : d.id ≤ 2147483647
def upD (l : List Dn) : Prop := l.Pairwise fun x y => x.client < y.client
structure shP (s : Shf) : Prop where
  ll : s.lines.length ≤ 16
  dl : s.dones.length ≤ 8
  f0 : 0 ≤ s.floor
  f1 : s.floor ≤ 1099511627776
  ln : ∀ x ∈ s.lines, linOk s.floor x
  up : upLn s.lines
  dn : ∀ d ∈ s.dones, dnOk d
  ud : upD s.dones
theorem fl_iff {l : List Smp} (hu : upS l) (h0 : l.length ≠ 0) (f : Int) : f ≤ (l.getD 0 default).t ↔ ∀ y ∈ l, f ≤ y.t := by
  constructor
  · intro h y hy
    cases l with
    | nil => cases hy
    | cons x l =>
      have h : f ≤ x.t := h
      rcases List.mem_cons.1 hy with rfl | hy
      · exact h
      · have := (List.pairwise_cons.1 hu).1 y hy
        omega
  · intro h
    rw [gd_get (by omega)]
    exact h _ (List.getElem_mem _)
theorem shOk_iff (s : Shf) : shOk s = true ↔ shP s := by
  unfold shOk
  simp only [Bool.and_eq_true, decide_eq_true_eq, List.all_eq_true, List.mem_range]
  constructor
  · rintro ⟨⟨⟨⟨⟨h1, h2⟩, h3⟩, h4⟩, h5⟩, h6⟩
    have k5 : ∀ i, i < s.lines.length → (serT (s.lines.getD i default).ser = true ∧ (s.lines.getD i default).smps.length ≠ 0 ∧ smsOk (s.lines.getD i default).smps = true ∧ s.floor ≤ ((s.lines.getD i default).smps.getD 0 default).t) ∧ (i = 0 ∨ sLt (s.lines.getD (i - 1) default).ser (s.lines.getD i default).ser = true) := fun i hi => by
      have := h5 i hi
      simp only [lnAt, Bool.and_eq_true, Bool.or_eq_true, decide_eq_true_eq, beq_iff_eq] at this
      obtain ⟨⟨⟨⟨a, b⟩, c⟩, d⟩, e⟩ := this
      exact ⟨⟨a, by omega, d, e⟩, b⟩
    have k6 : ∀ i, i < s.dones.length → dnOk (s.dones.getD i default) ∧ (i = 0 ∨ (s.dones.getD (i - 1) default).client < (s.dones.getD i default).client) := fun i hi => by
      have := h6 i hi
      simp only [dnAt, Bool.and_eq_true, Bool.or_eq_true, decide_eq_true_eq, beq_iff_eq] at this
      obtain ⟨⟨⟨⟨a, b⟩, c⟩, d⟩, e⟩ := this
      exact ⟨⟨a, b, c, d⟩, e⟩
    refine ⟨h1, h2, h3, h4, all_mem.1 fun i hi => ?_, (show upLn s.lines from pw_idx (fun x y z h k => sLt_trans h k) fun i hi => (k5 i hi).2), all_mem.1 fun i hi => (k6 i hi).1, (show upD s.dones from pw_idx (fun x y z h k => Int.lt_trans h k) fun i hi => (k6 i hi).2)⟩
    obtain ⟨⟨a, b, c, d⟩, e⟩ := k5 i hi
    exact ⟨a, b, c, (fl_iff ((smsOk_iff _).1 c).2.2 b s.floor).1 d⟩
  · rintro ⟨h1, h2, h3, h4, h5, h6, h7, h8⟩
    refine ⟨⟨⟨⟨⟨h1, h2⟩, h3⟩, h4⟩, fun i hi => ?_⟩, fun i hi => ?_⟩
    · obtain ⟨a, b, c, d⟩ := all_mem.2 h5 i hi
      simp only [lnAt, Bool.and_eq_true, Bool.or_eq_true, decide_eq_true_eq, beq_iff_eq]
      refine ⟨⟨⟨⟨a, ?_⟩, by omega⟩, c⟩, (fl_iff ((smsOk_iff _).1 c).2.2 b s.floor).2 d⟩
      by_cases h0 : i = 0
      · exact .inl h0
      · exact .inr (idx_pw h6 hi h0)
    · obtain ⟨a, b, c, d⟩ := all_mem.2 h7 i hi
      simp only [dnAt, Bool.and_eq_true, Bool.or_eq_true, decide_eq_true_eq, beq_iff_eq]
      refine ⟨⟨⟨⟨a, b⟩, c⟩, d⟩, ?_⟩
      by_cases h0 : i = 0
      · exact .inl h0
      · exact .inr (idx_pw h8 hi h0)
theorem putS_ne {l : List Smp} (h : smsOk l = true) {s : Smp} (h2 : (putS l s).2 ≠ 0) : (putS l s).1 = l := by
  revert h2
  unfold putS
  rw [if_neg (show ¬ smsOk l = false by rw [h]; simp)]
  repeat' split
  all_goals first | (intro _; rfl) | (intro h; exact absurd rfl h)
theorem putS_nil {s : Smp} (h : smOk s = true) : putS [] s = ([s], 0) := by
  have e : atS [] s.t = 0 := by have := atS_le [] s.t; simpa using this
  have e2 : hitS [] s.t = false := by rw [hitS, e]; rfl
  rw [putS, if_neg (by decide), if_neg (by rw [h]; simp), if_neg (by rw [e2]; simp), if_neg (by decide), e]
  rfl
theorem putS_len0 {l : List Smp} (h : smsOk l = true) (h0 : l.length ≠ 0) (s : Smp) : (putS l s).1.length ≠ 0 := by
  unfold putS
  rw [if_neg (show ¬ smsOk l = false by rw [h]; simp)]
  repeat' split
  all_goals first | exact h0 | simp
theorem lin_mid {s : Shf} {A B : List Lin} {n : ByteArray} {y z : List Smp} (hl : s.lines = A ++ ⟨n, y⟩ :: B) (h : shP s) (h1 : linOk s.floor ⟨n, z⟩) : shP ⟨A ++ ⟨n, z⟩ :: B, s.dones, s.floor⟩ := by
  have hu := h.up
  have hln := h.ln
  unfold upLn at hu
  rw [hl] at hu hln
  have hlen := h.ll
  rw [hl] at hlen
  refine ⟨by simpa using hlen, h.dl, h.f0, h.f1, fun x hx => ?_, ?_, h.dn, h.ud⟩
  · rcases List.mem_append.1 hx with hx | hx
    · exact hln x (List.mem_append_left _ hx)
    · rcases List.mem_cons.1 hx with rfl | hx
      · exact h1
      · exact hln x (List.mem_append_right _ (List.mem_cons_of_mem _ hx))
  · unfold upLn
    rw [List.pairwise_append, List.pairwise_cons] at hu ⊢
    refine ⟨hu.1, ⟨hu.2.1.1, hu.2.1.2⟩, fun a ha b hb => ?_⟩
    rcases List.mem_cons.1 hb with rfl | hb
    · exact hu.2.2 a ha ⟨n, y⟩ (List.mem_cons_self ..)
    · exact hu.2.2 a ha b (List.mem_cons_of_mem _ hb)
theorem write_eq {s : Shf} (h : shP s) (o : Opn) (hk : o.kind = 1) (hser : serT o.ser = true) (hs : smOk o.smp = true) :
    ropS s o = (⟨(writeS s.lines s.floor o).1, s.dones, s.floor⟩, (writeS s.lines s.floor o).2) ∧ shP ⟨(writeS s.lines s.floor o).1, s.dones, s.floor⟩ := by
  unfold ropS writeS
  rw [if_pos hk]
  by_cases hf : o.smp.t < s.floor
  · rw [if_pos hf, if_pos hf]
    exact ⟨rfl, h⟩
  rw [if_neg hf, if_neg hf, rline_eq h.up]
  obtain ⟨A, B, h1, h2, h3, h4⟩ := ln_split h.up o.ser
  have hA : ∀ x ∈ A, x.ser ≠ o.ser := fun x hx => sLt_ne (h3 x hx)
  have hsame : (⟨s.lines, s.dones, s.floor⟩ : Shf) = s := rfl
  rcases h4 with ⟨hh, y, B', rfl, hB⟩ | ⟨hh, hB⟩
  · have hlin := h.ln ⟨o.ser, y⟩ (by rw [h1]; simp)
    have hg : s.lines.getD A.length default = ⟨o.ser, y⟩ := by rw [h1, gd_app0]
    have hhas : hasL s o.ser = y := by rw [hasL, if_pos hh, h2, hg]
    have hset : ∀ z, s.lines.set A.length z = A ++ z :: B' := fun z => by rw [h1, set_mid]
    have hne : y.length ≠ 0 := hlin.ne
    have hok : smsOk y = true := hlin.ok
    simp only [hhas, hne, false_and, if_false, hh, Bool.true_eq_false, wrL, if_true, h2, hg, hset, rput_eq hok]
    by_cases h7 : (putS y o.smp).2 = 7
    · have e := putS_ne hok (s := o.smp) (by rw [h7]; decide)
      rw [if_pos h7, if_pos h7, e, ← h1]
      exact ⟨rfl, h⟩
    · rw [if_neg h7, if_neg h7]
      by_cases h0 : (putS y o.smp).2 = 0
      · rw [if_neg (by simpa using h0), h0, h1, setS_hit h3 hB, mayL, if_neg (putS_len0 hok hne _)]
        refine ⟨rfl, lin_mid h1 h ⟨hser, putS_len0 hok hne _, putS_ok hok _, fun z hz => ?_⟩⟩
        rcases putS_mem hok _ z hz with rfl | hz
        · omega
        · exact hlin.fl z hz
      · have e := putS_ne hok h0
        rw [if_pos h0, e, ← h1, decide_eq_false h0]
        exact ⟨rfl, h⟩
  · have hhas : hasL s o.ser = [] := by rw [hasL, if_neg (by rw [hh]; simp)]
    simp only [hhas, List.length_nil, true_and, hh]
    by_cases h16 : s.lines.length = 16
    · rw [if_pos h16, if_pos h16]
      exact ⟨rfl, h⟩
    · rw [if_neg h16, if_neg h16]
      have hw : wrL s.lines o.ser = A ++ ⟨o.ser, []⟩ :: B := by
        rw [wrL, if_neg (by rw [hh]; simp), h2, h1]; simp
      rw [hw, h2, gd_app0, set_mid, rput_eq (l := []) (by decide), putS_nil hs]
      simp only [h1, setS_no h3 hB, mayL]
      refine ⟨rfl, ?_⟩
      have hln := h.ln
      have hu := h.up
      have hl := h.ll
      rw [h1] at hln hl
      unfold upLn at hu
      rw [h1, List.pairwise_append] at hu
      refine ⟨?_, h.dl, h.f0, h.f1, fun x hx => ?_, ?_, h.dn, h.ud⟩
      · rw [h1] at h16
        simp at h16 hl ⊢
        omega
      · rcases List.mem_append.1 hx with hx | hx
        · exact hln x (List.mem_append_left _ hx)
        · rcases List.mem_cons.1 hx with rfl | hx
          · refine ⟨hser, by simp, by rw [smsOk_one]; exact hs, fun z hz => ?_⟩
            rw [List.mem_singleton] at hz
            subst hz
            show s.floor ≤ _
            omega
          · exact hln x (List.mem_append_right _ hx)
      · unfold upLn
        rw [List.pairwise_append, List.pairwise_cons]
        refine ⟨hu.1, ⟨hB, hu.2.1⟩, fun a ha b hb => ?_⟩
        rcases List.mem_cons.1 hb with rfl | hb
        · exact h3 a ha
        · exact hu.2.2 a ha b hb
theorem mayL_flt (x : Lin) (a : Int) : ([x].map (trimF a)).filter (fun x => !bareL x) = mayL x.ser (trimS x.smps a) := by
  simp only [List.map_cons, List.map_nil, List.filter_cons, List.filter_nil, bareL, trimF, mayL]
  by_cases h0 : (trimS x.smps a).length = 0
  · rw [decide_eq_true h0, if_pos h0]; rfl
  · rw [decide_eq_false h0, if_neg h0]; rfl
theorem trA_eq {s : Shf} (h : shP s) (a : Int) : ∀ k, k ≤ s.lines.length → trA s a k = trimL (s.lines.take k) a ++ s.lines.drop k
  | 0, _ => by simp [trA, trimL]
  | k + 1, hk => by
    have hkl : k < s.lines.length := hk
    have hu := h.up
    unfold upLn at hu
    have hR := List.pairwise_iff_getElem.1 hu
    rw [trA, trA_eq h a k (by omega), List.drop_eq_getElem_cons hkl, gd_get hkl]
    have hok := (h.ln _ (List.getElem_mem hkl)).ok
    have hA : ∀ z ∈ trimL (s.lines.take k) a, sLt z.ser s.lines[k].ser = true := by
      intro z hz
      obtain ⟨w, hw, rfl⟩ := List.mem_map.1 (List.mem_filter.1 hz).1
      obtain ⟨i, hi, rfl⟩ := List.mem_iff_getElem.1 hw
      rw [List.length_take] at hi
      rw [List.getElem_take]
      exact hR i k (by omega) hkl (by omega)
    have hB : ∀ z ∈ s.lines.drop (k + 1), sLt s.lines[k].ser z.ser = true := by
      intro z hz
      obtain ⟨i, hi, rfl⟩ := List.mem_iff_getElem.1 hz
      rw [List.length_drop] at hi
      rw [List.getElem_drop]
      exact hR k (k + 1 + i) hkl (by omega) (by omega)
    have e := setS_hit (y := s.lines[k].smps) hA hB (rtrimS s.lines[k].smps a)
    have e2 : (⟨s.lines[k].ser, s.lines[k].smps⟩ : Lin) = s.lines[k] := rfl
    rw [e2] at e
    rw [e, rtrim_eq hok, ← List.append_assoc]
    congr 1
    unfold trimL
    rw [List.take_succ_eq_append_getElem hkl, List.map_append, List.filter_append]
    congr 1
    exact (mayL_flt _ a).symm
theorem trim_ok {s : Shf} (h : shP s) {a : Int} (h1 : s.floor ≤ a) (h2 : a ≤ 1099511627776) : shP ⟨trimL s.lines a, s.dones, a⟩ := by
  have hf := h.f0
  refine ⟨Nat.le_trans (List.length_filter_le ..) (by rw [List.length_map]; exact h.ll), h.dl, (show 0 ≤ a by omega), h2, fun x hx => ?_, ?_, h.dn, h.ud⟩
  · obtain ⟨hx1, hx2⟩ := List.mem_filter.1 hx
    obtain ⟨w, hw, rfl⟩ := List.mem_map.1 hx1
    have hl := h.ln w hw
    have hr := rtrim_eq hl.ok a
    refine ⟨hl.ser, by simpa [bareL] using hx2, ?_, fun y hy => ?_⟩
    · show smsOk (trimS w.smps a) = true
      rw [← hr]
      exact rtrim_ok hl.ok a
    · have hy : y ∈ trimS w.smps a := hy
      rw [← hr] at hy
      simpa using (List.mem_filter.1 hy).2
  · unfold upLn trimL
    refine List.Pairwise.filter _ ?_
    rw [List.pairwise_map]
    exact h.up
theorem op_serT {o : Opn} (h : opOk o = true) (h2 : o.kind ≠ 2) : serT o.ser = true := by
  unfold opOk at h
  rw [if_neg h2] at h
  split at h
  · simp only [Bool.and_eq_true] at h; exact h.1.1.1.1
  split at h
  · simp only [Bool.and_eq_true] at h; exact h.1.1.1
  split at h
  · simp only [Bool.and_eq_true] at h; exact h.1.1.1
  · cases h
theorem doOp_eq {s : Shf} (h : shP s) (o : Opn) : rApS s o = doOp s o ∧ shP (doOp s o).1 := by
  unfold rApS doOp
  by_cases ho : opOk o = false
  · rw [if_pos ho, if_pos ho]
    exact ⟨rfl, h⟩
  rw [if_neg ho, if_neg ho]
  have ho : opOk o = true := by simpa using ho
  by_cases k1 : o.kind = 1
  · rw [if_pos k1]
    have hs : smOk o.smp = true := by
      unfold opOk at ho
      rw [if_pos k1] at ho
      simp only [Bool.and_eq_true] at ho
      exact ho.1.1.1.2
    exact write_eq h o k1 (op_serT ho (by rw [k1]; decide)) hs
  rw [if_neg k1]
  by_cases k2 : o.kind = 2
  · rw [if_pos k2]
    have hf : 0 ≤ o.frm ∧ o.frm ≤ 1099511627776 := by
      unfold opOk at ho
      rw [if_neg k1, if_pos k2] at ho
      simp only [Bool.and_eq_true, decide_eq_true_eq] at ho
      exact ⟨ho.1.1.1.2, ho.1.1.2⟩
    unfold ropS trimSh
    rw [if_neg k1, if_pos k2]
    by_cases hl : o.frm < s.floor
    · rw [if_pos hl, if_pos hl]
      exact ⟨rfl, h⟩
    · rw [if_neg hl, if_neg hl, trA_eq h o.frm _ (Nat.le_refl _)]
      simp only [List.take_length, List.drop_length, List.append_nil]
      exact ⟨trivial, trim_ok h (by omega) hf.2⟩
  rw [if_neg k2]
  have hhas : smsOk (hasL s o.ser) = true := by
    unfold hasL
    split
    · rename_i hh
      rw [gd_get (hitL_lt hh)]
      exact (h.ln _ (List.getElem_mem _)).ok
    · decide
  unfold ropS lookS
  rw [if_neg k1, if_neg k2, rline_eq h.up, rget_eq hhas, rrange_eq hhas]
  refine ⟨?_, h⟩
  split <;> rfl
end Go.Proofs.YtcmkhlfjcdchmaaGreat.A
end
section
namespace Go.Proofs.YtcmkhlfjcdchmaaGreat.A
open Go Go.Proofs.YtcmkhlfjcdchmaaGreatAbs
theorem dn_split {l : List Dn} (hs : upD l) (c : Int) : ∃ A B, l = A ++ B ∧ atD l c = A.length ∧ (∀ x ∈ A, x.client < c) ∧
    ((hitD l c = true ∧ ∃ y B', B = y :: B' ∧ y.client = c ∧ ∀ x ∈ B', c < x.client) ∨ (hitD l c = false ∧ ∀ x ∈ B, c < x.client)) := by
  obtain ⟨A, B, h1, h2, h3, h4, h5⟩ := bs_split hs (fun x => decide (cmpI x.client c < 0)) (fun x => decide (x.client = c)) (fun x y h hy => by
      rw [decide_eq_true_eq, cmpI_lt] at *; omega) (fun x y h hx => by
      rw [decide_eq_false_iff_not, cmpI_lt] at hx; rw [decide_eq_false_iff_not]; omega)
  have h2 : atD l c = A.length := h2
  refine ⟨A, B, h1, h2, fun x hx => by have := h3 x hx; rwa [decide_eq_true_eq, cmpI_lt] at this, ?_⟩
  have hB : ∀ x ∈ B, c ≤ x.client := fun x hx => by have := h4 x hx; rw [decide_eq_false_iff_not, cmpI_lt] at this; omega
  cases B with
  | nil =>
    right
    refine ⟨?_, fun x hx => by cases hx⟩
    rw [hitD, h2, h1]; simp
  | cons y B' =>
    have hy : l.getD A.length default = y := by rw [h1, gd_app0]
    have hlen : A.length < l.length := by rw [h1]; simp
    have hT : ∀ x ∈ B', x.client ≠ c := fun x hx => by have := h5 x hx; rwa [decide_eq_false_iff_not] at this
    have hhit : hitD l c = decide (y.client = c) := by rw [hitD, h2, hy, cmpI_eq, decide_eq_true hlen, Bool.true_and]
    by_cases e : y.client = c
    · left
      exact ⟨by rw [hhit, decide_eq_true e], y, B', rfl, e, fun x hx => by have := hB x (List.mem_cons_of_mem _ hx); have := hT x hx; omega⟩
    · right
      refine ⟨by rw [hhit, decide_eq_false e], fun x hx => ?_⟩
      rcases List.mem_cons.1 hx with rfl | hx
      · have := hB x (List.mem_cons_self ..); omega
      · have := hB x (List.mem_cons_of_mem _ hx); have := hT x hx; omega
def sel (f : Nat → Bool) (l : List Dn) (i j : Nat) : List Dn := ((List.range' i (j - i)).filter f).map fun k => l.getD k default
theorem sel_succ (f : Nat → Bool) (l : List Dn) {i k : Nat} (h : i ≤ k) : sel f l i (k + 1) = sel f l i k ++ if f k = true then [l.getD k default] else [] := by
  unfold sel
  rw [show k + 1 - i = (k - i) + 1 by omega, List.range'_1_concat, List.filter_append, List.map_append, show i + (k - i) = k by omega]
  congr 1
  by_cases hf : f k = true <;> simp [hf]
theorem sel_nil (f : Nat → Bool) (l : List Dn) (i : Nat) : sel f l i i = [] := by simp [sel]
theorem sel_split (f : Nat → Bool) (l : List Dn) {i m j : Nat} (h1 : i ≤ m) (h2 : m ≤ j) : sel f l i j = sel f l i m ++ sel f l m j := by
  obtain ⟨d, rfl⟩ : ∃ d, j = m + d := ⟨j - m, by omega⟩
  clear h2
  induction d with
  | zero => rw [Nat.add_zero, sel_nil, List.append_nil]
  | succ d ih => rw [← Nat.add_assoc, sel_succ f l (by omega), sel_succ f l (by omega), ih, List.append_assoc]
theorem sel_all {f : Nat → Bool} {l : List Dn} {i j : Nat} (hj : j ≤ l.length) (h : ∀ k, i ≤ k → k < j → f k = true) : sel f l i j = (l.take j).drop i := by
  unfold sel
  rw [List.filter_eq_self.2 (fun k hk => by
    rw [List.mem_range'_1] at hk
    exact h k hk.1 (by omega))]
  refine List.ext_getElem (by simp; omega) fun k h1 h2 => ?_
  simp at h1
  rw [List.getElem_map, List.getElem_range', List.getElem_drop, List.getElem_take, gd_get (by omega)]
  simp
theorem sel_skip {f : Nat → Bool} {l : List Dn} {i m j : Nat} (hj : j ≤ l.length) (him : i ≤ m) (hmj : m < j) (h : ∀ k, i ≤ k → k < j → f k = decide (k ≠ m)) : sel f l i j = (l.take m).drop i ++ (l.take j).drop (m + 1) := by
  rw [sel_split f l him (by omega), sel_split f l (Nat.le_succ m) hmj, sel_all (by omega) (fun k h1 h2 => by rw [h k h1 (by omega)]; simp; omega), sel_all hj (fun k h1 h2 => by rw [h k (by omega) h2]; simp; omega), sel_succ f l (Nat.le_refl m), sel_nil, h m him hmj]
  simp
def ntC (l : List Dn) (d : Dn) (had : Bool) (least : Int) (i : Nat) : Bool := (l.getD i default).client != d.client && (had || decide ((l.length : Int) < 8) || ((i : Int) != least))
def ntQ (l : List Dn) (d : Dn) (p : List Dn × Bool) (i : Nat) : List Dn × Bool := if (!p.2 && decide (d.client ≤ (l.getD i default).client)) = true then (p.1 ++ [d], true) else p
theorem ntA_succ (l : List Dn) (d : Dn) (had : Bool) (least : Int) (i : Nat) : ntA l d had least (i + 1) = if ntC l d had least i = true then ((ntQ l d (ntA l d had least i) i).1 ++ [l.getD i default], (ntQ l d (ntA l d had least i) i).2) else ntQ l d (ntA l d had least i) i := rfl
theorem ntA_eq {A B : List Dn} {d : Dn} (hA : ∀ x ∈ A, x.client < d.client) (hB : ∀ x ∈ B, d.client ≤ x.client) (had : Bool) (least : Int) : ∀ k, k ≤ (A ++ B).length →
    ntA (A ++ B) d had least k = if k ≤ A.length then (sel (ntC (A ++ B) d had least) (A ++ B) 0 k, false) else (sel (ntC (A ++ B) d had least) (A ++ B) 0 A.length ++ d :: sel (ntC (A ++ B) d had least) (A ++ B) A.length k, true)
  | 0, _ => by simp [ntA, sel_nil]
  | k + 1, hk => by
    have ih := ntA_eq hA hB had least k (by omega)
    rw [ntA_succ, ih]
    unfold ntQ
    generalize ntC (A ++ B) d had least = f
    by_cases h1 : k < A.length
    · have h2 : ¬ d.client ≤ ((A ++ B).getD k default).client := by
        rw [gd_appL _ _ h1, gd_get h1]
        have := hA _ (List.getElem_mem h1)
        omega
      rw [if_pos (show k ≤ A.length by omega), if_pos (show k + 1 ≤ A.length by omega), sel_succ f _ (Nat.zero_le k)]
      simp only [h2, decide_false, Bool.and_false, Bool.false_eq_true, if_false]
      by_cases hfk : f k = true <;> simp [hfk]
    · have hkB : k - A.length < B.length := by rw [List.length_append] at hk; omega
      have h2 : d.client ≤ ((A ++ B).getD k default).client := by
        rw [show k = A.length + (k - A.length) by omega, gd_app, gd_get hkB]
        exact hB _ (List.getElem_mem hkB)
      rw [if_neg (show ¬ k + 1 ≤ A.length by omega), sel_succ f _ (show A.length ≤ k by omega)]
      by_cases h3 : k = A.length
      · rw [if_pos (show k ≤ A.length by omega)]
        simp only [h2, decide_true, Bool.and_true, Bool.not_false, if_true]
        subst h3
        rw [sel_nil]
        by_cases hfk : f A.length = true <;> simp [hfk]
      · rw [if_neg (show ¬ k ≤ A.length by omega)]
        simp only [Bool.not_true, Bool.false_and, Bool.false_eq_true, if_false]
        by_cases hfk : f k = true <;> simp [hfk]
theorem noteS_eq {A B : List Dn} {d : Dn} (hA : ∀ x ∈ A, x.client < d.client) (hB : ∀ x ∈ B, d.client ≤ x.client) :
    noteS (A ++ B) d = sel (ntC (A ++ B) d (hadN (A ++ B) d.client (A ++ B).length) (leN (A ++ B) (A ++ B).length)) (A ++ B) 0 A.length ++ d :: sel (ntC (A ++ B) d (hadN (A ++ B) d.client (A ++ B).length) (leN (A ++ B) (A ++ B).length)) (A ++ B) A.length (A ++ B).length := by
  unfold noteS
  rw [ntA_eq hA hB _ _ _ (Nat.le_refl _)]
  generalize ntC (A ++ B) d _ _ = f
  by_cases h : (A ++ B).length ≤ A.length
  · have e : (A ++ B).length = A.length := by rw [List.length_append] at h ⊢; omega
    rw [if_pos h, e, sel_nil]
    simp
  · rw [if_neg h]
    simp
theorem hadN_iff (l : List Dn) (c : Int) : ∀ k, k ≤ l.length → (hadN l c k = true ↔ ∃ i, i < k ∧ (l.getD i default).client = c)
  | 0, _ => by simp [hadN]
  | k + 1, hk => by
    rw [hadN, Bool.or_eq_true, hadN_iff l c k (by omega), beq_iff_eq]
    constructor
    · rintro (⟨i, h1, h2⟩ | h)
      · exact ⟨i, by omega, h2⟩
      · exact ⟨k, by omega, h⟩
    · rintro ⟨i, h1, h2⟩
      by_cases e : i = k
      · subst e; exact .inr h2
      · exact .inl ⟨i, by omega, h2⟩
theorem leN_nn (l : List Dn) : ∀ k, 0 < k → 0 ≤ leN l k
  | 0, h => absurd h (Nat.lt_irrefl _)
  | k + 1, _ => by
    rw [leN]
    split
    · omega
    · rename_i h
      have : ¬ leN l k < 0 := fun h' => h (.inl h')
      omega
theorem evN_nn {l : List Dn} {c : Int} : ∀ k, (∃ i, i < k ∧ (l.getD i default).client ≠ c) → 0 ≤ evN l c k
  | 0, ⟨i, h, _⟩ => absurd h (Nat.not_lt_zero _)
  | k + 1, ⟨i, h, hc⟩ => by
    rw [evN]
    split
    · omega
    · rename_i hn
      by_cases e : i = k
      · subst e
        have : ¬ evN l c i < 0 := fun h' => hn ⟨hc, .inl h'⟩
        omega
      · exact evN_nn k ⟨i, by omega, hc⟩
theorem ev_le {A B : List Dn} {d : Dn} (hA : ∀ x ∈ A, x.client < d.client) : ∀ k, k ≤ A.length → evN (A ++ d :: B) d.client k = leN (A ++ B) k
  | 0, _ => rfl
  | k + 1, hk => by
    have hk' : k < A.length := hk
    have hl := leN_lt (A ++ B) k
    have hc := hA _ (List.getElem_mem hk')
    rw [evN, leN, ev_le hA k (by omega), gd_appL _ _ hk', gd_appL _ _ hk', gd_get hk']
    have hne : A[k].client ≠ d.client := by omega
    simp only [hne, ne_eq, not_false_eq_true, true_and]
    by_cases h0 : leN (A ++ B) k < 0
    · simp [h0]
    · rw [gd_appL A (d :: B) (show (leN (A ++ B) k).toNat < A.length by omega), gd_appL A B (show (leN (A ++ B) k).toNat < A.length by omega)]
theorem ev_at {A B : List Dn} {d : Dn} (hA : ∀ x ∈ A, x.client < d.client) : evN (A ++ d :: B) d.client (A.length + 1) = leN (A ++ B) A.length := by
  rw [evN, ev_le hA _ (Nat.le_refl _), gd_app0, if_neg (by simp)]
def shI (a : Nat) (m : Int) : Int := if m < (a : Int) then m else m + 1
theorem shI_get (A B : List Dn) (d : Dn) {m : Int} (h : 0 ≤ m) : (A ++ d :: B).getD (shI A.length m).toNat default = (A ++ B).getD m.toNat default := by
  unfold shI
  split
  · rw [gd_appL A (d :: B) (by omega), gd_appL A B (by omega)]
  · rw [show (m + 1).toNat = A.length + (m.toNat - A.length + 1) by omega, gd_app, show m.toNat = A.length + (m.toNat - A.length) by omega, gd_app]
    simp [List.getD_eq_getElem?_getD]
theorem ev_gt {A B : List Dn} {d : Dn} (hA : ∀ x ∈ A, x.client < d.client) (hB : ∀ x ∈ B, d.client < x.client) : ∀ j, j ≤ B.length → evN (A ++ d :: B) d.client (A.length + j + 1) = shI A.length (leN (A ++ B) (A.length + j))
  | 0, _ => by
    simp only [Nat.add_zero]
    rw [ev_at hA, shI, if_pos (leN_lt _ _).2]
  | j + 1, hj => by
    have hj' : j < B.length := hj
    have hc := hB _ (List.getElem_mem hj')
    have hl := leN_lt (A ++ B) (A.length + j)
    have e1 : (A ++ d :: B).getD (A.length + j + 1) default = B[j] := by
      rw [Nat.add_assoc, gd_app, show (d :: B).getD (j + 1) default = B.getD j default by simp [List.getD_eq_getElem?_getD], gd_get hj']
    have e2 : (A ++ B).getD (A.length + j) default = B[j] := by rw [gd_app, gd_get hj']
    rw [show A.length + (j + 1) + 1 = A.length + j + 1 + 1 by omega, evN, ev_gt hA hB j (by omega), e1, show A.length + (j + 1) = A.length + j + 1 by omega, leN, e2]
    have hne : B[j].client ≠ d.client := by omega
    simp only [hne, ne_eq, not_false_eq_true, true_and]
    by_cases h0 : leN (A ++ B) (A.length + j) < 0
    · have : shI A.length (leN (A ++ B) (A.length + j)) < 0 := by unfold shI; split <;> omega
      rw [if_pos (.inl this), if_pos (.inl h0), shI, if_neg (by omega)]
      omega
    · have : ¬ shI A.length (leN (A ++ B) (A.length + j)) < 0 := by unfold shI; split <;> omega
      rw [shI_get A B d (by omega)]
      by_cases h3 : B[j].id < ((A ++ B).getD (leN (A ++ B) (A.length + j)).toNat default).id
      · rw [if_pos (.inr h3), if_pos (.inr h3), shI, if_neg (by omega)]
        omega
      · rw [if_neg (by rintro (h | h) <;> contradiction), if_neg (by rintro (h | h) <;> contradiction)]
theorem note_eq {l : List Dn} (hu : upD l) (h8 : l.length ≤ 8) (d : Dn) : noteS l d = doneS l d := by
  obtain ⟨A, B, h1, h2, h3, h4⟩ := dn_split hu d.client
  subst h1
  unfold doneS insD
  rw [h2]
  rcases h4 with ⟨hh, y, B', rfl, hy, hB⟩ | ⟨hh, hB⟩
  · have hle : ∀ x ∈ y :: B', d.client ≤ x.client := fun x hx => by
      rcases List.mem_cons.1 hx with rfl | hx
      · omega
      · have := hB x hx; omega
    have hhad : hadN (A ++ y :: B') d.client (A ++ y :: B').length = true := (hadN_iff _ _ _ (Nat.le_refl _)).2 ⟨A.length, by simp, by rw [gd_app0]; exact hy⟩
    rw [noteS_eq h3 hle, hhad, if_pos hh, set_mid]
    have hf : ∀ k, ntC (A ++ y :: B') d true (leN (A ++ y :: B') (A ++ y :: B').length) k = (((A ++ y :: B').getD k default).client != d.client) := fun k => by simp [ntC]
    have hlen : (A ++ y :: B').length = A.length + 1 + B'.length := by simp; omega
    rw [sel_all (by omega) (fun k _ hk => by
      rw [hf, gd_appL _ _ hk, gd_get hk]
      have := h3 _ (List.getElem_mem hk)
      simp; omega), sel_split _ _ (Nat.le_succ A.length) (by omega), sel_succ _ _ (Nat.le_refl _), sel_nil, hf, gd_app0, sel_all (Nat.le_refl _) (fun k hk1 hk2 => by
      have hkB : k - (A.length + 1) < B'.length := by omega
      rw [hf, show k = A.length + (k - (A.length + 1) + 1) by omega, gd_app, show (y :: B').getD (k - (A.length + 1) + 1) default = B'.getD (k - (A.length + 1)) default by simp [List.getD_eq_getElem?_getD], gd_get hkB]
      have := hB _ (List.getElem_mem hkB)
      simp; omega), List.take_length]
    simp [hy]
  · have hle : ∀ x ∈ B, d.client ≤ x.client := fun x hx => by have := hB x hx; omega
    have hne : ∀ k, k < (A ++ B).length → ((A ++ B).getD k default).client ≠ d.client := fun k hk => by
      rw [gd_get hk]
      rcases List.mem_append.1 (List.getElem_mem hk) with hx | hx
      · have := h3 _ hx; omega
      · have := hB _ hx; omega
    have hhad : hadN (A ++ B) d.client (A ++ B).length = false := by
      rw [← Bool.not_eq_true, hadN_iff _ _ _ (Nat.le_refl _)]
      rintro ⟨i, h5, h6⟩
      exact hne i h5 h6
    have e1 : (A ++ B).take A.length = A := by simp
    have e2 : (A ++ B).drop A.length = B := by simp
    rw [noteS_eq h3 hle, hhad, if_neg (by rw [hh]; simp), e1, e2]
    have hf : ∀ k, k < (A ++ B).length → ntC (A ++ B) d false (leN (A ++ B) (A ++ B).length) k = (decide (((A ++ B).length : Int) < 8) || ((k : Int) != leN (A ++ B) (A ++ B).length)) := fun k hk => by
      rw [ntC, bne_iff_ne.2 (hne k hk), Bool.true_and, Bool.false_or]
    have hlen : (A ++ B).length = A.length + B.length := by simp
    have hlen2 : (A ++ d :: B).length = A.length + B.length + 1 := by simp; omega
    by_cases h7 : (A ++ B).length < 8
    · rw [if_pos (by omega)]
      have hf1 : ∀ k, k < (A ++ B).length → ntC (A ++ B) d false (leN (A ++ B) (A ++ B).length) k = true := fun k hk => by
        rw [hf k hk, decide_eq_true (by omega), Bool.true_or]
      rw [sel_all (by omega) (fun k _ hk => hf1 k (by omega)), sel_all (Nat.le_refl _) (fun k _ hk => hf1 k hk), List.take_length]
      simp
    · rw [if_neg (by omega)]
      have hl := leN_lt (A ++ B) (A ++ B).length
      have hn := leN_nn (A ++ B) (A ++ B).length (by omega)
      have hev := ev_gt h3 hB B.length (Nat.le_refl _)
      rw [← hlen] at hev
      have hE : evN (A ++ d :: B) d.client (A ++ d :: B).length = shI A.length (leN (A ++ B) (A ++ B).length) := by rw [hlen2, ← hev, hlen]
      rw [hE]
      obtain ⟨m, hm⟩ : ∃ m : Nat, leN (A ++ B) (A ++ B).length = (m : Int) := ⟨(leN (A ++ B) (A ++ B).length).toNat, by omega⟩
      rw [hm] at hf hl ⊢
      have hf2 : ∀ k, k < (A ++ B).length → ntC (A ++ B) d false (m : Int) k = decide (k ≠ m) := fun k hk => by
        rw [hf k hk, decide_eq_false (by omega), Bool.false_or, Bool.eq_iff_iff]
        simp
        omega
      unfold shI
      by_cases hma : m < A.length
      · rw [if_pos (by omega), sel_skip (m := m) (by omega) (Nat.zero_le _) hma (fun k _ hk => hf2 k (by omega)), sel_all (Nat.le_refl _) (fun k hk1 hk2 => by rw [hf2 k hk2]; simp; omega), List.take_length]
        rw [Int.toNat_natCast, List.take_append_of_le_length (show m ≤ A.length by omega), List.take_append_of_le_length (show m ≤ A.length by omega), List.drop_append_of_le_length (show m + 1 ≤ A.length by omega)]
        simp
      · rw [if_neg (by omega), sel_all (by omega) (fun k _ hk => by rw [hf2 k (by omega), decide_eq_true_eq]; omega), sel_skip (m := m) (Nat.le_refl _) (by omega) (by omega) (fun k _ hk => hf2 k hk)]
        rw [show ((m : Int) + 1).toNat = A.length + (m - A.length + 1) by omega, show m + 1 = A.length + (m - A.length + 1) by omega, show A.length + (m - A.length + 1) + 1 = A.length + (m - A.length + 2) by omega]
        have e5 : (A ++ B).take m = A ++ B.take (m - A.length) := by rw [List.take_append, List.take_of_length_le (show A.length ≤ m by omega)]
        rw [e5, List.take_length]
        simp only [List.take_length_add_append, List.drop_length_add_append, List.take_succ_cons, List.drop_succ_cons]
        simp
theorem done_ok {l : List Dn} (hu : upD l) (h8 : l.length ≤ 8) (hd : ∀ x ∈ l, dnOk x) {d : Dn} (hdd : dnOk d) : upD (doneS l d) ∧ (doneS l d).length ≤ 8 ∧ ∀ x ∈ doneS l d, dnOk x ∧ (x = d ∨ x ∈ l) := by
  obtain ⟨A, B, h1, h2, h3, h4⟩ := dn_split hu d.client
  subst h1
  unfold doneS insD
  have e1 : (A ++ B).take A.length = A := by simp
  have e2 : (A ++ B).drop A.length = B := by simp
  have hu' := hu
  unfold upD at hu'
  rw [List.pairwise_append] at hu'
  rw [h2, e1, e2]
  rcases h4 with ⟨hh, y, B', rfl, hy, hB⟩ | ⟨hh, hB⟩
  · rw [if_pos hh, set_mid]
    have hB2 := List.pairwise_cons.1 hu'.2.1
    refine ⟨?_, by simpa using h8, fun x hx => ?_⟩
    · unfold upD
      rw [List.pairwise_append, List.pairwise_cons]
      refine ⟨hu'.1, ⟨hB, hB2.2⟩, fun a ha b hb => ?_⟩
      rcases List.mem_cons.1 hb with rfl | hb
      · exact h3 a ha
      · exact hu'.2.2 a ha b (List.mem_cons_of_mem _ hb)
    · rcases List.mem_append.1 hx with hx | hx
      · have := List.mem_append_left (y :: B') hx
        exact ⟨hd x this, .inr this⟩
      · rcases List.mem_cons.1 hx with rfl | hx
        · exact ⟨hdd, .inl rfl⟩
        · have := List.mem_append_right A (List.mem_cons_of_mem y hx)
          exact ⟨hd x this, .inr this⟩
  · rw [if_neg (by rw [hh]; simp)]
    have hins : upD (A ++ d :: B) := by
      unfold upD
      rw [List.pairwise_append, List.pairwise_cons]
      refine ⟨hu'.1, ⟨hB, hu'.2.1⟩, fun a ha b hb => ?_⟩
      rcases List.mem_cons.1 hb with rfl | hb
      · exact h3 a ha
      · exact hu'.2.2 a ha b hb
    have hmem : ∀ x ∈ A ++ d :: B, dnOk x ∧ (x = d ∨ x ∈ A ++ B) := fun x hx => by
      rcases List.mem_append.1 hx with hx | hx
      · have := List.mem_append_left B hx
        exact ⟨hd x this, .inr this⟩
      · rcases List.mem_cons.1 hx with rfl | hx
        · exact ⟨hdd, .inl rfl⟩
        · have := List.mem_append_right A hx
          exact ⟨hd x this, .inr this⟩
    have hlen2 : (A ++ d :: B).length = (A ++ B).length + 1 := by simp; omega
    by_cases h9 : (A ++ d :: B).length ≤ 8
    · rw [if_pos h9]
      exact ⟨hins, h9, hmem⟩
    · rw [if_neg h9]
      have hlt := evN_lt (A ++ d :: B) d.client (A ++ d :: B).length
      have hnn := evN_nn (l := A ++ d :: B) (c := d.client) (A ++ d :: B).length (by
        by_cases hA0 : A = []
        · subst hA0
          have hB0 : 0 < B.length := by simp at h9; omega
          refine ⟨1, by simp; omega, ?_⟩
          rw [List.nil_append, show (d :: B).getD 1 default = B.getD 0 default by simp [List.getD_eq_getElem?_getD], gd_get hB0]
          have := hB _ (List.getElem_mem hB0)
          omega
        · have hA1 : 0 < A.length := List.length_pos_iff.2 hA0
          refine ⟨0, by omega, ?_⟩
          rw [gd_appL _ _ hA1, gd_get hA1]
          have := h3 _ (List.getElem_mem hA1)
          omega)
      generalize evN (A ++ d :: B) d.client (A ++ d :: B).length = e at hlt hnn
      have hsub : ((A ++ d :: B).take e.toNat ++ (A ++ d :: B).drop (e.toNat + 1)).Sublist (A ++ d :: B) := by
        rw [← List.eraseIdx_eq_take_drop_succ]
        exact List.eraseIdx_sublist ..
      refine ⟨List.Pairwise.sublist hsub hins, ?_, fun x hx => hmem x (hsub.mem hx)⟩
      rw [List.length_append, List.length_take, List.length_drop]
      omega
/-- Somebody else stands among those that were told. -/
theorem other_mem {l : List Dn} (hu : upD l) (d : Dn) (h : 2 ≤ l.length) : ∃ i, i < (insD l d).length ∧ ((insD l d).getD i default).client ≠ d.client := by
  obtain ⟨A, B, h1, h2, h3, h4⟩ := dn_split hu d.client
  subst h1
  have e1 : (A ++ B).take A.length = A := by simp
  have e2 : (A ++ B).drop A.length = B := by simp
  rw [insD, h2, e1, e2]
  cases A with
  | cons x A =>
    refine ⟨0, by simp, ?_⟩
    have := h3 x (List.mem_cons_self ..)
    show x.client ≠ d.client
    omega
  | nil =>
    match B, h, hu with
    | y :: z :: B, _, hu =>
      have hyz : y.client < z.client := (List.pairwise_cons.1 hu).1 z (List.mem_cons_self ..)
      by_cases hy : y.client = d.client
      · refine ⟨2, by simp, ?_⟩
        show z.client ≠ d.client
        omega
      · exact ⟨1, by simp, hy⟩
theorem ev_ok {s : Shf} (h : shP s) (en : Ent) : evOk s en := by
  intro _ _ h8
  rw [insD_len] at h8
  exact evN_nn _ (other_mem h.ud ⟨en.client, en.id, (doOp s en.op).2⟩ (by omega))
theorem zP : shP ⟨[], [], 0⟩ where
  ll := Nat.zero_le _
  dl := Nat.zero_le _
  f0 := Int.le_refl _
  f1 := (by decide : (0 : Int) ≤ 1099511627776)
  ln := fun x hx => by cases hx
  up := List.Pairwise.nil
  dn := fun x hx => by cases hx
  ud := List.Pairwise.nil
theorem Do_eq {s : Shf} (h : shP s) (e : Ent) : rDoS s e = DoS s e ∧ shP (DoS s e).1 := by
  obtain ⟨h1, h2⟩ := doOp_eq h e.op
  unfold rDoS DoS
  rw [(shOk_iff s).2 h, h1]
  simp only [Bool.true_eq_false, false_or]
  by_cases hg : ¬ (0 ≤ e.client ∧ e.client ≤ 2147483647) ∨ ¬ (1 ≤ e.id ∧ e.id ≤ 2147483647)
  · rw [if_pos hg, if_pos hg]
    exact ⟨rfl, zP⟩
  rw [if_neg hg, if_neg hg]
  by_cases hm : metI s.dones e.client e.id < s.dones.length
  · rw [if_pos hm, if_pos hm]
    exact ⟨rfl, h⟩
  rw [if_neg hm, if_neg hm]
  by_cases hc : 0 < e.client
  · rw [if_pos hc, if_pos hc, doOp_dones, note_eq h.ud h.dl]
    refine ⟨rfl, ?_⟩
    obtain ⟨k1, k2, k3⟩ := done_ok h.ud h.dl h.dn (d := ⟨e.client, e.id, (doOp s e.op).2⟩) ⟨by simp only; omega, by simp only; omega, by simp only; omega, by simp only; omega⟩
    exact ⟨h2.ll, k2, h2.f0, h2.f1, h2.ln, h2.up, fun x hx => (k3 x hx).1, k1⟩
  · rw [if_neg hc, if_neg hc]
    exact ⟨rfl, h2⟩
/-- All lines' names are short. -/
def serSz (n : Nat) (s : Shf) : Prop := ∀ x ∈ s.lines, x.ser.size ≤ n
theorem doOp_sz {s : Shf} (h : shP s) {n : Nat} (hs : serSz n s) (o : Opn) (ho : o.ser.size ≤ n) : serSz n (doOp s o).1 := by
  unfold doOp
  split
  · exact hs
  split
  · intro x hx
    have hx : x ∈ (writeS s.lines s.floor o).1 := hx
    unfold writeS at hx
    have hw : ∀ y ∈ wrL s.lines o.ser, y.ser.size ≤ n := by
      intro y hy
      unfold wrL at hy
      split at hy
      · exact hs y hy
      · rcases List.mem_append.1 hy with hy | hy
        · exact hs y (List.mem_of_mem_take hy)
        · rcases List.mem_cons.1 hy with rfl | hy
          · exact ho
          · exact hs y (List.mem_of_mem_drop hy)
    split at hx
    · exact hs x hx
    split at hx
    · exact hs x hx
    · obtain ⟨i, hi, rfl⟩ := List.mem_iff_getElem.1 hx
      rw [List.getElem_set]
      split
      · show ((wrL s.lines o.ser).getD (atL s.lines o.ser) default).ser.size ≤ n
        rename_i e
        rw [List.length_set] at hi
        rw [gd_get (by omega)]
        exact hw _ (List.getElem_mem _)
      · exact hw _ (List.getElem_mem _)
  split
  · intro x hx
    have hx : x ∈ (trimSh s.lines s.floor o.frm).1 := hx
    unfold trimSh at hx
    split at hx
    · exact hs x hx
    · obtain ⟨w, hw, rfl⟩ := List.mem_map.1 (List.mem_filter.1 hx).1
      exact hs w hw
  · exact hs
theorem Do_sz {s : Shf} (h : shP s) {n : Nat} (hs : serSz n s) (e : Ent) (ho : e.op.ser.size ≤ n) : serSz n (DoS s e).1 := by
  have hd := doOp_sz h hs e.op ho
  unfold DoS
  split
  · intro x hx; cases hx
  split
  · exact hs
  split
  · exact hd
  · exact hd
theorem shP_z {s : Shf} (h : shP s) (hs : serSz 2000 s) : zShf s := by
  refine ⟨by have := h.ll; omega, by have := h.dl; omega, fun i hi => ?_, fun i hi => ?_⟩
  · rw [gd_get hi]
    exact hs _ (List.getElem_mem hi)
  · rw [gd_get hi]
    have := smsOk_len (h.ln _ (List.getElem_mem hi)).ok
    omega
end Go.Proofs.YtcmkhlfjcdchmaaGreat.A
end
section
namespace Go.Proofs.YtcmkhlfjcdchmaaGreat.A
open Go Go.Proofs Go.Proofs.YtcmkhlfjcdchmaaGreatAbs
theorem wlen {n b : Nat} (h : n * b ≤ 140737488351232) (hb : 0 < b) : n ≤ 140737488355328 := by
  have := Nat.le_mul_of_pos_right n hb
  omega
/-- What Do tells of a shelf that may be. -/
theorem DoP_rc {s : Shf} (h : shP s) (hs : serSz 2000 s) (e : Ent) (he : e.op.ser.size ≤ 2000) (M : List Blk) : CallR Tryz.prog M n_shelf_Do [shfA s, entA e] (.tup [shfA (rDoS s e).1, ansA (rDoS s e).2.1, .i (rDoS s e).2.2]) M := by
  rw [(Do_eq h e).1]
  exact Do_rc s (shP_z h hs) e he (ev_ok h e) M
theorem zSz (n : Nat) : serSz n ⟨[], [], 0⟩ := fun x hx => by cases hx
theorem take_sz {l : List Ent} (h : ∀ e ∈ l, e.op.ser.size ≤ 2000) (k : Nat) : ∀ e ∈ l.take k, e.op.ser.size ≤ 2000 := fun e he => h e (List.mem_of_mem_take he)
theorem callgS {P : Program} {d : Bool} {dst : Option Nat} {os : List OpL} {K : St → Prop} {M : List Blk} {c : Bool} {f : Nat} {ps ps' : List Pt} {r : SV} {e : Nat → SV} (h : c = true → ∀ M, CallR P M f ps' r M) (hl : SubL ps ps') (hK : ev P d os (put e dst (.g c r)) M K) : CallG P M c f ps d dst os e K := ⟨r, fun hc => (h hc M).sub hl, ev_sound hK⟩
theorem light_z {s : Shf} (h : light14B s = true) : zShf s ∧ serSz 500 s := by
  unfold light14B at h
  rw [Bool.and_eq_true, Bool.and_eq_true, List.all_eq_true] at h
  obtain ⟨⟨h1, h2⟩, h3⟩ := h
  have h1 := of_decide_eq_true h1
  have h2 := of_decide_eq_true h2
  have h4 : ∀ x ∈ s.lines, x.ser.size ≤ 500 ∧ x.smps.length ≤ 70 := fun x hx => by
    have := h3 x hx
    rwa [Bool.and_eq_true, decide_eq_true_eq, decide_eq_true_eq] at this
  refine ⟨⟨by omega, by omega, fun i hi => ?_, fun i hi => ?_⟩, fun x hx => (h4 x hx).1⟩
  · have := (all_mem.2 h4 i hi).1
    omega
  · have := (all_mem.2 h4 i hi).2
    omega
end Go.Proofs.YtcmkhlfjcdchmaaGreat.A
end
section
namespace Go.Proofs.YtcmkhlfjcdchmaaGreat.A
open Go Go.Proofs Go.Proofs.YtcmkhlfjcdchmaaGreatAbs
end Go.Proofs.YtcmkhlfjcdchmaaGreat.A
end
section
namespace Go.Proofs.YtcmkhlfjcdchmaaGreat.A
open Go Go.Proofs Go.Proofs.YtcmkhlfjcdchmaaGreatAbs
end Go.Proofs.YtcmkhlfjcdchmaaGreat.A
end
