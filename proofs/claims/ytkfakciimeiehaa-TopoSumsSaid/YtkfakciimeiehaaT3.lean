/- The walk of topo.weigh: what it comes to, whatever its two functions are. -/
import Derived.Test.YtkfakciimeiehaaT1
import Derived.Test.YtkfakciimeiehaaAbsBs
import Derived.Test.YtkfakciimeiehaaAbsIns
set_option linter.unusedVariables false
set_option linter.unusedSimpArgs false
namespace Go.Proofs.Ytkfakciimeiehaa.A
open Go Go.Proofs.YtkfakciimeiehaaAbs
abbrev Ch := Int × Int
@[go_sem] def chC (x : Ch) : Nat → CV
  | 0 => .v (.int .i64 x.1)
  | _ => .v (.int .i64 x.2)
@[go_sem] def chRow (x : Ch) : List AV := [.c (.v (.int .i64 x.1)), .c (.v (.int .i64 x.2))]
abbrev chL (l : List Ch) : Pt := .one (.c (.imm 2 l.length fun i j => chC (l.getD i (0, 0)) j))
abbrev ndA (x : Nd) : Pt := .agg [.c (.v (.int .i64 x.id)), .c (.v (.int .i64 x.zone)), .c (.v (.int .i64 x.rack)), .c (.v (.int .i64 x.weight)), .c (.v (.bool x.up)), .c (.v (.bool x.inn))]
def cmpI (a b : Int) : Int := if a < b then -1 else if b < a then 1 else 0
theorem weigh_1_rc (a b k : Int) (M : List Blk) : CallR Try.prog M n_topo_weigh_1 [.agg [.c (.v (.int .i64 a)), .c (.v (.int .i64 b))], .i k] (.i (cmpI a k)) M := by
  refine callP F_topo_weigh_1 (Nat.le_of_ble_eq_true rfl) (by simp only [go_sem]) (by simp only [go_sem]) ?_ M
  simp only [c_topo_weigh_1, go_sem]
  refine call0 (Compare_rc _ _) ?_
  simp only [go_sem]
  rfl
theorem Find_1_rc (x : Nd) (k : Int) (M : List Blk) : CallR Try.prog M n_topo_Find_1 [ndA x, .i k] (.i (cmpI x.id k)) M := by
  refine callP F_topo_Find_1 (Nat.le_of_ble_eq_true rfl) (by simp only [go_sem]) (by simp only [go_sem]) ?_ M
  simp only [c_topo_Find_1, go_sem]
  refine call0 (Compare_rc _ _) ?_
  simp only [go_sem]
  rfl
/-- Where a number stands, or would stand, among choices. -/
def chAt (out : List Ch) (k : Int) : Nat := bsF (fun i => decide (cmpI (out.getD i (0, 0)).1 k < 0)) 0 out.length
def chIn (out : List Ch) (k : Int) : Bool := decide (chAt out k < out.length) && (cmpI (out.getD (chAt out k) (0, 0)).1 k == 0)
theorem chFind_rc (out : List Ch) (hn : out.length < 4611686018427387904) (k : Int) {M : List Blk} {ver : Nat} {f : Bool} (hM : M[0]? = some (.rows 76 2 ver (out.map chRow) f)) :
    CallR Try.prog M n_slices_BinarySearchFunc_api_Choice_api_Choice_int [.one (.arr 2 0 ver 0 out.length), .i k, .one (.fn n_topo_weigh_1 0 fun _ => default)] (.tup [.i (chAt out k : Nat), .b (chIn out k)]) M := by
  refine callR_lend (ps' := [chL out, .i k, .one (.fn n_topo_weigh_1 0 fun _ => default)]) ?_ ?_ (by simp only [go_sem])
  · exact bs_rc (sz := 2) F_slices_BinarySearchFunc_api_Choice_api_Choice_int out.length hn _ (.i k) n_topo_weigh_1 0 _ (fun i => cmpI (out.getD i (0, 0)).1 k) trivial (fun i hi => by omega) (fun i hi M => weigh_1_rc _ _ _ _) []
  · refine ⟨Snap.arr 2 0 ver 0 out.length 76 (out.map chRow) f _ hM (by simp) (fun i hi j hj => ?_), Snap.same _ trivial, Snap.same _ (fun i hi => by omega), trivial⟩
    have : (out.map chRow).getD (0 + i) [] = chRow (out.getD i (0, 0)) := by
      rw [Nat.zero_add, List.getD_eq_getElem?_getD, List.getElem?_map, List.getElem?_eq_getElem hi, List.getD_eq_getElem?_getD, List.getElem?_eq_getElem hi]
      rfl
    rw [this]
    match j, hj with
    | 0, _ => exact Snap.same _ trivial
    | 1, _ => exact Snap.same _ trivial
def wPut (out : List Ch) (k : Int) : List Ch := if chIn out k then out else out.take (chAt out k) ++ (k, 0) :: out.drop (chAt out k)
def wAdd (out : List Ch) (i : Nat) (w : Int) : List Ch := out.set i ((out.getD i (0, 0)).1, min 65536 ((out.getD i (0, 0)).2 + w))
def wStep (is : Nd → Bool) (of : Nd → Int) (out : List Ch) (n : Nd) : List Ch :=
  if is n then (if n.inn then wAdd (wPut out (of n)) (chAt out (of n)) n.weight else wPut out (of n)) else out
def wUp (is : Nd → Bool) (of : Nd → Int) (l : List Nd) : List Ch := l.foldl (wStep is of) []
def weighS (is : Nd → Bool) (of : Nd → Int) (l : List Nd) : List Ch := if okL l then wUp is of l else []
theorem chAt_le (out : List Ch) (k : Int) : chAt out k ≤ out.length := (bsF_le _ 0 _ (Nat.le_refl _) (Nat.zero_le _)).2
theorem wPut_len (out : List Ch) (k : Int) : (wPut out k).length = if chIn out k then out.length else out.length + 1 := by
  unfold wPut
  split
  · rfl
  · have := chAt_le out k
    simp only [List.length_append, List.length_take, List.length_cons, List.length_drop]
    omega
theorem ovl_ch : Ovl Try.prog 90 2 := ⟨⟨_, 73, 4, 76, Try.func90, by kernel_rfl, by kernel_rfl, by kernel_rfl, by kernel_rfl, by kernel_rfl, by kernel_rfl⟩⟩
theorem ltA_up {n : Nat} : ∀ {a : AV}, ltA 0 a → ltA n a := by
  intro a
  induction a with
  | c x => exact fun h => h
  | ptr b v i j => intro h; exact absurd h (Nat.not_lt_zero _)
  | arr sz b v i j => intro h; exact absurd h (Nat.not_lt_zero _)
  | ip m c => exact fun h => h
  | fn f k caps ih => exact fun h i hi => ih i (h i hi)
theorem lt_chRow {n : Nat} (out : List Ch) : ∀ r ∈ out.map chRow, ∀ a ∈ r, ltA n a := by
  intro r hr a ha
  obtain ⟨x, _, rfl⟩ := List.mem_map.1 hr
  simp only [chRow, List.mem_cons, List.not_mem_nil, or_false] at ha
  rcases ha with rfl | rfl <;> exact trivial
theorem chGet {out : List Ch} {i : Nat} (h : i < out.length) : (out.map chRow).getD i [] = [.c (.v (.int .i64 (out.getD i (0, 0)).1)), .c (.v (.int .i64 (out.getD i (0, 0)).2))] := by
  rw [List.getD_eq_getElem?_getD, List.getElem?_map, List.getElem?_eq_getElem h, List.getD_eq_getElem?_getD, List.getElem?_eq_getElem h]
  rfl
theorem chSet {out : List Ch} {i : Nat} (x : Ch) : (out.map chRow).set i [.c (.v (.int .i64 x.1)), .c (.v (.int .i64 x.2))] = (out.set i x).map chRow := by
  rw [List.map_set]
  rfl
theorem chIns_rc (out : List Ch) (hn : out.length ≤ 1000) (k : Int) (hin : chIn out k = false) {ver : Nat} {f fb : Bool} {row : List AV} (hr : ∀ a ∈ row, ltA 0 a) :
    CallR Try.prog [.rows 76 2 ver (out.map chRow) f, .rows 67 6 0 [row] fb, .rows 76 2 0 [[.c (.v (.int .i64 k)), .c (.v (.int .i64 0))]] true] n_slices_Insert_api_Choice_api_Choice [.one (.arr 2 0 ver 0 out.length), .i (chAt out k : Nat), .one (.arr 2 2 0 0 1)]
      (.p (.one (.arr 2 0 (ver + 1) 0 (wPut out k).length))) [.rows 76 2 (ver + 1) ((wPut out k).map chRow) false, .rows 67 6 0 [row] fb, .rows 76 2 0 [[.c (.v (.int .i64 k)), .c (.v (.int .i64 0))]] true] := by
  have hat := chAt_le out k
  have h := ins_rc (b := 0) (c := 2) (i := chAt out k) (row := [.c (.v (.int .i64 k)), .c (.v (.int .i64 0))]) (l := out.map chRow) (M := [.rows 76 2 ver (out.map chRow) f, .rows 67 6 0 [row] fb, .rows 76 2 0 [[.c (.v (.int .i64 k)), .c (.v (.int .i64 0))]] true])
    (F_slices_Insert_api_Choice_api_Choice : Fun Try.prog _ 95 (insC 76 2 16 [.int .i64 0, .int .i64 0] 90 91) _) ovl_ch (by omega) (by omega) rfl rfl (by simpa using hat) (by rw [List.length_map]; omega) (by rw [List.length_map]; omega) (by
      intro b hb
      simp only [List.mem_cons, List.not_mem_nil, or_false] at hb
      rcases hb with rfl | rfl | rfl
      · exact lt_chRow _
      · intro r hr' a ha
        simp only [List.mem_cons, List.not_mem_nil, or_false] at hr'
        subst hr'
        exact ltA_up (hr a ha)
      · intro r hr' a ha
        simp only [List.mem_cons, List.not_mem_nil, or_false] at hr'
        subst hr'
        simp only [List.mem_cons, List.not_mem_nil, or_false] at ha
        rcases ha with rfl | rfl <;> exact trivial)
  have e1 : wPut out k = out.take (chAt out k) ++ (k, 0) :: out.drop (chAt out k) := by rw [wPut, hin]; rfl
  have e2 : (wPut out k).length = out.length + 1 := by rw [wPut_len, hin]; rfl
  rw [e2]
  rw [e1, List.map_append, List.map_take, List.map_cons, List.map_drop]
  rw [List.length_map] at h
  exact h
def bdC (out : List Ch) : Prop := ∀ c ∈ out, 0 ≤ c.2 ∧ c.2 ≤ 65536
theorem bd_put {out : List Ch} (h : bdC out) (k : Int) : bdC (wPut out k) := by
  unfold wPut
  split
  · exact h
  · intro c hc
    rcases List.mem_append.1 hc with hc | hc
    · exact h c (List.mem_of_mem_take hc)
    · rcases List.mem_cons.1 hc with rfl | hc
      · exact ⟨by simp, by simp⟩
      · exact h c (List.mem_of_mem_drop hc)
theorem bd_get {out : List Ch} (h : bdC out) (i : Nat) : 0 ≤ (out.getD i (0, 0)).2 ∧ (out.getD i (0, 0)).2 ≤ 65536 := by
  rw [List.getD_eq_getElem?_getD]
  cases hg : out[i]? with
  | none => simp
  | some c => exact h c (List.mem_of_getElem? hg)
theorem bd_add {out : List Ch} (h : bdC out) (i : Nat) {w : Int} (hw : 0 ≤ w) : bdC (wAdd out i w) := by
  intro c hc
  rcases List.mem_or_eq_of_mem_set hc with hc | rfl
  · exact h c hc
  · have := bd_get h i
    simp only []
    omega
theorem bd_step {is : Nd → Bool} {of : Nd → Int} {out : List Ch} (h : bdC out) {x : Nd} (hw : 0 ≤ x.weight) : bdC (wStep is of out x) := by
  unfold wStep
  split
  · split
    · exact bd_add (bd_put h _) _ hw
    · exact bd_put h _
  · exact h
theorem len_step {is : Nd → Bool} {of : Nd → Int} {out : List Ch} {x : Nd} : (wStep is of out x).length ≤ out.length + 1 := by
  have := wPut_len out (of x)
  unfold wStep wAdd
  split
  · split
    · rw [List.length_set, this]; split <;> omega
    · rw [this]; split <;> omega
  · omega
theorem weigh_rc (l : List Nd) (is : Nd → Bool) (of : Nd → Int) (fi ki fo ko : Nat) (ci co : Nat → AV) (hci : ∀ i, i < ki → ltA 0 (ci i)) (hco : ∀ i, i < ko → ltA 0 (co i))
    (hi : ∀ x M, CallR Try.prog M fi (ndA x :: capsL ci 0 ki) (.b (is x)) M) (ho : ∀ x M, CallR Try.prog M fo (ndA x :: capsL co 0 ko) (.i (of x)) M) (M : List Blk) :
    CallR Try.prog M n_topo_weigh [ndL l, .one (.fn fi ki ci), .one (.fn fo ko co)] (.p (chL (weighS is of l))) M := by
  refine callR_pure (callR_intro F_topo_weigh (Nat.le_of_ble_eq_true rfl) (V_sound ?_)) (by simp only [go_sem]; exact ⟨hci, hco⟩) M
  simp only [c_topo_weigh, go_sem]
  refine call0 (Check_rc _) ?_
  simp only [go_sem]
  by_cases hok : okL l = true
  case neg =>
    simp only [hok, Bool.false_eq_true, if_false, go_sem]
    refine ⟨fun _ => fin_own (.inr rfl) (Gh.refl _) [] (qs := [.one (.c (.v (.slice none 0 0)))]) (cnd := True) (by simp only [go_sem]) trivial (by simp only [go_sem]) (by simp only [go_sem, weighS, hok, if_false, Bool.false_eq_true]) (by simp) (by simp only [go_sem]) (by simp), fun h => by simp at h⟩
  simp only [hok, if_true, go_sem]
  refine fun _ => ?_
  have hl12 : l.length ≤ 12 := by simp [okL] at hok; exact hok.1
  refine run_gh (gh_born 7 76 2 (by simp only [go_sem])) ?_
  refine V_loop (ι := Nat × Nat × Bool) (J := fun p => p.1 ≤ l.length ∧ (wUp is of (l.take p.1)).length ≤ p.1 ∧ bdC (wUp is of (l.take p.1)))
    (env := fun p => [(0, .p (ndL l)), (1, .p (.one (.fn fi ki ci))), (2, .p (.one (.fn fo ko co))), (7, .p (.one (.arr 2 0 p.2.1 0 (wUp is of (l.take p.1)).length))), (15, .p (ndL l)), (16, .i l.length), (17, .i p.1)])
    (mem := fun p => [.rows 76 2 p.2.1 ((wUp is of (l.take p.1)).map chRow) p.2.2]) (μ := fun p => l.length - p.1) (0, 0, true) ⟨Nat.zero_le _, Nat.le_refl _, fun c hc => by simp [wUp] at hc⟩ ?_ ?_
  · refine ⟨[], by simp only [go_sem]; rfl, Nat.zero_le _, ?_, ?_⟩
    · simp only [go_sem, wUp, List.foldl_nil]
      exact ⟨fun i h => ltA_up (hci i h), fun i h => ltA_up (hco i h)⟩
    · simp only [go_sem, ltB, wUp, List.foldl_nil]
  rintro ⟨k, ver, f⟩ ⟨hk, hlen, hbd⟩
  simp only [go_sem] at hk hlen hbd ⊢
  generalize hout : wUp is of (List.take k l) = out at hlen hbd ⊢
  refine ⟨fun h1 => ⟨by omega, ?_⟩, fun h1 => ?_⟩
  · generalize hx : l.getD k default = x
    have hstep : wUp is of (List.take (k + 1) l) = wStep is of out x := by
      rw [List.take_add_one, List.getElem?_eq_getElem (by omega), wUp, Option.toList_some, List.foldl_append, ← hout, ← hx]
      simp [List.getD_eq_getElem?_getD, List.getElem?_eq_getElem (show k < l.length by omega), wUp]
    have hxw : 0 ≤ x.weight ∧ x.weight ≤ 65536 := by
      simp only [okL, Bool.and_eq_true, List.all_eq_true, List.mem_range] at hok
      have := hok.2 k (by omega)
      unfold okN at this
      rw [hx] at this
      simp at this
      omega
    have hls := len_step (is := is) (of := of) (out := out) (x := x)
    have hbs := bd_step (is := is) (of := of) hbd hxw.1
    refine call0 (hi x) ?_
    simp only [go_sem]
    refine ⟨fun hc => ⟨(k + 1, ver, f), ⟨by simp only []; omega, ?_, by rw [hstep]; exact hbs⟩, by simp only []; omega, [_], by simp only [go_sem, hstep, wStep, (by simpa using hc : is x = false), Bool.false_eq_true, if_false]; rfl, Nat.zero_le _, ?_, ?_⟩, fun hc => ?_⟩
    · simp only [hstep, wStep, (by simpa using hc : is x = false), Bool.false_eq_true, if_false]; omega
    · simp only [go_sem, hstep, wStep, (by simpa using hc : is x = false), Bool.false_eq_true, if_false, w64s (show k < 9223372036854775807 by omega)]
      exact ⟨fun i h => ltA_up (hci i h), fun i h => ltA_up (hco i h)⟩
    · simp only [go_sem, ltB]
      exact lt_chRow _
    have hix : is x = true := by simpa using hc
    refine call0 (ho x) ?_
    simp only [go_sem]
    have hat := chAt_le out (of x)
    refine call1 (chFind_rc out (by omega) (of x) rfl) (by simp only [go_sem]) (fun _ => rfl) ?_
    simp only [go_sem]
    refine ⟨fun hin => ?_, fun hin => ?_⟩
    · have hin : chIn out (of x) = false := by simpa using hin
      refine call0 (ho x) ?_
      simp only [go_sem]
      refine call1 (chIns_rc out (by omega) (of x) hin (by simp only [go_sem])) (by simp only [go_sem]) (fun h => by cases h) ?_
      have hpl : (wPut out (of x)).length = out.length + 1 := by rw [wPut_len, hin]; rfl
      have hget := chGet (out := wPut out (of x)) (i := chAt out (of x)) (by omega)
      have hstep' : wStep is of out x = if x.inn then wAdd (wPut out (of x)) (chAt out (of x)) x.weight else wPut out (of x) := by rw [wStep, if_pos hix]
      have hbo := bd_get (bd_put hbd (of x)) (chAt out (of x))
      generalize wPut out (of x) = out' at hpl hget hstep' hbo ⊢
      generalize chAt out (of x) = i at hat hget hstep' hbo ⊢
      simp only [go_sem, hget, List.length_map]
      have hmin : (if IntKind.i64.wrap ((out'.getD i (0, 0)).2 + x.weight) < 65536 then IntKind.i64.wrap ((out'.getD i (0, 0)).2 + x.weight) else 65536) = min 65536 ((out'.getD i (0, 0)).2 + x.weight) := by
        rw [w64 (by omega) (by omega)]
        split <;> omega
      rw [hmin]
      refine ⟨fun hn => ⟨by omega, by omega, by omega, by omega, by omega, by omega, (k + 1, ver + 1, false), ⟨by simp only []; omega, by rw [hstep]; simp only []; omega, by rw [hstep]; exact hbs⟩, by simp only []; omega, [_, _], by simp only [go_sem, hstep, hstep', hn, if_true, wAdd, ← chSet]; exact ⟨rfl, rfl⟩, Nat.zero_le _, ?_, ?_⟩, fun hn => ⟨(k + 1, ver + 1, false), ⟨by simp only []; omega, by rw [hstep]; simp only []; omega, by rw [hstep]; exact hbs⟩, by simp only []; omega, [_, _], by simp only [go_sem, hstep, hstep', hn, if_false, Bool.false_eq_true]; exact ⟨rfl, rfl⟩, Nat.zero_le _, ?_, ?_⟩⟩
      · simp only [go_sem, hstep, hstep', hn, if_true, wAdd, List.length_set, w64s (show k < 9223372036854775807 by omega), hpl]
        exact ⟨fun i h => ltA_up (hci i h), fun i h => ltA_up (hco i h)⟩
      · simp only [go_sem, ltB]
        exact lt_chRow _
      · simp only [go_sem, hstep, hstep', hn, if_false, Bool.false_eq_true, w64s (show k < 9223372036854775807 by omega), hpl]
        exact ⟨fun i h => ltA_up (hci i h), fun i h => ltA_up (hco i h)⟩
      · simp only [go_sem, ltB]
        exact lt_chRow _
    · have hin : chIn out (of x) = true := by simpa using hin
      have hpl : wPut out (of x) = out := by rw [wPut, hin]; rfl
      have hlt : chAt out (of x) < out.length := by simp [chIn] at hin; exact hin.1
      have hget := chGet (out := out) (i := chAt out (of x)) hlt
      have hstep' : wStep is of out x = if x.inn then wAdd out (chAt out (of x)) x.weight else out := by rw [wStep, if_pos hix, hpl]
      have hbo := bd_get hbd (chAt out (of x))
      generalize chAt out (of x) = i at hat hget hstep' hbo hlt ⊢
      simp only [go_sem, hget, List.length_map]
      have hmin : (if IntKind.i64.wrap ((out.getD i (0, 0)).2 + x.weight) < 65536 then IntKind.i64.wrap ((out.getD i (0, 0)).2 + x.weight) else 65536) = min 65536 ((out.getD i (0, 0)).2 + x.weight) := by
        rw [w64 (by omega) (by omega)]
        split <;> omega
      rw [hmin]
      refine ⟨fun hn => ⟨by omega, by omega, by omega, by omega, by omega, by omega, (k + 1, ver, f), ⟨by simp only []; omega, by rw [hstep]; simp only []; omega, by rw [hstep]; exact hbs⟩, by simp only []; omega, [_], by simp only [go_sem, hstep, hstep', hn, if_true, wAdd, ← chSet]; rfl, Nat.zero_le _, ?_, ?_⟩, fun hn => ⟨(k + 1, ver, f), ⟨by simp only []; omega, by rw [hstep]; simp only []; omega, by rw [hstep]; exact hbs⟩, by simp only []; omega, [_], by simp only [go_sem, hstep, hstep', hn, if_false, Bool.false_eq_true]; rfl, Nat.zero_le _, ?_, ?_⟩⟩
      · simp only [go_sem, hstep, hstep', hn, if_true, wAdd, List.length_set, w64s (show k < 9223372036854775807 by omega)]
        exact ⟨fun i h => ltA_up (hci i h), fun i h => ltA_up (hco i h)⟩
      · simp only [go_sem, ltB]
        exact lt_chRow _
      · simp only [go_sem, hstep, hstep', hn, if_false, Bool.false_eq_true, w64s (show k < 9223372036854775807 by omega)]
        exact ⟨fun i h => ltA_up (hci i h), fun i h => ltA_up (hco i h)⟩
      · simp only [go_sem, ltB]
        exact lt_chRow _
  · have hkl : k = l.length := by omega
    have hw : weighS is of l = out := by rw [weighS, if_pos hok, ← hout, hkl, List.take_length]
    have hcl : closedRows (out.map chRow) := by
      intro r hr a ha
      obtain ⟨x, _, rfl⟩ := List.mem_map.1 hr
      simp only [chRow, List.mem_cons, List.not_mem_nil, or_false] at ha
      rcases ha with rfl | rfl <;> exact ⟨_, rfl⟩
    refine fin_own (.inr rfl) (gh_freeze (b := 0) rfl hcl) [.dead] (qs := [.one (.c (.imm 2 out.length fun i j => toC (((out.map chRow).getD (0 + i) []).getD j default)))]) (cnd := True) ?_ trivial rfl ?_ (by simp) (by simp only [go_sem]) (by simp)
    · simp only [go_sem, frzS, frzP, frzA, List.length_map]
    · rw [hw]
      simp only [go_sem]
      refine .inr fun i hi j hj => ?_
      rw [chGet hi]
      match j, hj with
      | 0, _ => rfl
      | 1, _ => rfl
end Go.Proofs.Ytkfakciimeiehaa.A
