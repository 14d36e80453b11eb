/- The document's With: the walk. -/
import Derived.Test.YtioefecijidgkaaLbR
import Derived.Test.YtioefecijidgkaaLbJ
set_option linter.unusedVariables false
set_option linter.unusedSimpArgs false
namespace Go.Proofs.Ytioefecijidgkaa.A
open Go Go.Proofs Go.Proofs.YtioefecijidgkaaAbs
/-- One step of the document's pass: what is told so far, whether the value is put. -/
def wStep (name value : ByteArray) (p : List Lb × Bool) (x : Lb) : List Lb × Bool :=
  let q := if !p.2 && !sLt x.name name then (p.1 ++ [⟨name, value⟩], true) else p
  (if x.name = name then q.1 else q.1 ++ [x], q.2)
def wAll (name value : ByteArray) (l : List Lb) : List Lb × Bool := l.foldl (wStep name value) ([], decide (value = mkS []))
def refW (s : Ser) (name value : ByteArray) : Ser := ⟨s.name, if (wAll name value s.labels).2 then (wAll name value s.labels).1 else (wAll name value s.labels).1 ++ [⟨name, value⟩]⟩
theorem wAll_len (name value : ByteArray) (l : List Lb) : ∀ p : List Lb × Bool, (l.foldl (wStep name value) p).1.length ≤ p.1.length + 2 * l.length := by
  induction l with
  | nil => intro p; simp
  | cons x l ih =>
    intro p
    rw [List.foldl_cons]
    refine Nat.le_trans (ih _) ?_
    have : (wStep name value p x).1.length ≤ p.1.length + 2 := by
      unfold wStep
      simp only
      split <;> split <;> simp
    simp only [List.length_cons]
    omega
theorem wAll_take (name value : ByteArray) (l : List Lb) {k : Nat} (hk : k < l.length) : wAll name value (l.take (k + 1)) = wStep name value (wAll name value (l.take k)) (l.getD k default) := by
  unfold wAll
  rw [take_succ_getD default hk, List.foldl_append]
  rfl
theorem lb_closed (l : List Lb) : closedRows (lbRows l) := by
  intro r hr a ha
  obtain ⟨y, _, rfl⟩ := List.mem_map.1 hr
  rcases List.mem_cons.1 ha with rfl | ha
  · exact ⟨_, rfl⟩
  · obtain rfl := List.mem_singleton.1 ha; exact ⟨_, rfl⟩
set_option maxRecDepth 20000 in
theorem rWith_rc (s : Ser) (hs : s.labels.length ≤ 30) (name value : ByteArray) (M : List Blk) : CallR Try.prog M n_windroseref03_With [serA s, .s name, .s value] (.p (serA (refW s name value))) M := by
  refine callPS F_windroseref03_With (Nat.le_of_ble_eq_true rfl) (by simp only [go_sem]) (by simp only [go_sem]) ?_ M
  refine run_seqV ?_
  simp only [go_sem]
  refine run_seqV ?_
  simp only [go_sem]
  refine run_seqV ?_
  simp only [go_sem]
  refine run_seqV ?_
  simp only [go_sem]
  refine R_loop (ι := Nat × Nat × Bool) (J := fun p => p.1 ≤ s.labels.length)
    (env := fun p => [(1, .s name), (2, .s value), (3, .p (.one (.ptr 0 0 0 0))), (6, .p (.one (.ptr 1 0 0 0))), (7, .p (.one (.arr 2 2 p.2.1 0 (wAll name value (s.labels.take p.1)).1.length))), (8, .b (wAll name value (s.labels.take p.1)).2), (9, .i p.1)])
    (mem := fun p => [.rows 24 2 0 [[.c (.v (.string s.name)), .c (lbCV s.labels)]] true, .rows 24 2 0 [[.c (.v (.string ⟨#[]⟩)), .c (.v (.slice none 0 0))]] true, .rows 83 2 p.2.1 (lbRows (wAll name value (s.labels.take p.1)).1) p.2.2])
    (μ := fun p => s.labels.length - p.1) (0, 0, true) (Nat.zero_le _) ⟨[], ?_, Nat.zero_le _, ?_, ?_⟩ ?_
  · simp only [go_sem, List.take_zero, wAll, List.foldl_nil, lbRows, List.map_nil]
  · simp only [go_sem, List.take_zero, wAll, List.foldl_nil, List.length_nil]
  · simp only [go_sem, ltB]
    exact fun r hr => (lt_lbRows _ _ r hr).2
  rintro ⟨k, v, f⟩ hk
  simp only at hk
  refine run_seqV ?_
  simp only [go_sem]
  have hwl : (wAll name value (s.labels.take k)).1.length ≤ 2 * k := by
    have := wAll_len name value (s.labels.take k) ([], decide (value = mkS []))
    rw [List.length_take] at this
    simp only [List.length_nil] at this
    unfold wAll
    omega
  refine ⟨fun h1 => ?_, fun h1 => ?_⟩
  · have hst := wAll_take name value s.labels h1
    generalize hw : wAll name value (s.labels.take k) = W at hst hwl ⊢
    obtain ⟨ws, put⟩ := W
    refine run_seq ?_
    refine run_block ?_
    refine run_seqV ?_
    simp only at hwl
    simp only [go_sem]
    have e3 : IntKind.i64.wrap ((k : Int) + 1) = ((k + 1 : Nat) : Int) := w64s (by omega)
    have hrow : ∀ (a : List Lb) (n v : ByteArray), lbRows a ++ [[AV.c (CV.v (Value.string n)), AV.c (CV.v (Value.string v))]] = lbRows (a ++ [⟨n, v⟩]) := fun a n v => by simp [lbRows, lbRow]
    have hlx : (⟨(s.labels.getD k default).name, (s.labels.getD k default).value⟩ : Lb) = s.labels.getD k default := rfl
    refine ⟨fun _ => by omega, fun hp => ⟨by omega, ?_⟩, fun hp => ?_⟩
    · have hput : put = false ∧ sLt (s.labels.getD k default).name name = false := by simpa using hp
      refine V_sound ?_
      simp only [go_sem, lbRows_len, hrow, List.length_append, List.length_cons, List.length_nil, Nat.zero_add, hlx]
      refine ⟨by omega, fun hn => ⟨by omega, by omega, ?_⟩, fun hn => ?_⟩
      · have hn' : ¬ (s.labels.getD k default).name = name := by simpa using hn
        have hst' : wAll name value (s.labels.take (k + 1)) = (ws ++ [⟨name, value⟩] ++ [s.labels.getD k default], true) := by
          rw [hst, wStep, hput.1, hput.2, if_neg hn']; rfl
        refine V_sound ?_
        simp only [go_sem, e3]
        refine ⟨(k + 1, v + 1 + 1, false), h1, by simp only []; omega, [(Blk.rows 83 2 0 [[AV.c (CV.v (Value.string name)), AV.c (CV.v (Value.string value))]] true), (Blk.rows 83 2 0 [[AV.c (CV.v (Value.string (s.labels.getD k default).name)), AV.c (CV.v (Value.string (s.labels.getD k default).value))]] true)], ?_, Nat.zero_le _, ?_, ?_⟩
        · simp only [hst', List.length_append, List.length_cons, List.length_nil, Nat.zero_add, List.cons_append, List.nil_append]
        · simp only [go_sem, hst', List.length_append, List.length_cons, List.length_nil, Nat.zero_add]
        · simp only [go_sem, ltB]
          exact fun r hr => (lt_lbRows _ _ r hr).2
      · have hn' : (s.labels.getD k default).name = name := by simpa using hn
        have hst' : wAll name value (s.labels.take (k + 1)) = (ws ++ [⟨name, value⟩], true) := by
          rw [hst, wStep, hput.1, hput.2, if_pos hn']; rfl
        refine V_sound ?_
        simp only [go_sem, e3]
        refine ⟨(k + 1, v + 1, false), h1, by simp only []; omega, [(Blk.rows 83 2 0 [[AV.c (CV.v (Value.string name)), AV.c (CV.v (Value.string value))]] true)], ?_, Nat.zero_le _, ?_, ?_⟩
        · simp only [hst', List.length_append, List.length_cons, List.length_nil, Nat.zero_add, List.cons_append, List.nil_append]
        · simp only [go_sem, hst', List.length_append, List.length_cons, List.length_nil, Nat.zero_add]
        · simp only [go_sem, ltB]
          exact fun r hr => (lt_lbRows _ _ r hr).2
    · have hq : (if (!put && !sLt (s.labels.getD k default).name name) = true then ((ws ++ [⟨name, value⟩], true) : List Lb × Bool) else (ws, put)) = (ws, put) := by rw [hp]; rfl
      refine V_sound ?_
      simp only [go_sem, lbRows_len, hrow, List.length_append, List.length_cons, List.length_nil, Nat.zero_add, hlx]
      refine ⟨by omega, fun hn => ⟨by omega, by omega, ?_⟩, fun hn => ?_⟩
      · have hn' : ¬ (s.labels.getD k default).name = name := by simpa using hn
        have hst' : wAll name value (s.labels.take (k + 1)) = (ws ++ [s.labels.getD k default], put) := by
          rw [hst, wStep]
          simp only [hq]
          rw [if_neg hn']
        refine V_sound ?_
        simp only [go_sem, e3]
        refine ⟨(k + 1, v + 1, false), h1, by simp only []; omega, [(Blk.rows 83 2 0 [[AV.c (CV.v (Value.string (s.labels.getD k default).name)), AV.c (CV.v (Value.string (s.labels.getD k default).value))]] true)], ?_, Nat.zero_le _, ?_, ?_⟩
        · simp only [hst', List.length_append, List.length_cons, List.length_nil, Nat.zero_add, List.cons_append, List.nil_append]
        · simp only [go_sem, hst', List.length_append, List.length_cons, List.length_nil, Nat.zero_add]
        · simp only [go_sem, ltB]
          exact fun r hr => (lt_lbRows _ _ r hr).2
      · have hn' : (s.labels.getD k default).name = name := by simpa using hn
        have hst' : wAll name value (s.labels.take (k + 1)) = (ws, put) := by
          rw [hst, wStep]
          simp only [hq]
          rw [if_pos hn']
        refine V_sound ?_
        simp only [go_sem, e3]
        refine ⟨(k + 1, v, f), h1, by simp only []; omega, [], ?_, Nat.zero_le _, ?_, ?_⟩
        · simp only [hst', List.length_append, List.length_cons, List.length_nil, Nat.zero_add, List.cons_append, List.nil_append]
        · simp only [go_sem, hst', List.length_append, List.length_cons, List.length_nil, Nat.zero_add]
        · simp only [go_sem, ltB]
          exact fun r hr => (lt_lbRows _ _ r hr).2
  · have hkl : k = s.labels.length := by omega
    subst hkl
    have hrow : ∀ (a : List Lb) (n v : ByteArray), lbRows a ++ [[AV.c (CV.v (Value.string n)), AV.c (CV.v (Value.string v))]] = lbRows (a ++ [⟨n, v⟩]) := fun a n v => by simp [lbRows, lbRow]
    rw [List.take_length] at hwl ⊢
    unfold refW
    generalize hw : wAll name value s.labels = W at hwl ⊢
    obtain ⟨ws, put⟩ := W
    simp only at hwl
    refine run_seqV ?_
    simp only [go_sem, lbRows_len, hrow]
    refine ⟨fun hp => ⟨by omega, ?_⟩, fun hp => ?_⟩
    · have hput : put = false := by simpa using hp
      rw [hput]
      refine run_gh (gh_freeze (b := 2) (l := lbRows (ws ++ [⟨name, value⟩])) rfl (lb_closed _)) ?_
      refine V_sound ?_
      simp only [go_sem, lbRows_len, List.length_append, List.length_cons, List.length_nil, Nat.zero_add, Nat.le_refl]
      have := sub_ser s.name (ws ++ [⟨name, value⟩]) (fun i j => toC (((lbRows (ws ++ [⟨name, value⟩])).getD i []).getD j default)) (fun i hi j hj => by have := lbRows_get _ hi hj; rwa [Nat.zero_add] at this)
      rw [show (ws ++ [(⟨name, value⟩ : Lb)]).length = ws.length + 1 by simp] at this
      exact subS_p this
    · have hput : put = true := by simpa using hp
      rw [hput]
      refine run_gh (gh_freeze (b := 2) (l := lbRows (ws)) rfl (lb_closed _)) ?_
      refine V_sound ?_
      simp only [go_sem, lbRows_len, List.length_append, List.length_cons, List.length_nil, Nat.zero_add, Nat.le_refl]
      have := sub_ser s.name ws (fun i j => toC (((lbRows ws).getD i []).getD j default)) (fun i hi j hj => by have := lbRows_get _ hi hj; rwa [Nat.zero_add] at this)
      exact subS_p this
end Go.Proofs.Ytioefecijidgkaa.A
