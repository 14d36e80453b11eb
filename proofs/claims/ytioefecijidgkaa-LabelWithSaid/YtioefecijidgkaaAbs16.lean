/- The abstract machine: calls, loops and ends, told so that rewriting does the rest. -/
import Derived.Test.YtioefecijidgkaaAbs15
set_option linter.unusedVariables false
set_option linter.unusedSimpArgs false
namespace Go.Proofs.YtioefecijidgkaaAbs
open Go Go.RowKit
/-- One value is told by another's words. -/
def lePt : Pt → Pt → Prop
  | .one (.c (.imm sz n c)), .one (.c (.imm sz' n' c')) => n = n' ∧ (n = 0 ∨ (sz = sz' ∧ ∀ i, i < n → ∀ j, j < sz → c i j = c' i j))
  | .one (.c (.v (.slice none 0 0))), .one (.c (.imm _ n _)) => n = 0
  | q, q' => q = q'
def leS : SV → SV → Prop
  | _, .any => True
  | .p q, .p q' => lePt q q'
  | s, s' => s = s'
theorem lePt.sound {I : Im} {σ : List Plc} {q q' : Pt} {y : Value} (h : lePt q q') (hr : RelP I σ q y) : RelP I σ q' y := by
  unfold lePt at h
  split at h
  · obtain ⟨rfl, h⟩ := h
    obtain ⟨A, cap, e, h1, h2⟩ := hr
    refine ⟨A, cap, e, h1, ?_⟩
    rcases h with h | ⟨rfl, h⟩
    · exact .inl h
    · refine h2.imp id ?_
      rintro ⟨ad, ha, hc⟩
      refine ⟨ad, ha, fun i hi j hj => ?_⟩
      obtain ⟨x, hx, hrx⟩ := hc i hi j hj
      exact ⟨x, hx, by rw [← h i hi j hj]; exact hrx⟩
  · subst h
    obtain ⟨rfl, _⟩ := hr
    exact ⟨none, 0, rfl, Nat.le_refl _, .inl rfl⟩
  · subst h; exact hr
theorem leS.sub {s s' : SV} (h : leS s s') : SubS s s' := by
  intro I σ y hr
  unfold leS at h
  split at h
  · exact trivial
  · exact h.sound hr
  · subst h; exact hr
@[go_sem] theorem leS_any (s : SV) : leS s .any = True := by cases s <;> rfl
@[go_sem] theorem leS_p (q q' : Pt) : leS (.p q) (.p q') = lePt q q' := rfl
@[go_sem] theorem leS_tup (l : List Pt) (s : SV) : leS s (.tup l) = (s = .tup l) := by cases s <;> rfl
@[go_sem] theorem leS_g (c : Bool) (s s' : SV) : leS s (.g c s') = (s = .g c s') := by cases s <;> rfl
@[go_sem] theorem lePt_imm (sz n sz' n' : Nat) (c c' : Nat → Nat → CV) : lePt (.one (.c (.imm sz n c))) (.one (.c (.imm sz' n' c'))) = (n = n' ∧ (n = 0 ∨ (sz = sz' ∧ ∀ i, i < n → ∀ j, j < sz → c i j = c' i j))) := rfl
@[go_sem] theorem lePt_nil (sz n : Nat) (c : Nat → Nat → CV) : lePt (.one (.c (.v (.slice none 0 0)))) (.one (.c (.imm sz n c))) = (n = 0) := rfl
@[go_sem] theorem lePt_v (q : Pt) (x : Value) : lePt q (.one (.c (.v x))) = (q = .one (.c (.v x))) := by
  unfold lePt; split <;> simp_all
@[go_sem] theorem lePt_ptr (q : Pt) (b ver i j : Nat) : lePt q (.one (.ptr b ver i j)) = (q = .one (.ptr b ver i j)) := by
  unfold lePt; split <;> simp_all
@[go_sem] theorem lePt_arr (q : Pt) (sz b ver i j : Nat) : lePt q (.one (.arr sz b ver i j)) = (q = .one (.arr sz b ver i j)) := by
  unfold lePt; split <;> simp_all
@[go_sem] theorem lePt_ip (q : Pt) (n : Nat) (c : Nat → CV) : lePt q (.one (.ip n c)) = (q = .one (.ip n c)) := by
  unfold lePt; split <;> simp_all
@[go_sem] theorem lePt_fn (q : Pt) (f n : Nat) (c : Nat → AV) : lePt q (.one (.fn f n c)) = (q = .one (.fn f n c)) := by
  unfold lePt; split <;> simp_all
@[go_sem] theorem lePt_agg (q : Pt) (l : List AV) : lePt q (.agg l) = (q = .agg l) := by
  unfold lePt; split <;> simp_all
@[go_sem] theorem lePt_self (q : Pt) : lePt q q = True := by
  match q with
  | .one (.c (.imm sz n c)) => simp [lePt]
  | .one (.c (.v x)) => simp [lePt_v]
  | .one (.ptr _ _ _ _) => simp [lePt_ptr]
  | .one (.arr _ _ _ _ _) => simp [lePt_arr]
  | .one (.ip _ _) => simp [lePt_ip]
  | .one (.fn _ _ _) => simp [lePt_fn]
  | .agg l => simp [lePt_agg]
@[go_sem] theorem leS_self (s : SV) : leS s s = True := by
  cases s with
  | p q => exact lePt_self q
  | any => rfl
  | tup l => simp [leS]
  | g c s => simp [leS]
@[go_sem] theorem ltP_one (n : Nat) (a : AV) : ltP n (.one a) = ltA n a := rfl
@[go_sem] theorem ltP_agg (n : Nat) (l : List AV) : ltP n (.agg l) = ∀ a ∈ l, ltA n a := rfl
@[go_sem] theorem ltS_p (n : Nat) (q : Pt) : ltS n (.p q) = ltP n q := rfl
@[go_sem] theorem ltS_tup (n : Nat) (l : List Pt) : ltS n (.tup l) = ∀ q ∈ l, ltP n q := rfl
@[go_sem] theorem ltS_any (n : Nat) : ltS n .any = True := rfl
@[go_sem] theorem ltS_g (n : Nat) (c : Bool) (s : SV) : ltS n (.g c s) = ltS n s := rfl
@[go_sem] theorem ltA_c (n : Nat) (x : CV) : ltA n (.c x) = True := rfl
@[go_sem] theorem ltA_ip (n m : Nat) (c : Nat → CV) : ltA n (.ip m c) = True := rfl
@[go_sem] theorem ltA_ptr (n b v i j : Nat) : ltA n (.ptr b v i j) = (b < n) := rfl
@[go_sem] theorem ltA_arr (n sz b v i j : Nat) : ltA n (.arr sz b v i j) = (b < n) := rfl
@[go_sem] theorem ltA_fn (n f k : Nat) (caps : Nat → AV) : ltA n (.fn f k caps) = ∀ i, i < k → ltA n (caps i) := rfl
@[go_sem] theorem lt_cellsUp (n : Nat) (c : Nat → CV) : ∀ (m k : Nat), (∀ a ∈ cellsUp c k m, ltA n a) = True
  | 0, k => by simp [cellsUp]
  | m + 1, k => by
    have := lt_cellsUp n c m (k + 1)
    simp only [eq_iff_iff, iff_true] at this ⊢
    intro a ha
    rcases List.mem_cons.1 ha with rfl | ha
    · exact trivial
    · exact this a ha
def leL : List Pt → List Pt → Prop
  | [], [] => True
  | q :: qs, q' :: qs' => lePt q q' ∧ leL qs qs'
  | _, _ => False
theorem leL.length : ∀ {l l' : List Pt}, leL l l' → l.length = l'.length
  | [], [], _ => rfl
  | q :: qs, q' :: qs', h => by simp [leL.length h.2]
theorem leL.get : ∀ {l l' : List Pt}, leL l l' → ∀ (k : Nat) (q q' : Pt), l[k]? = some q → l'[k]? = some q' → lePt q q'
  | q :: qs, q' :: qs', h, 0, x, x', e, e' => by
    injection e with e; injection e' with e'; subst e; subst e'; exact h.1
  | q :: qs, q' :: qs', h, k + 1, x, x', e, e' => leL.get h.2 k x x' e e'
theorem CallR.le {P : Program} {M M' : List Blk} {f : Nat} {ps ps' : List Pt} {r : SV} (h : CallR P M f ps' r M') (hl : leL ps ps') : CallR P M f ps r M' := by
  refine fun I σ w vals hG hm hv hr => h I σ w vals hG hm (by rw [hv, hl.length]) (fun k q x hq hx => ?_)
  have hk : k < ps'.length := getElem?_lt hq
  have hk2 : k < ps.length := by rw [hl.length]; exact hk
  exact (hl.get k _ q (List.getElem?_eq_getElem hk2) hq).sound (hr k _ x (List.getElem?_eq_getElem hk2) hx)
attribute [go_sem] leL
/-! ### Calls -/
def Call1 (P : Program) (M : List Blk) (f : Nat) (ps : List Pt) (d : Bool) (dst : Option Nat) (os : List OpL) (e : Nat → SV) (K : St → Prop) : Prop :=
  ∃ r M', CallR P M f ps r M' ∧ (d = true → M' = M) ∧ runOps P d os ⟨put e dst r, M'⟩ K
def CallG (P : Program) (M : List Blk) (c : Bool) (f : Nat) (ps : List Pt) (d : Bool) (dst : Option Nat) (os : List OpL) (e : Nat → SV) (K : St → Prop) : Prop :=
  ∃ r, (c = true → CallR P M f ps r M) ∧ runOps P d os ⟨put e dst (.g c r), M⟩ K
def callK (P : Program) (d : Bool) (dst : Option Nat) (os : List OpL) (e : Nat → SV) (M : List Blk) (K : St → Prop) : Option (Nat × List Pt) → Option (List Pt) → Prop
  | some (f, caps), some ps => Call1 P M f (ps ++ caps) d dst os e K
  | _, _ => False
def callGK (P : Program) (d : Bool) (dst : Option Nat) (os : List OpL) (e : Nat → SV) (M : List Blk) (K : St → Prop) (c : Bool) : Option (Nat × List Pt) → Option (List Pt) → Prop
  | some (f, caps), some ps => CallG P M c f (ps ++ caps) d dst os e K
  | _, _ => False
section
variable {P : Program} {d : Bool} {dst : Option Nat} {op : O} {os : List OpL} {s : St} {K : St → Prop} {g : Nat} {want : Bool}
@[go_sem] theorem runOps_call {e : Nat → SV} {M : List Blk} {f : Opd} {args : List Opd} : runOps P d (⟨dst, .call f args, none⟩ :: os) ⟨e, M⟩ K = callK P d dst os e M K (callee (strip true (raw e f))) (ptsOf (fun x => strip true (raw e x)) args) := by
  refine propext ⟨?_, fun h => ?_⟩
  · rintro ⟨r, M', ⟨⟨k, caps, ps, hc, ha, hr⟩, hd⟩, hk⟩
    rw [hc, ha]
    exact ⟨r, M', hr, hd, hk⟩
  · cases hc : callee (strip true (raw e f)) with
    | none => rw [hc] at h; exact h.elim
    | some x =>
      obtain ⟨k, caps⟩ := x
      cases ha : ptsOf (fun x => strip true (raw e x)) args with
      | none => rw [hc, ha] at h; exact h.elim
      | some ps =>
        rw [hc, ha] at h
        obtain ⟨r, M', hr, hd, hk⟩ := h
        exact ⟨r, M', ⟨⟨k, caps, ps, hc, ha, hr⟩, hd⟩, hk⟩
def callGK' (P : Program) (d : Bool) (dst : Option Nat) (os : List OpL) (e : Nat → SV) (M : List Blk) (K : St → Prop) (f : Opd) (args : List Opd) : Option Bool → Prop
  | some c => callGK P d dst os e M K c (callee (strip c (raw e f))) (ptsOf (fun x => strip c (raw e x)) args)
  | none => False
theorem callG_sound {e : Nat → SV} {M : List Blk} {f : Opd} {args : List Opd} (h : callGK' P d dst os e M K f args (gcond (e g) want)) : runOps P d (⟨dst, .call f args, some (g, want)⟩ :: os) ⟨e, M⟩ K := by
  cases hg : gcond (e g) want with
  | none => rw [hg] at h; exact h.elim
  | some c =>
    rw [hg] at h
    have h : callGK P d dst os e M K c (callee (strip c (raw e f))) (ptsOf (fun x => strip c (raw e x)) args) := h
    cases hc : callee (strip c (raw e f)) with
    | none => rw [hc] at h; exact h.elim
    | some x =>
      obtain ⟨k, caps⟩ := x
      cases ha : ptsOf (fun x => strip c (raw e x)) args with
      | none => rw [hc, ha] at h; exact h.elim
      | some ps =>
        rw [hc, ha] at h
        obtain ⟨r, hr, hk⟩ := h
        exact ev_callg hg hc ha hr hk
/-- A region's operations, with its calls. -/
def ev (P : Program) (d : Bool) : List OpL → (Nat → SV) → List Blk → (St → Prop) → Prop
  | [], e, M, K => K ⟨e, M⟩
  | ⟨dst, .call f args, none⟩ :: os, e, M, K => callK P d dst os e M K (callee (strip true (raw e f))) (ptsOf (fun x => strip true (raw e x)) args)
  | ⟨dst, .call f args, some (g, want)⟩ :: os, e, M, K => callGK' P d dst os e M K f args (gcond (e g) want)
  | ⟨dst, op, none⟩ :: os, e, M, K =>
      match out e M true op with
      | some (r, M', c) => c ∧ ev P d os (put e dst r) M' K
      | none => False
  | ⟨dst, op, some (g, want)⟩ :: os, e, M, K =>
      match gcond (e g) want with
      | some c =>
        match out e M c op with
        | some (r, M', cnd) => (c = true → cnd) ∧ (c = false → M' = M) ∧ ev P d os (put e dst (.g c r)) M' K
        | none => False
      | none => False
theorem ev_sound : ∀ {os : List OpL} {e : Nat → SV} {M : List Blk}, ev P d os e M K → runOps P d os ⟨e, M⟩ K
  | [], e, M, h => h
  | ⟨dst, op, gd⟩ :: os, e, M, h => by
    cases hc : isCall op with
    | true =>
      cases op <;> first | (cases hc; done) | skip
      case call f args =>
        cases gd with
        | none => rw [runOps_call]; exact h
        | some gw => obtain ⟨g, want⟩ := gw; exact callG_sound h
    | false =>
      cases gd with
      | none =>
        have h : match out e M true op with
          | some (r, M', c) => c ∧ ev P d os (put e dst r) M' K
          | none => False := by cases op <;> first | (cases hc; done) | exact h
        cases ho : out e M true op with
        | none => rw [ho] at h; exact h.elim
        | some x =>
          obtain ⟨r, M', c⟩ := x
          rw [ho] at h
          exact ⟨r, M', (stp0_out hc).2 ⟨c, ho, h.1⟩, ev_sound h.2⟩
      | some gw =>
        obtain ⟨g, want⟩ := gw
        have h : match gcond (e g) want with
          | some c =>
            match out e M c op with
            | some (r, M', cnd) => (c = true → cnd) ∧ (c = false → M' = M) ∧ ev P d os (put e dst (.g c r)) M' K
            | none => False
          | none => False := by cases op <;> first | (cases hc; done) | exact h
        cases hg : gcond (e g) want with
        | none => rw [hg] at h; exact h.elim
        | some c =>
          rw [hg] at h
          have h : match out e M c op with
            | some (r, M', cnd) => (c = true → cnd) ∧ (c = false → M' = M) ∧ ev P d os (put e dst (.g c r)) M' K
            | none => False := h
          cases ho : out e M c op with
          | none => rw [ho] at h; exact h.elim
          | some x =>
            obtain ⟨r, M', cnd⟩ := x
            rw [ho] at h
            exact ⟨.g c r, M', ⟨c, r, hg, rfl, fun hc' => (stp0_out hc).2 ⟨cnd, ho, h.1 hc'⟩, h.2.1⟩, ev_sound h.2.2⟩
theorem call1 {M M' : List Blk} {f : Nat} {ps ps' : List Pt} {r : SV} {e : Nat → SV} (h : CallR P M f ps' r M') (hl : leL ps ps') (hd : d = true → M' = M) (hK : ev P d os (put e dst r) M' K) : Call1 P M f ps d dst os e K := ⟨r, M', h.le hl, hd, ev_sound hK⟩
theorem call0 {M : List Blk} {f : Nat} {ps : List Pt} {r : SV} {e : Nat → SV} (h : ∀ M, CallR P M f ps r M) (hK : ev P d os (put e dst r) M K) : Call1 P M f ps d dst os e K := ⟨r, M, h M, fun _ => rfl, ev_sound hK⟩
theorem callg0 {M : List Blk} {c : Bool} {f : Nat} {ps : List Pt} {r : SV} {e : Nat → SV} (h : c = true → ∀ M, CallR P M f ps r M) (hK : ev P d os (put e dst (.g c r)) M K) : CallG P M c f ps d dst os e K := ⟨r, fun hc => h hc M, ev_sound hK⟩
theorem callg1 {M : List Blk} {c : Bool} {f : Nat} {ps ps' : List Pt} {r : SV} {e : Nat → SV} (h : c = true → CallR P M f ps' r M) (hl : c = true → leL ps ps') (hK : ev P d os (put e dst (.g c r)) M K) : CallG P M c f ps d dst os e K := ⟨r, fun hc => (h hc).le (hl hc), ev_sound hK⟩
end
/-! ### Operations in whatever order -/
def RX (P : Program) (T : List (List Nat)) (os : List OpL) (acc : List XOp) (s : St) (K : St → Prop) : Prop := ∃ xs : List XOp, xs.map (·.op) = os ∧ runX P xs s (fun s' => pairsX T (acc ++ xs) = true ∧ K s')
def CallX (P : Program) (T : List (List Nat)) (M : List Blk) (f : Nat) (ps : List Pt) (x : XOp) (os : List OpL) (acc : List XOp) (e : Nat → SV) (K : St → Prop) : Prop :=
  ∃ r, (∀ N, CallR P N f ps r N) ∧ RX P T os (acc ++ [x]) ⟨put e x.op.dst r, M⟩ K
def CallXG (P : Program) (T : List (List Nat)) (M : List Blk) (c : Bool) (f : Nat) (ps : List Pt) (x : XOp) (os : List OpL) (acc : List XOp) (e : Nat → SV) (K : St → Prop) : Prop :=
  ∃ r, (c = true → ∀ N, CallR P N f ps r N) ∧ RX P T os (acc ++ [x]) ⟨put e x.op.dst (.g c r), M⟩ K
def callXK (P : Program) (T : List (List Nat)) (x : XOp) (os : List OpL) (acc : List XOp) (e : Nat → SV) (M : List Blk) (K : St → Prop) : Option (Nat × List Pt) → Option (List Pt) → Prop
  | some (f, caps), some ps => CallX P T M f (ps ++ caps) x os acc e K
  | _, _ => False
def callXGK (P : Program) (T : List (List Nat)) (x : XOp) (os : List OpL) (acc : List XOp) (e : Nat → SV) (M : List Blk) (K : St → Prop) (c : Bool) : Option (Nat × List Pt) → Option (List Pt) → Prop
  | some (f, caps), some ps => CallXG P T M c f (ps ++ caps) x os acc e K
  | _, _ => False
def callXGK' (P : Program) (T : List (List Nat)) (x : XOp) (os : List OpL) (acc : List XOp) (e : Nat → SV) (M : List Blk) (K : St → Prop) (f : Opd) (args : List Opd) : Option Bool → Prop
  | some c => callXGK P T x os acc e M K c (callee (strip c (raw e f))) (ptsOf (fun y => strip c (raw e y)) args)
  | none => False
def evX (P : Program) (T : List (List Nat)) : List OpL → Nat → List XOp → (Nat → SV) → List Blk → (St → Prop) → Prop
  | [], n, acc, e, M, K => pairsX T acc = true ∧ K ⟨e, M⟩
  | ⟨dst, .call f args, none⟩ :: os, n, acc, e, M, K => callXK P T ⟨⟨dst, .call f args, none⟩, [], false, n⟩ os acc e M K (callee (strip true (raw e f))) (ptsOf (fun x => strip true (raw e x)) args)
  | ⟨dst, .call f args, some (g, want)⟩ :: os, n, acc, e, M, K => callXGK' P T ⟨⟨dst, .call f args, some (g, want)⟩, [], false, n⟩ os acc e M K f args (gcond (e g) want)
  | ⟨dst, op, none⟩ :: os, n, acc, e, M, K =>
      match outX n e M true op with
      | some (r, M', c) => c ∧ evX P T os (bif isAl op then n + 1 else n) (acc ++ [⟨⟨dst, op, none⟩, foot e true n op, isW op, n⟩]) (put e dst r) M' K
      | none => False
  | ⟨dst, op, some (g, want)⟩ :: os, n, acc, e, M, K =>
      match gcond (e g) want with
      | some c =>
        match outX n e M c op with
        | some (r, M', cnd) => (c = true → cnd) ∧ (c = false → M' = M) ∧ evX P T os (bif isAl op then n + 1 else n) (acc ++ [⟨⟨dst, op, some (g, want)⟩, foot e c n op, isW op, n⟩]) (put e dst (.g c r)) M' K
        | none => False
      | none => False
theorem runX_mono {P : Program} : ∀ {xs : List XOp} {s : St} {K K' : St → Prop}, (∀ s, K s → K' s) → runX P xs s K → runX P xs s K'
  | [], s, K, K', h, hr => h _ hr
  | x :: xs, s, K, K', h, ⟨r, M', h1, h2⟩ => ⟨r, M', h1, runX_mono h h2⟩
theorem runX_pure {P : Program} {p : Prop} : ∀ {xs : List XOp} {s : St} {K : St → Prop}, runX P xs s (fun s => p ∧ K s) → p ∧ runX P xs s K
  | [], s, K, h => h
  | x :: xs, s, K, ⟨r, M', h1, h2⟩ => ⟨(runX_pure h2).1, r, M', h1, (runX_pure h2).2⟩
theorem RX_cons {P : Program} {T : List (List Nat)} {x : XOp} {os : List OpL} {acc : List XOp} {e : Nat → SV} {M M' : List Blk} {r : SV} {K : St → Prop} (h : StpX P x e M r M') (hr : RX P T os (acc ++ [x]) ⟨put e x.op.dst r, M'⟩ K) : RX P T (x.op :: os) acc ⟨e, M⟩ K := by
  obtain ⟨xs, h1, h2⟩ := hr
  refine ⟨x :: xs, by simp [h1], r, M', h, runX_mono (fun s hs => ⟨?_, hs.2⟩) h2⟩
  have := hs.1
  simpa using this
theorem stpX0_out {P : Program} {x : XOp} {ctx : Bool} {e : Nat → SV} {M M' : List Blk} {r : SV} (hop : isCall x.op.op = false) (hF : ∀ b ∈ foot e ctx x.n x.op.op, b ∈ x.F) (hw : isW x.op.op = true → x.w = true) {c : Prop} (h : outX x.n e M ctx x.op.op = some (r, M', c)) (hc : c) : StpX0 P x ctx e M r M' := by
  unfold StpX0
  split
  · rename_i f args ho
    rw [ho] at hop
    cases hop
  · exact ⟨hF, hw, c, h, hc⟩
theorem evX_sound {P : Program} {T : List (List Nat)} {K : St → Prop} : ∀ {os : List OpL} {n : Nat} {acc : List XOp} {e : Nat → SV} {M : List Blk}, evX P T os n acc e M K → RX P T os acc ⟨e, M⟩ K
  | [], n, acc, e, M, h => ⟨[], rfl, by simpa [runX, evX] using h⟩
  | ⟨dst, op, gd⟩ :: os, n, acc, e, M, h => by
    cases hc : isCall op with
    | true =>
      cases op <;> first | (cases hc; done) | skip
      case call f args =>
        cases gd with
        | none =>
          have h : callXK P T ⟨⟨dst, .call f args, none⟩, [], false, n⟩ os acc e M K (callee (strip true (raw e f))) (ptsOf (fun x => strip true (raw e x)) args) := h
          cases hcl : callee (strip true (raw e f)) with
          | none => rw [hcl] at h; exact h.elim
          | some x =>
            obtain ⟨k, caps⟩ := x
            cases ha : ptsOf (fun x => strip true (raw e x)) args with
            | none => rw [hcl, ha] at h; exact h.elim
            | some ps =>
              rw [hcl, ha] at h
              obtain ⟨r, hr, hk⟩ := h
              exact RX_cons (x := ⟨⟨dst, .call f args, none⟩, [], false, n⟩) (show StpX P ⟨⟨dst, .call f args, none⟩, [], false, n⟩ e M r M from ⟨⟨k, caps, ps, hcl, ha, hr⟩, rfl⟩) hk
        | some gw =>
          obtain ⟨g, want⟩ := gw
          have h : callXGK' P T ⟨⟨dst, .call f args, some (g, want)⟩, [], false, n⟩ os acc e M K f args (gcond (e g) want) := h
          cases hg : gcond (e g) want with
          | none => rw [hg] at h; exact h.elim
          | some c =>
            rw [hg] at h
            have h : callXGK P T ⟨⟨dst, .call f args, some (g, want)⟩, [], false, n⟩ os acc e M K c (callee (strip c (raw e f))) (ptsOf (fun x => strip c (raw e x)) args) := h
            cases hcl : callee (strip c (raw e f)) with
            | none => rw [hcl] at h; exact h.elim
            | some x =>
              obtain ⟨k, caps⟩ := x
              cases ha : ptsOf (fun x => strip c (raw e x)) args with
              | none => rw [hcl, ha] at h; exact h.elim
              | some ps =>
                rw [hcl, ha] at h
                obtain ⟨r, hr, hk⟩ := h
                exact RX_cons (x := ⟨⟨dst, .call f args, some (g, want)⟩, [], false, n⟩) (show StpX P ⟨⟨dst, .call f args, some (g, want)⟩, [], false, n⟩ e M (.g c r) M from ⟨c, r, hg, rfl, fun h0 => ⟨⟨k, caps, ps, hcl, ha, hr h0⟩, rfl⟩, fun _ => rfl⟩) hk
    | false =>
      cases gd with
      | none =>
        have h : match outX n e M true op with
          | some (r, M', c) => c ∧ evX P T os (bif isAl op then n + 1 else n) (acc ++ [⟨⟨dst, op, none⟩, foot e true n op, isW op, n⟩]) (put e dst r) M' K
          | none => False := by cases op <;> first | (cases hc; done) | exact h
        cases ho : outX n e M true op with
        | none => rw [ho] at h; exact h.elim
        | some x =>
          obtain ⟨r, M', c⟩ := x
          rw [ho] at h
          exact RX_cons (x := ⟨⟨dst, op, none⟩, foot e true n op, isW op, n⟩) (show StpX P ⟨⟨dst, op, none⟩, foot e true n op, isW op, n⟩ e M r M' from stpX0_out hc (fun _ hb => hb) (fun hw => hw) ho h.1) (evX_sound h.2)
      | some gw =>
        obtain ⟨g, want⟩ := gw
        have h : match gcond (e g) want with
          | some c =>
            match outX n e M c op with
            | some (r, M', cnd) => (c = true → cnd) ∧ (c = false → M' = M) ∧ evX P T os (bif isAl op then n + 1 else n) (acc ++ [⟨⟨dst, op, some (g, want)⟩, foot e c n op, isW op, n⟩]) (put e dst (.g c r)) M' K
            | none => False
          | none => False := by cases op <;> first | (cases hc; done) | exact h
        cases hg : gcond (e g) want with
        | none => rw [hg] at h; exact h.elim
        | some c =>
          rw [hg] at h
          have h : match outX n e M c op with
            | some (r, M', cnd) => (c = true → cnd) ∧ (c = false → M' = M) ∧ evX P T os (bif isAl op then n + 1 else n) (acc ++ [⟨⟨dst, op, some (g, want)⟩, foot e c n op, isW op, n⟩]) (put e dst (.g c r)) M' K
            | none => False := h
          cases ho : outX n e M c op with
          | none => rw [ho] at h; exact h.elim
          | some x =>
            obtain ⟨r, M', cnd⟩ := x
            rw [ho] at h
            exact RX_cons (x := ⟨⟨dst, op, some (g, want)⟩, foot e c n op, isW op, n⟩) (show StpX P ⟨⟨dst, op, some (g, want)⟩, foot e c n op, isW op, n⟩ e M (.g c r) M' from ⟨c, r, hg, rfl, fun h0 => stpX0_out hc (fun _ hb => hb) (fun hw => hw) ho (h.1 h0), fun h0 => h.2.1 h0⟩) (evX_sound h.2.2)
theorem callx0 {P : Program} {T : List (List Nat)} {M : List Blk} {f : Nat} {ps : List Pt} {x : XOp} {os : List OpL} {acc : List XOp} {e : Nat → SV} {K : St → Prop} {r : SV} (h : ∀ N, CallR P N f ps r N) (hK : evX P T os x.n (acc ++ [x]) (put e x.op.dst r) M K) : CallX P T M f ps x os acc e K := ⟨r, h, evX_sound hK⟩
theorem callxg0 {P : Program} {T : List (List Nat)} {M : List Blk} {c : Bool} {f : Nat} {ps : List Pt} {x : XOp} {os : List OpL} {acc : List XOp} {e : Nat → SV} {K : St → Prop} {r : SV} (h : c = true → ∀ N, CallR P N f ps r N) (hK : evX P T os x.n (acc ++ [x]) (put e x.op.dst (.g c r)) M K) : CallXG P T M c f ps x os acc e K := ⟨r, h, evX_sound hK⟩
def nAl : List OpL → Nat
  | [] => 0
  | o :: os => bif isAl o.op then nAl os + 1 else nAl os
/-! ### Code -/
/-- What is told at a loop's head, at a join: slots one by one, blocks; what lies behind them is forgotten. -/
def Into (m : Nat) (s : St) (l : List (Nat × SV)) (M' : List Blk) : Prop :=
  ∃ D, s.M = M' ++ D ∧ m ≤ M'.length ∧ (∀ p ∈ l, leS (s.env p.1) p.2 ∧ ltS M'.length p.2) ∧ ∀ x ∈ M', ltB M'.length x
section
variable {P : Program} {n m : Nat} {K : Exit → St → Prop} {e : Nat → SV} {M : List Blk}
theorem Into.gh {s : St} {l : List (Nat × SV)} {M' : List Blk} (h : Into m s l M') : Gh n m s ⟨envL l, M'⟩ := by
  obtain ⟨D, h1, h2, h3, h4⟩ := h
  obtain ⟨e, M⟩ := s
  exact gh_drop h1 h2 (fun p hp => ⟨(h3 p hp).1.sub, (h3 p hp).2⟩) h4
def V (P : Program) (n m : Nat) : C → (Nat → SV) → List Blk → (Exit → St → Prop) → Prop
  | .skip, e, M, K => K .normal ⟨e, M⟩
  | .ret, e, M, K => K .ret ⟨e, M⟩
  | .exit id, e, M, K => K (.exit id) ⟨e, M⟩
  | .reg d ops, e, M, K => ev P d ops e M (K .normal)
  | .seq a b, e, M, K => V P n m a e M (andThen (fun s => V P n m b s.env s.M K) K)
  | .block id c, e, M, K => V P n m c e M (inBlock id K)
  | .scope c, e, M, K => V P n m c e M (inScope K)
  | .cond x a b, e, M, K =>
    match raw e x with
    | .p (.one (.c (.v (.bool t)))) => (t = true → V P n m a e M K) ∧ (t = false → V P n m b e M K)
    | _ => False
  | .loop c, e, M, K => Run P n m (.loop c) ⟨e, M⟩ K
  | .rgx T ops, e, M, K => evX P T ops M.length [] e (M ++ List.replicate (nAl ops) (.rows 0 0 0 [] true)) (K .normal)
theorem V_sound : ∀ {c : C} {e : Nat → SV} {M : List Blk} {K : Exit → St → Prop}, V P n m c e M K → Run P n m c ⟨e, M⟩ K
  | .skip, e, M, K, h => run_skip h
  | .ret, e, M, K, h => run_ret h
  | .exit id, e, M, K, h => run_exit h
  | .reg d ops, e, M, K, h => run_reg (ev_sound h)
  | .seq a b, e, M, K, h => run_seq (run_mono (fun ex s hs => by cases ex <;> first | exact V_sound (c := b) hs | exact hs) (V_sound (c := a) h))
  | .block id c, e, M, K, h => run_block (V_sound (c := c) h)
  | .scope c, e, M, K, h => run_scope (V_sound (c := c) h)
  | .cond x a b, e, M, K, h => by
    unfold V at h
    split at h
    · rename_i t hx
      exact run_cond hx (fun ht => V_sound (h.1 ht)) (fun ht => V_sound (h.2 ht))
    · exact h.elim
  | .loop c, e, M, K, h => h
  | .rgx T ops, e, M, K, h => by
    obtain ⟨xs, h1, h2⟩ := evX_sound h
    obtain ⟨h3, h4⟩ := runX_pure h2
    exact run_gh (gh_res _) (run_rgx h1 (by simpa using h3) h4)
theorem V_loop {ι : Type} (J : ι → Prop) (env : ι → List (Nat × SV)) (mem : ι → List Blk) (μ : ι → Nat) {c : C} (i0 : ι) (h0 : J i0) (hs : Into m ⟨e, M⟩ (env i0) (mem i0))
    (h : ∀ i, J i → V P n m c (envL (env i)) (mem i) (andThen (fun s' => ∃ j, J j ∧ μ j < μ i ∧ Into m s' (env j) (mem j)) K)) : Run P n m (.loop c) ⟨e, M⟩ K := by
  refine run_loop (ι := { i // J i }) (fun i => ⟨envL (env i.1), mem i.1⟩) (fun i => μ i.1) ⟨i0, h0⟩ hs.gh (fun i => run_mono (fun ex s' hx => ?_) (V_sound (h i.1 i.2)))
  cases ex with
  | normal =>
    obtain ⟨j, h1, h2, h3⟩ := hx
    exact ⟨⟨j, h1⟩, h3.gh, h2⟩
  | _ => exact hx
/-- A function's end whose results are closed. -/
def FinP (rvs : List RV) (Q : SV → Prop) : Exit → St → Prop
  | .normal, s => match resL s.env s.M rvs with
    | some (qs, c) => c ∧ Q (mkRes qs)
    | none => False
  | .ret, s => match resL s.env s.M rvs with
    | some (qs, c) => c ∧ Q (mkRes qs)
    | none => False
  | _, _ => False
theorem callP {f : Nat} {c : C} {rvs : List RV} {ps : List Pt} {r : SV} (hF : Fun P f n c rvs) (hl : ps.length ≤ n) (hps : ∀ q ∈ ps, ltP 0 q) (hr : ltS 0 r) (h : V P n 0 c (envOf 0 ps) [] (FinP rvs (leS · r))) (M : List Blk) : CallR P M f ps r M := by
  refine callR_pure (callR_intro (M' := []) hF hl (run_mono (fun ex s hs => ?_) (V_sound h))) hps M
  have key : (match resL s.env s.M rvs with
    | some (qs, c) => c ∧ leS (mkRes qs) r
    | none => False) → Fin n 0 rvs r [] s := by
    intro h
    cases hq : resL s.env s.M rvs with
    | none => rw [hq] at h; exact h.elim
    | some x =>
      obtain ⟨qs, c⟩ := x
      rw [hq] at h
      exact ⟨s, s.M, qs, c, Gh.refl s, hq, h.1, rfl, h.2.sub, Nat.le_refl _, hr, fun x hx => by simp at hx⟩
  cases ex with
  | normal => exact key hs
  | ret => exact key hs
  | _ => exact hs.elim
end
@[go_sem] theorem mkRes_one (q : Pt) : mkRes [q] = .p q := rfl
@[go_sem] theorem mkRes_nil : mkRes [] = .tup [] := rfl
@[go_sem] theorem mkRes_two (q q' : Pt) (qs : List Pt) : mkRes (q :: q' :: qs) = .tup (q :: q' :: qs) := rfl
attribute [go_sem] V ev callK callGK callGK' callee ptsOf capsL envL resL FinP evX callXK callXGK callXGK' nAl isAl isW foot blkOf outX mkP mkA
attribute [go_sem] cond_false cond_true if_true if_false Nat.reduceEqDiff Nat.reduceAdd true_and and_true implies_true imp_self List.length_cons List.length_nil Bool.not_false Bool.not_true Bool.not_not Option.map_some Option.map_none Bool.not_or Bool.not_and forall_const
attribute [go_sem] SV.p.injEq Pt.one.injEq AV.c.injEq CV.v.injEq Value.int.injEq Value.bool.injEq Value.string.injEq SV.tup.injEq Pt.agg.injEq List.cons.injEq AV.ip.injEq AV.ptr.injEq AV.arr.injEq AV.fn.injEq reduceCtorEq
end Go.Proofs.YtioefecijidgkaaAbs
