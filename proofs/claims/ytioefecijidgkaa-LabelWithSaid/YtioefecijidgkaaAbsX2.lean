/- The abstract machine: operations in whatever order: they may be taken as the text has them. -/
import Derived.Test.YtioefecijidgkaaAbs11
import Derived.Test.YtioefecijidgkaaAbsX1
set_option linter.unusedVariables false
set_option linter.unusedSimpArgs false
namespace Go.Proofs.YtioefecijidgkaaAbs
open Go Go.RowKit
def StpX0 (P : Program) (x : XOp) (ctx : Bool) (e : Nat → SV) (M : List Blk) (r : SV) (M' : List Blk) : Prop :=
  match x.op.op with
  | .call f args => (∃ k caps ps, callee (strip ctx (raw e f)) = some (k, caps) ∧ ptsOf (fun y => strip ctx (raw e y)) args = some ps ∧ ∀ N, CallR P N k (ps ++ caps) r N) ∧ M' = M
  | o => (∀ b ∈ foot e ctx x.n o, b ∈ x.F) ∧ (isW o = true → x.w = true) ∧ ∃ c, outX x.n e M ctx o = some (r, M', c) ∧ c
def StpX (P : Program) (x : XOp) (e : Nat → SV) (M : List Blk) (r : SV) (M' : List Blk) : Prop := Gd e M M' x.op.gd r (fun c r0 => StpX0 P x c e M r0 M')
def runX (P : Program) : List XOp → St → (St → Prop) → Prop
  | [], s, K => K s
  | x :: xs, s, K => ∃ r M', StpX P x s.env s.M r M' ∧ runX P xs ⟨put s.env x.op.dst r, M'⟩ K
def commX (x y : XOp) : Bool := apartL x.op y.op && ((!x.w && !y.w) || x.F.all fun b => !y.F.contains b)
/-- All pairs whose order is left open may be turned. -/
def pairsX (T : List (List Nat)) (xs : List XOp) : Bool :=
  (List.range xs.length).all fun i => (List.range i).all fun k => (T.getD i []).contains k || match xs[k]?, xs[i]? with | some y, some x => commX y x | _, _ => false
theorem pairsX_spec {T : List (List Nat)} {xs : List XOp} (h : pairsX T xs = true) {i k : Nat} {x y : XOp} (hx : xs[i]? = some x) (hy : xs[k]? = some y) (hk : k < i) : (T.getD i []).contains k = true ∨ commX y x = true := by
  have h1 := List.all_eq_true.1 h i (List.mem_range.2 (List.getElem?_eq_some_iff.1 hx).1)
  have h2 := List.all_eq_true.1 h1 k (List.mem_range.2 hk)
  simpa only [hx, hy, Bool.or_eq_true] using h2
theorem locX0 {P : Program} {x : XOp} {ctx : Bool} {e : Nat → SV} {M M' : List Blk} {r : SV} (h : StpX0 P x ctx e M r M') :
    ∃ f : Option (Nat × Blk), M' = ap f M ∧ (x.w = false → f = none) ∧ (∀ b X, f = some (b, X) → b ∈ x.F) ∧ ∀ M2 : List Blk, (∀ b ∈ x.F, M2[b]? = M[b]?) → StpX0 P x ctx e M2 r (ap f M2) := by
  unfold StpX0 at h
  split at h
  · rename_i f args hop
    obtain ⟨h1, rfl⟩ := h
    refine ⟨none, rfl, fun _ => rfl, fun b X h => (by cases h), fun M2 _ => ?_⟩
    unfold StpX0
    rw [hop]
    exact ⟨h1, rfl⟩
  · rename_i hop
    obtain ⟨hF, hw, c, h1, h2⟩ := h
    obtain ⟨f, k1, k2, k3, k4⟩ := outX_loc h1
    refine ⟨f, k1, fun hh => k2 ?_, fun b X hb => hF b (k3 b X hb), fun M2 hM => ?_⟩
    · cases hi : isW x.op.op with
      | false => rfl
      | true => rw [hw hi] at hh; cases hh
    · unfold StpX0
      split
      · rename_i f' args' hop'
        exact absurd hop' (hop _ _)
      · exact ⟨hF, hw, c, k4 M2 (fun b hb => hM b (hF b hb)), h2⟩
theorem locX {P : Program} {x : XOp} {e : Nat → SV} {M M' : List Blk} {r : SV} (h : StpX P x e M r M') :
    ∃ f : Option (Nat × Blk), M' = ap f M ∧ (x.w = false → f = none) ∧ (∀ b X, f = some (b, X) → b ∈ x.F) ∧ ∀ M2 : List Blk, (∀ b ∈ x.F, M2[b]? = M[b]?) → StpX P x e M2 r (ap f M2) := by
  unfold StpX Gd at h
  split at h
  · rename_i hg
    obtain ⟨f, k1, k2, k3, k4⟩ := locX0 h
    refine ⟨f, k1, k2, k3, fun M2 hM => ?_⟩
    unfold StpX Gd
    rw [hg]
    exact k4 M2 hM
  · rename_i g want hg
    obtain ⟨c, r0, h1, rfl, h2, h3⟩ := h
    cases c with
    | true =>
      obtain ⟨f, k1, k2, k3, k4⟩ := locX0 (h2 rfl)
      refine ⟨f, k1, k2, k3, fun M2 hM => ?_⟩
      unfold StpX Gd
      rw [hg]
      exact ⟨true, r0, h1, rfl, fun _ => k4 M2 hM, fun h => by cases h⟩
    | false =>
      obtain rfl := h3 rfl
      refine ⟨none, rfl, fun _ => rfl, fun b X h => (by cases h), fun M2 _ => ?_⟩
      unfold StpX Gd
      rw [hg]
      exact ⟨false, r0, h1, rfl, fun h => (by cases h), fun _ => rfl⟩
theorem foot_congr {e e' : Nat → SV} {ctx : Bool} {n : Nat} {o : O} (h : ∀ x ∈ opnds o, raw e x = raw e' x) : foot e ctx n o = foot e' ctx n o := by
  cases o with
  | ld g sz x => have h1 : raw e x = raw e' x := h x (by simp [opnds]); simp only [foot, h1]
  | nilck x => have h1 : raw e x = raw e' x := h x (by simp [opnds]); simp only [foot, h1]
  | fa f x => have h1 : raw e x = raw e' x := h x (by simp [opnds]); simp only [foot, h1]
  | len x => have h1 : raw e x = raw e' x := h x (by simp [opnds]); simp only [foot, h1]
  | cap x => have h1 : raw e x = raw e' x := h x (by simp [opnds]); simp only [foot, h1]
  | slc sz x lo hi => have h1 : raw e x = raw e' x := h x (by simp [opnds]); simp only [foot, h1]
  | s3 x lo hi mx => have h1 : raw e x = raw e' x := h x (by simp [opnds]); simp only [foot, h1]
  | ia sz x i => have h1 : raw e x = raw e' x := h x (by simp [opnds]); simp only [foot, h1]
  | st sz x y => have h1 : raw e x = raw e' x := h x (by simp [opnds]); simp only [foot, h1]
  | clr sz z x => have h1 : raw e x = raw e' x := h x (by simp [opnds]); simp only [foot, h1]
  | nxt x => have h1 : raw e x = raw e' x := h x (by simp [opnds]); simp only [foot, h1]
  | b2s x => have h1 : raw e x = raw e' x := h x (by simp [opnds]); simp only [foot, h1]
  | aps t x y => have h1 : raw e x = raw e' x := h x (by simp [opnds]); simp only [foot, h1]
  | app t sz b z x y => have h1 : raw e x = raw e' x := h x (by simp [opnds]); have h2 : raw e y = raw e' y := h y (by simp [opnds]); simp only [foot, h1, h2]
  | cpy sz x y => have h1 : raw e x = raw e' x := h x (by simp [opnds]); have h2 : raw e y = raw e' y := h y (by simp [opnds]); simp only [foot, h1, h2]
  | _ => rfl
theorem outX_congr {e e' : Nat → SV} {M : List Blk} {ctx : Bool} {n : Nat} {o : O} (h : ∀ x ∈ opnds o, raw e x = raw e' x) : outX n e M ctx o = outX n e' M ctx o := by
  cases o with
  | bsl t sz len z ps =>
    simp only [outX]
    rw [fillRows_congr (f := fun x => strip ctx (raw e x)) (g := fun x => strip ctx (raw e' x)) (fun p hp => by show strip ctx _ = strip ctx _; rw [h p.2 (List.mem_map.2 ⟨p, hp, rfl⟩)])]
  | alloc t sz z => rfl
  | box t sz x => have h1 : raw e x = raw e' x := h x (by simp [opnds]); simp only [outX, h1]
  | mks t sz by_ z x => have h1 : raw e x = raw e' x := h x (by simp [opnds]); simp only [outX, h1]
  | call f as => rfl
  | rng x => rfl
  | apz t sz by_ z x y => rfl
  | _ => exact out_congr h
theorem stpX0_congr {P : Program} {x : XOp} {ctx : Bool} {e e' : Nat → SV} {M M' : List Blk} {r : SV} (h : ∀ y ∈ opnds x.op.op, raw e y = raw e' y) (hs : StpX0 P x ctx e M r M') : StpX0 P x ctx e' M r M' := by
  unfold StpX0 at hs ⊢
  split at hs
  · rename_i f args hop
    rw [hop] at h
    have h1 := ptsOf_congr (f := fun y => strip ctx (raw e y)) (g := fun y => strip ctx (raw e' y)) (xs := args) (fun y hy => by show strip ctx _ = strip ctx _; rw [h y (by simp [opnds, hy])])
    have h2 : raw e f = raw e' f := h f (by simp [opnds])
    rw [← h1, ← h2]
    exact hs
  · rename_i hop
    rw [foot_congr h, outX_congr h] at hs
    exact hs
theorem stpX_congr {P : Program} {x : XOp} {e e' : Nat → SV} {M M' : List Blk} {r : SV} (h : ∀ i ∈ looks x.op, e i = e' i) (hs : StpX P x e M r M') : StpX P x e' M r M' := by
  have h1 : ∀ y ∈ opnds x.op.op, raw e y = raw e' y := slots_raw (fun i hi => h i (List.mem_append_left _ hi))
  unfold StpX Gd at hs ⊢
  cases hg : x.op.gd with
  | none => rw [hg] at hs; exact stpX0_congr h1 hs
  | some gw =>
    obtain ⟨g, want⟩ := gw
    rw [hg] at hs
    obtain ⟨c, r0, h2, h3, h4, h5⟩ := hs
    have h6 : e g = e' g := h g (by unfold looks; rw [hg]; simp)
    exact ⟨c, r0, by rw [← h6]; exact h2, h3, fun hc => stpX0_congr h1 (h4 hc), h5⟩
theorem ap_get {f : Option (Nat × Blk)} {M : List Blk} {b : Nat} (h : ∀ b' X, f = some (b', X) → b' ≠ b) : (ap f M)[b]? = M[b]? := by
  cases f with
  | none => rfl
  | some q => obtain ⟨b', X⟩ := q; exact List.getElem?_set_ne (h b' X rfl)
theorem commX_run {P : Program} {x y : XOp} {e : Nat → SV} {M M1 M2 : List Blk} {r r2 : SV} (h : commX x y = true) (h1 : StpX P x e M r M1) (h2 : StpX P y (put e x.op.dst r) M1 r2 M2) :
    ∃ N, StpX P y e M r2 N ∧ StpX P x (put e y.op.dst r2) N r M2 ∧ put (put e x.op.dst r) y.op.dst r2 = put (put e y.op.dst r2) x.op.dst r := by
  unfold commX at h
  simp only [Bool.and_eq_true, Bool.or_eq_true, Bool.not_eq_true'] at h
  obtain ⟨ha, hc⟩ := h
  obtain ⟨a1, a2, a3⟩ := apartL_spec ha
  have hy : StpX P y e M1 r2 M2 := stpX_congr (fun i hi => put_ne (fun d hd hh => a1 d hd (hh ▸ hi))) h2
  have back : ∀ {N N'}, StpX P x e N r N' → StpX P x (put e y.op.dst r2) N r N' := fun hh => stpX_congr (fun i hi => (put_ne (fun d hd h3 => a3 d hd (h3 ▸ hi))).symm) hh
  have hp : put (put e x.op.dst r) y.op.dst r2 = put (put e y.op.dst r2) x.op.dst r := put_comm a2
  obtain ⟨f1, k1, k2, k3, k4⟩ := locX h1
  obtain ⟨f2, l1, l2, l3, l4⟩ := locX hy
  rcases hc with ⟨hx, hy'⟩ | hd
  · obtain rfl := k2 hx
    obtain rfl := l2 hy'
    subst k1
    subst l1
    exact ⟨_, l4 _ (fun _ _ => rfl), back (k4 _ (fun _ _ => rfl)), hp⟩
  · have hd : ∀ b, b ∈ x.F → b ∉ y.F := fun b hb => by
      have := List.all_eq_true.1 hd b hb
      simpa using this
    subst k1
    subst l1
    have e1 := l4 M (fun b hb => (ap_get (fun b' X hf => fun e => hd b' (k3 b' X hf) (e ▸ hb))).symm)
    have e2 := k4 (ap f2 M) (fun b hb => ap_get (fun b' X hf => fun e => hd b hb (e ▸ l3 b' X hf)))
    refine ⟨_, e1, ?_, hp⟩
    have e3 : ap f1 (ap f2 M) = ap f2 (ap f1 M) := by
      cases f1 with
      | none => rfl
      | some q =>
        cases f2 with
        | none => rfl
        | some q2 =>
          obtain ⟨b1, X1⟩ := q
          obtain ⟨b2, X2⟩ := q2
          exact List.set_comm _ _ (fun e => hd b1 (k3 b1 X1 rfl) (e ▸ l3 b2 X2 rfl))
    rw [← e3]
    exact back e2
theorem bubbleX {P : Program} {y : XOp} {v : List XOp} : ∀ {u : List XOp} {s : St} {K : St → Prop}, (∀ x ∈ u, commX x y = true) → runX P (u ++ y :: v) s K → runX P (y :: (u ++ v)) s K
  | [], s, K, h, hr => hr
  | x :: u, s, K, h, hr => by
    obtain ⟨r, M1, h1, h2⟩ := hr
    have ih := bubbleX (u := u) (fun z hz => h z (by simp [hz])) h2
    obtain ⟨r2, M2, h3, h4⟩ := ih
    obtain ⟨N, k1, k2, k3⟩ := commX_run (h x (by simp)) h1 h3
    refine ⟨r2, N, k1, r, M2, k2, ?_⟩
    rw [← k3]
    exact h4
/-! ### It is sound -/
def isAl : O → Bool
  | .alloc .. | .box .. | .bsl .. | .mks .. => true
  | _ => false
def kAl : Op → Bool
  | .alloc .. | .box .. | .buildSlice .. | .makeSlice .. => true
  | _ => false
theorem compO_al {P : Program} {op : Op} {o : O} (h : compO P op = some o) (ha : isAl o = true) : kAl op = true := by
  cases op with
  | alloc => rfl
  | box => rfl
  | buildSlice => rfl
  | makeSlice => rfl
  | call cl =>
    exfalso
    obtain ⟨callee, args, ts⟩ := cl
    cases callee with
    | value f' =>
      simp only [compO, Option.map_eq_some_iff, Option.bind_eq_some_iff] at h
      obtain ⟨F, hF, as', has, rfl⟩ := h
      cases ha
    | invoke x m => simp [compO] at h
    | builtin b =>
      cases b <;> simp only [compO, reduceCtorEq] at h
      all_goals (repeat' (first | (injection h with h; subst h; cases ha; done) | (split at h) | (simp only [Option.bind_eq_some_iff, Option.map_eq_some_iff] at h; obtain ⟨_, _, h⟩ := h) | (cases h; done) | (obtain ⟨_, _, h⟩ := h) | (subst h; cases ha; done))) <;> first | (cases ha; done) | simp_all [isAl]
  | binOp op t x y u =>
    exfalso
    simp only [compO, Option.bind_eq_some_iff, Option.map_eq_some_iff] at h
    obtain ⟨X, _, Y, _, h⟩ := h
    unfold binC at h
    split at h <;> (subst h; cases ha)
  | slice t x lo hi mx =>
    exfalso
    cases mx with
    | none => 
      simp only [compO, Option.bind_eq_some_iff] at h
      obtain ⟨_, _, _, _, _, _, h⟩ := h
      split at h
      · injection h with h; subst h; cases ha
      · simp only [Option.bind_eq_some_iff, Option.map_eq_some_iff] at h
        obtain ⟨_, _, _, _, h⟩ := h
        subst h; cases ha
    | some m =>
      simp only [compO, Option.bind_eq_some_iff] at h
      obtain ⟨_, _, _, _, _, _, _, _, _, _, _, _, h⟩ := h
      split at h
      · injection h with h; subst h; cases ha
      · cases h
  | convert src dt x =>
    exfalso
    simp only [compO] at h
    split at h
    · simp only [Option.map_eq_some_iff] at h
      obtain ⟨_, _, h⟩ := h
      subst h; cases ha
    · simp only [Option.bind_eq_some_iff, Option.map_eq_some_iff] at h
      obtain ⟨_, _, _, _, _, _, h⟩ := h
      subst h; cases ha
  | _ =>
    exfalso
    simp only [compO] at h
    first
    | (cases h; done)
    | ((repeat' (first | (split at h) | (simp only [Option.bind_eq_some_iff, Option.map_eq_some_iff] at h) | (cases h; done) | (obtain ⟨_, _, h⟩ := h) | (subst h; cases ha; done))) <;> simp_all [isAl])
section
variable {P : Program} {I : Im} {σ : List Plc} {e : Nat → SV} {M M' : List Blk} {w : World} {a : Act} {r : SV} {c : Prop} {dst : Option Tmp} {ty : TypeId} {pos : String} {after : Array Edge} {gd : Option (Nat × Bool)}
theorem outX_sound {op : Op} {o : O} {k : Nat} (hco : compO P op = some o) (hm : Mem I σ M w) (he : RelE I σ e a) (hd : stOk o dst = true)
    (h : outX k e M true o = some (r, M', c)) (hc : c) : Turns P I σ M ⟨dst, op, ty, pos, after, gd⟩ a w r M' := by
  by_cases ha : isAl o = true
  · have hk := compO_al hco ha
    cases op <;> first | (cases hk; done) | skip
    case alloc t =>
      simp only [compO, Option.map_eq_some_iff, Option.bind_eq_some_iff] at hco
      obtain ⟨sz, hz, z, hzz, rfl⟩ := hco
      simp only [outX, Option.some.injEq, Prod.mk.injEq] at h
      obtain ⟨rfl, rfl, rfl⟩ := h
      exact (s_allocT hm hz hzz).2 k hc
    case box t x =>
      simp only [compO, Option.map_eq_some_iff, Option.bind_eq_some_iff] at hco
      obtain ⟨sz, hz, X, hX, rfl⟩ := hco
      simp only [outX] at h
      split at h
      · rename_i q hq
        simp only [Option.some.injEq, Prod.mk.injEq] at h
        obtain ⟨rfl, rfl, rfl⟩ := h
        exact (s_boxT hm he hX hq hc.1).2 k hc.2
      · cases h
    case buildSlice t len parts =>
      simp only [compO, Option.bind_eq_some_iff] at hco
      obtain ⟨el, hel, sz, hz, z, hzz, ps, hp, hco⟩ := hco
      split at hco
      · rename_i hb
        injection hco with hco
        subst hco
        simp only [Bool.and_eq_true, decide_eq_true_eq, beq_iff_eq] at hb
        obtain ⟨⟨rfl, hb2⟩, _⟩ := hb
        simp only [outX, fillRows, List.replicate_zero, Option.some.injEq, Prod.mk.injEq] at h
        obtain ⟨rfl, rfl, rfl⟩ := h
        exact (s_bsl0T (z := z) hm hel hz hb2).2 k hc.2
      split at hco
      · rename_i hb
        injection hco with hco
        subst hco
        simp only [Bool.and_eq_true, decide_eq_true_eq] at hb
        simp only [outX] at h
        split at h
        · rename_i l c' hf
          simp only [Option.some.injEq, Prod.mk.injEq] at h
          obtain ⟨rfl, rfl, rfl⟩ := h
          exact (s_bslT hm he hel hz hzz hp hb.1.1 hb.1.2 hb.2 hf hc.1).2 k hc.2
        · cases h
      · cases hco
    case makeSlice t x y =>
      simp only [compO, Option.bind_eq_some_iff] at hco
      obtain ⟨el, hel, i, hi, z, hzz, X, hX, Y, hY, hco⟩ := hco
      split at hco
      · rename_i hcd
        simp only [Bool.and_eq_true, decide_eq_true_eq] at hcd
        injection hco with hco
        subst hco
        simp only [outX] at h
        split at h
        · rename_i ki n hl
          simp only [Option.some.injEq, Prod.mk.injEq] at h
          obtain ⟨rfl, rfl, rfl⟩ := h
          exact (s_mksT hm he hX hY hcd.1.1 hel hi hzz hcd.1.2 hcd.2 hl hc.1).2 k hc.2
        · cases h
      · cases hco
  · have hx : outX k e M true o = out e M true o ∧ isCall o = false ∨ outX k e M true o = none := by cases o <;> first | exact .inl ⟨rfl, rfl⟩ | exact .inr rfl | exact absurd rfl ha
    rcases hx with ⟨hx, hn⟩ | hx
    · rw [hx] at h
      exact out_sound hco hn hm he hd h hc
    · rw [hx] at h; cases h
theorem stpX_sound {o : Oper} {x : XOp} {ops : Array Oper} (hl : compL P a.tmps.size ops o = some x.op) (hG : GI P I) (hm : Mem I σ M w) (he : RelE I σ e a) (hs : StpX P x e M r M') {K : Act → World → Prop} {Q : Exit → Act → World → Prop}
    (hK : ∀ v w', After I σ M w (put e x.op.dst r) M' a (a.put o.dst v) w' → K (a.put o.dst v) w') : if Region.wanted o (yielded ops a.tmps) = true then o.wp P a w K Q else K (a.put o.dst undef) w := by
  refine stp_gen hl hm he hs (fun hco hst hd r0 h0 K Q hK => ?_) hK
  unfold StpX0 at h0
  split at h0
  · rename_i f args hop
    obtain ⟨⟨k, caps, ps, h1, h2, h3⟩, rfl⟩ := h0
    refine stp0_sound (d := true) hco hst hd hG hm he (r := r0) (M' := M') ?_ hK
    rw [hop]
    exact ⟨⟨k, caps, ps, h1, h2, h3 _⟩, fun _ => rfl⟩
  · obtain ⟨_, _, c, ho, hcc⟩ := h0
    obtain ⟨dst, op', ty, pos, after, gd⟩ := o
    obtain ⟨nx, I', σ', w', hrun, hrel, hev⟩ := (outX_sound (ty := ty) (pos := pos) (after := after) (gd := gd) hco hm he hst ho hcc).goes
    unfold Oper.wp
    rw [hrun]
    have he' := RelE_mono hev.extI hev.extP he
    rcases hrel with ⟨v, rfl, hrv⟩ | ⟨rfl, rfl⟩
    · exact hK v w' ⟨I', σ', hev, relE_put he' hd (.inr hrv), put_defers, put_size⟩
    · exact hK undef w' ⟨I', σ', hev, relE_put he' hd (.inr trivial), put_defers, put_size⟩
end
section
variable {P : Program} {n m : Nat} {I0 : Im} {σ0 : List Plc} {M0 : List Blk} {w0 : World} {s : St} {a : Act} {w : World} {ops : Array Oper} {Q : Exit → Act → World → Prop}
theorem sim_stepX {o : Oper} {x : XOp} {r : SV} {M' : List Blk} (hG : GI P I0) (hl : compL P n ops o = some x.op) (hs : Sim n I0 σ0 M0 w0 s a w) (hst : StpX P x s.env s.M r M') {K : Act → World → Prop}
    (hK : ∀ v w', Sim n I0 σ0 M0 w0 ⟨put s.env x.op.dst r, M'⟩ (a.put o.dst v) w' → K (a.put o.dst v) w') : if Region.wanted o (yielded ops a.tmps) = true then o.wp P a w K Q else K (a.put o.dst undef) w := by
  obtain ⟨I, σ, hev, he, hd, hn⟩ := hs
  subst hn
  refine stpX_sound hl (hG.ext hev.extI) hev.mem he hst (fun v w' hA => hK v w' ?_)
  obtain ⟨I', σ', hev', he', hd', hn'⟩ := hA
  exact ⟨I', σ', hev.trans hev', he', hd'.trans hd, hn'⟩
theorem okTab_spec {T : List (List Nat)} (hok : okTab ops T = true) {i : Nat} {o : Oper} (ho : ops[i]? = some o) :
    (o.after.toList.all fun e => !Region.binds .any e || decide (e.on < i)) = true ∧ ((T.getD i []).all fun k => o.after.toList.any fun e => Region.binds .any e && (e.on == k || (T.getD e.on []).contains k)) = true := by
  have h1 := List.all_eq_true.1 hok i (List.mem_range.2 (Array.getElem?_eq_some_iff.1 ho).1)
  simp only [ho, Bool.and_eq_true] at h1
  exact h1
theorem tab_listedX {T : List (List Nat)} (hok : okTab ops T = true) {listed : Array Bool} (hcl : Cl ops listed) :
    ∀ (i : Nat) (o : Oper), ops[i]? = some o → (∀ e ∈ o.after, Region.binds .any e = true → listed.getD e.on false = true) → ∀ k ∈ T.getD i [], listed.getD k false = true := by
  intro i
  induction i using Nat.strongRecOn with
  | _ i ih =>
    intro o ho hall k hk
    have h1 := okTab_spec hok ho
    have h2 := List.all_eq_true.1 h1.2 k hk
    obtain ⟨e, he, h3⟩ := List.any_eq_true.1 h2
    simp only [Bool.and_eq_true, Bool.or_eq_true, beq_iff_eq] at h3
    have he' : e ∈ o.after := by simpa using he
    rcases h3.2 with h4 | h4
    · rw [← h4]; exact hall e he' h3.1
    · have h5 := List.all_eq_true.1 h1.1 e he
      simp only [h3.1, Bool.not_true, Bool.false_or, decide_eq_true_eq] at h5
      have hi : i < ops.size := (Array.getElem?_eq_some_iff.1 ho).1
      have hlt : e.on < ops.size := by omega
      have hp : ops[e.on]? = some ops[e.on] := Array.getElem?_eq_getElem hlt
      exact ih e.on h5 _ hp (hcl e.on _ hp (hall e he' h3.1)) k (by simpa using h4)
theorem any_soundX {xs : List XOp} {T : List (List Nat)} (hG : GI P I0) (hok : okTab ops T = true) (hpr : ∀ (i k : Nat) (x y : XOp), xs[i]? = some x → xs[k]? = some y → k < i → (T.getD i []).contains k = true ∨ commX y x = true) {K : St → Prop} (hQ : ∀ s a w, Sim n I0 σ0 M0 w0 s a w → K s → Q .normal a w) :
    ∀ (fuel : Nat) (listed : Array Bool) (rem : List (Nat × XOp)) (s : St) (a : Act) (w : World), rem.length = fuel → (∀ p ∈ rem, xs[p.1]? = some p.2 ∧ ∃ o, ops[p.1]? = some o ∧ compL P n ops o = some p.2.op) →
      rem.Pairwise (fun p q => p.1 < q.1) → (∀ i, i < ops.size → (listed.getD i true = false ↔ ∃ x, (i, x) ∈ rem)) → listed.size = ops.size → Cl ops listed → runX P (rem.map (·.2)) s K → Sim n I0 σ0 M0 w0 s a w → wpAny P .any ops Q fuel listed a w
  | 0, listed, rem, s, a, w, hl, hp, hpw, hli, hsz, hcl, hr, hs => by
    obtain rfl : rem = [] := List.eq_nil_of_length_eq_zero hl
    refine ⟨?_, hQ s a w hs hr⟩
    cases h : Region.ready .any ops listed with
    | nil => rfl
    | cons i l =>
      exfalso
      have hi : i ∈ Region.ready .any ops listed := by rw [h]; simp
      obtain ⟨h1, o, ho, _⟩ := mem_ready.1 hi
      obtain ⟨x, hx⟩ := (hli i (Array.getElem?_eq_some_iff.1 ho).1).1 h1
      simp at hx
  | fuel + 1, listed, rem, s, a, w, hl, hp, hpw, hli, hsz, hcl, hr, hs => by
    have unl : ∀ j, j < ops.size → listed.getD j false = false → listed.getD j true = false := by
      intro j hj h
      have hj' : j < listed.size := by omega
      simp [hj'] at h ⊢
      exact h
    refine ⟨fun hnil => ?_, fun i hi => ?_⟩
    · exfalso
      obtain ⟨p, rem', rfl⟩ : ∃ p l, rem = p :: l := by cases rem with | nil => simp at hl | cons p l => exact ⟨p, l, rfl⟩
      obtain ⟨_, o, ho, _⟩ := hp p (by simp)
      have hlt := (Array.getElem?_eq_some_iff.1 ho).1
      have hun := (hli p.1 hlt).2 ⟨p.2, by simp⟩
      have hok1 := okTab_spec hok ho
      have : p.1 ∈ Region.ready .any ops listed := by
        refine mem_ready.2 ⟨hun, o, ho, fun e he hb => ?_⟩
        have h5 := List.all_eq_true.1 hok1.1 e (by simpa using he)
        simp only [hb, Bool.not_true, Bool.false_or, decide_eq_true_eq] at h5
        cases hle : listed.getD e.on false with
        | true => rfl
        | false =>
          exfalso
          obtain ⟨x, hx⟩ := (hli e.on (by omega)).1 (unl e.on (by omega) hle)
          rcases List.mem_cons.1 hx with hx | hx
          · rw [← hx] at h5; simp at h5
          · have := (List.pairwise_cons.1 hpw).1 _ hx
            simp only [] at this
            omega
      rw [hnil] at this
      cases this
    · obtain ⟨h1, o, ho, hall⟩ := mem_ready.1 hi
      have hlt := (Array.getElem?_eq_some_iff.1 ho).1
      obtain ⟨x, hx⟩ := (hli i hlt).1 h1
      obtain ⟨u, v, rfl⟩ := List.append_of_mem hx
      obtain ⟨hox, o', ho', hco⟩ := hp (i, x) (by simp)
      obtain rfl : o = o' := by rw [ho] at ho'; injection ho'
      have hcomm : ∀ y ∈ u.map (·.2), commX y x = true := by
        intro y hy
        obtain ⟨q, hq, rfl⟩ := List.mem_map.1 hy
        have hqlt : q.1 < i := (List.pairwise_append.1 hpw).2.2 q hq (i, x) (by simp)
        obtain ⟨hoq, oq, hopq, _⟩ := hp q (by simp [hq])
        rcases hpr i q.1 x q.2 hox hoq hqlt with h2 | h2
        · exfalso
          have h3 := tab_listedX hok hcl i o ho hall q.1 (by simpa using h2)
          have h4 := (hli q.1 (by omega)).2 ⟨q.2, by simp [hq]⟩
          have h5 : q.1 < listed.size := by omega
          simp [h5] at h3 h4
          rw [h3] at h4
          cases h4
        · exact h2
      have hr2 := bubbleX (u := u.map (·.2)) (v := v.map (·.2)) hcomm (by simpa using hr)
      obtain ⟨r, M', hst, hr3⟩ := hr2
      refine wpOp_of ho (sim_stepX hG hco hs hst (fun z w' hS => ?_))
      have hset : ∀ j, j < ops.size → (listed.setIfInBounds i true).getD j true = if j = i then true else listed.getD j true := by
        intro j hj
        by_cases hji : j = i
        · subst hji
          have : j < listed.size := by omega
          simp [this]
        · rw [if_neg hji, getD_set_ne true (fun e => hji e.symm)]
      refine any_soundX hG hok hpr hQ fuel (listed.setIfInBounds i true) (u ++ v) _ _ _ (by simp at hl ⊢; omega) (fun p hpm => hp p (by simp at hpm ⊢; rcases hpm with h | h; exact .inl h; exact .inr (.inr h))) ?_ (fun j hj => ?_) (by simp [hsz]) ?_ (by simpa using hr3) hS
      · rw [List.pairwise_append] at hpw ⊢
        exact ⟨hpw.1, (List.pairwise_cons.1 hpw.2.1).2, fun p hp q hq => hpw.2.2 p hp q (by simp [hq])⟩
      · rw [hset j hj]
        by_cases hji : j = i
        · rw [if_pos hji]
          constructor
          · intro h; cases h
          · rintro ⟨y, hy⟩
            exfalso
            subst hji
            rcases List.mem_append.1 hy with hy | hy
            · have := (List.pairwise_append.1 hpw).2.2 _ hy (j, x) (by simp)
              simp at this
            · have := (List.pairwise_cons.1 (List.pairwise_append.1 hpw).2.1).1 _ hy
              simp at this
        · rw [if_neg hji, hli j hj]
          constructor
          · rintro ⟨y, hy⟩
            refine ⟨y, ?_⟩
            simp at hy ⊢
            rcases hy with hy | ⟨hy, _⟩ | hy
            · exact .inl hy
            · exact absurd hy hji
            · exact .inr hy
          · rintro ⟨y, hy⟩
            refine ⟨y, ?_⟩
            simp at hy ⊢
            rcases hy with hy | hy
            · exact .inl hy
            · exact .inr (.inr hy)
      · intro j oj hoj hlj e he hb
        by_cases hji : j = i
        · subst hji
          obtain rfl : o = oj := by rw [ho] at hoj; injection hoj
          exact getD_set_true (hall e he hb)
        · rw [getD_set_ne false (fun e => hji e.symm)] at hlj
          exact getD_set_true (hcl j oj hoj hlj e he hb)
end
end Go.Proofs.YtioefecijidgkaaAbs
