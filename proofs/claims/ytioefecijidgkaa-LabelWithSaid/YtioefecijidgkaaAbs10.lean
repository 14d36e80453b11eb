/- The abstract machine: regions, in the text's order or in any that the region allows. -/
import Derived.Test.YtioefecijidgkaaAbs9
set_option linter.unusedVariables false
set_option linter.unusedSimpArgs false
namespace Go.Proofs.YtioefecijidgkaaAbs
open Go Go.RowKit

def opnds : O → List Opd
  | .mv x | .box _ _ x | .ld _ _ x | .nilck x | .un _ x | .cvi _ x | .fa _ x | .fld _ _ _ x | .ex x _ | .len x | .lens x | .cap x | .clr _ _ x | .b2s x | .rng x | .nxt x | .mks _ _ _ _ x => [x]
  | .pick c a b => [c, a, b]
  | .alloc .. => []
  | .bld _ ps => ps.map fun p => p.2.2
  | .bsl _ _ _ _ ps => ps.map fun p => p.2
  | .st _ a x | .bin _ a x | .ia _ a x | .ix a x | .mn a x | .mx a x | .app _ _ _ _ a x | .cpy _ a x | .apz _ _ _ _ a x | .aps _ a x | .eqa _ _ a x | .eqb _ a x => [a, x]
  | .mkf _ cs => cs
  | .slc _ x lo hi | .sls x lo hi => x :: (lo.toList ++ hi.toList)
  | .s3 x lo hi mx => x :: (lo.toList ++ hi.toList ++ mx.toList)
  | .call f as => f :: as
def slotsOf : List Opd → List Nat
  | [] => []
  | .t i :: xs => i :: slotsOf xs
  | .k _ :: xs => slotsOf xs
def looks (o : OpL) : List Nat := slotsOf (opnds o.op) ++ (match o.gd with | some (g, _) => [g] | none => [])
def apartL (x y : OpL) : Bool :=
  (match x.dst with | some d => !(looks y).contains d && y.dst != some d | none => true) && (match y.dst with | some d => !(looks x).contains d | none => true)
def commOk (x y : OpL) : Bool := apartL x y && (cls x.op == 0 || cls y.op == 0 || (decide (cls x.op ≤ 1) && decide (cls y.op ≤ 1)))
theorem slots_raw {e e' : Nat → SV} : ∀ {l : List Opd}, (∀ i ∈ slotsOf l, e i = e' i) → ∀ x ∈ l, raw e x = raw e' x
  | [], _, x, hx => by simp at hx
  | .t i :: l, h, x, hx => by
    rcases List.mem_cons.1 hx with rfl | hx
    · exact h i (by simp [slotsOf])
    · exact slots_raw (l := l) (fun j hj => h j (by simp [slotsOf, hj])) x hx
  | .k q :: l, h, x, hx => by
    rcases List.mem_cons.1 hx with rfl | hx
    · rfl
    · exact slots_raw (l := l) (fun j hj => h j (by simpa [slotsOf] using hj)) x hx
theorem fillParts_congr {f g : Opd → SV} : ∀ {ps : List (Nat × Nat × Opd)} {l : List AV}, (∀ p ∈ ps, f p.2.2 = g p.2.2) → fillParts f l ps = fillParts g l ps
  | [], l, h => rfl
  | (off, sz, x) :: ps, l, h => by
    have h0 : f x = g x := h (off, sz, x) (by simp)
    have ih := fun l' => fillParts_congr (ps := ps) (l := l') (fun p hp => h p (by simp [hp]))
    simp only [fillParts, h0, ih]
theorem fillRows_congr {f g : Opd → SV} {sz : Nat} : ∀ {ps : List (Nat × Opd)} {l : List (List AV)}, (∀ p ∈ ps, f p.2 = g p.2) → fillRows f sz l ps = fillRows g sz l ps
  | [], l, h => rfl
  | (i, x) :: ps, l, h => by
    have h0 : f x = g x := h (i, x) (by simp)
    have ih := fun l' => fillRows_congr (sz := sz) (ps := ps) (l := l') (fun p hp => h p (by simp [hp]))
    simp only [fillRows, h0, ih]
theorem capsOf_congr {f g : Opd → SV} : ∀ {xs : List Opd}, (∀ x ∈ xs, f x = g x) → capsOf f xs = capsOf g xs
  | [], h => rfl
  | x :: xs, h => by
    have h0 : f x = g x := h x (by simp)
    simp only [capsOf, h0, capsOf_congr (xs := xs) (fun y hy => h y (by simp [hy]))]
theorem ptsOf_congr {f g : Opd → SV} : ∀ {xs : List Opd}, (∀ x ∈ xs, f x = g x) → ptsOf f xs = ptsOf g xs
  | [], h => rfl
  | x :: xs, h => by
    have h0 : f x = g x := h x (by simp)
    simp only [ptsOf, h0, ptsOf_congr (xs := xs) (fun y hy => h y (by simp [hy]))]
theorem bnd_congr {f g : Opd → SV} {d : Int} : ∀ {x : Option Opd}, (∀ y ∈ x.toList, f y = g y) → bnd f d x = bnd g d x
  | none, h => rfl
  | some y, h => by simp only [bnd, h y (by simp)]
theorem out_congr {e e' : Nat → SV} {M : List Blk} {ctx : Bool} {o : O} (h : ∀ x ∈ opnds o, raw e x = raw e' x) : out e M ctx o = out e' M ctx o := by
  cases o with
  | bld z ps =>
    simp only [out]
    rw [fillParts_congr (f := fun x => strip ctx (raw e x)) (g := fun x => strip ctx (raw e' x)) (fun p hp => by show strip ctx _ = strip ctx _; rw [h p.2.2 (List.mem_map.2 ⟨p, hp, rfl⟩)])]
  | bsl t sz len z ps =>
    simp only [out]
    rw [fillRows_congr (f := fun x => strip ctx (raw e x)) (g := fun x => strip ctx (raw e' x)) (fun p hp => by show strip ctx _ = strip ctx _; rw [h p.2 (List.mem_map.2 ⟨p, hp, rfl⟩)])]
  | mkf f cs =>
    simp only [out]
    rw [capsOf_congr (f := fun x => strip ctx (raw e x)) (g := fun x => strip ctx (raw e' x)) (fun x hx => by show strip ctx _ = strip ctx _; rw [h x hx])]
  | slc sz x lo hi =>
    have hb : ∀ d, ∀ z ∈ [lo, hi], bnd (fun x => strip ctx (raw e x)) d z = bnd (fun x => strip ctx (raw e' x)) d z := fun d z hz => bnd_congr (fun y hy => by
      show strip ctx _ = strip ctx _
      rw [h y (by simp only [opnds, List.mem_cons, List.mem_append]; simp at hz; rcases hz with rfl | rfl; exact .inr (.inl hy); exact .inr (.inr hy))])
    have h0 : raw e x = raw e' x := h x (by simp [opnds])
    simp only [out, h0, hb _ lo (by simp), hb _ hi (by simp)]
  | sls x lo hi =>
    have hb : ∀ d, ∀ z ∈ [lo, hi], bnd (fun x => strip ctx (raw e x)) d z = bnd (fun x => strip ctx (raw e' x)) d z := fun d z hz => bnd_congr (fun y hy => by
      show strip ctx _ = strip ctx _
      rw [h y (by simp only [opnds, List.mem_cons, List.mem_append]; simp at hz; rcases hz with rfl | rfl; exact .inr (.inl hy); exact .inr (.inr hy))])
    have h0 : raw e x = raw e' x := h x (by simp [opnds])
    simp only [out, h0, hb _ lo (by simp), hb _ hi (by simp)]
  | s3 x lo hi mx =>
    have hb : ∀ d, ∀ z ∈ [lo, hi, mx], bnd (fun x => strip ctx (raw e x)) d z = bnd (fun x => strip ctx (raw e' x)) d z := fun d z hz => bnd_congr (fun y hy => by
      show strip ctx _ = strip ctx _
      rw [h y (by simp only [opnds, List.mem_cons, List.mem_append]; simp at hz; rcases hz with rfl | rfl | rfl; exact .inr (.inl (.inl hy)); exact .inr (.inl (.inr hy)); exact .inr (.inr hy))])
    have h0 : raw e x = raw e' x := h x (by simp [opnds])
    simp only [out, h0, hb _ lo (by simp), hb _ hi (by simp), hb _ mx (by simp)]
  | cpy sz x y =>
    have h1 : raw e x = raw e' x := h x (by simp [opnds])
    have h2 : raw e y = raw e' y := h y (by simp [opnds])
    simp only [out, h1, h2]
  | apz t sz by_ z x y =>
    have h1 : raw e x = raw e' x := h x (by simp [opnds])
    have h2 : raw e y = raw e' y := h y (by simp [opnds])
    simp only [out, h1, h2]
  | aps t x y =>
    have h1 : raw e x = raw e' x := h x (by simp [opnds])
    have h2 : raw e y = raw e' y := h y (by simp [opnds])
    simp only [out, h1, h2]
  | eqa ks neg x y =>
    have h1 : raw e x = raw e' x := h x (by simp [opnds])
    have h2 : raw e y = raw e' y := h y (by simp [opnds])
    simp only [out, h1, h2]
  | eqb neg x y =>
    have h1 : raw e x = raw e' x := h x (by simp [opnds])
    have h2 : raw e y = raw e' y := h y (by simp [opnds])
    simp only [out, h1, h2]
  | cap x => have h1 : raw e x = raw e' x := h x (by simp [opnds]); simp only [out, h1]
  | clr sz z x => have h1 : raw e x = raw e' x := h x (by simp [opnds]); simp only [out, h1]
  | b2s x => have h1 : raw e x = raw e' x := h x (by simp [opnds]); simp only [out, h1]
  | rng x => have h1 : raw e x = raw e' x := h x (by simp [opnds]); simp only [out, h1]
  | nxt x => have h1 : raw e x = raw e' x := h x (by simp [opnds]); simp only [out, h1]
  | mks t sz by_ z x => have h1 : raw e x = raw e' x := h x (by simp [opnds]); simp only [out, h1]
  | alloc t sz z => rfl
  | call f as => rfl
  | pick c a b =>
    have h1 : raw e c = raw e' c := h c (by simp [opnds])
    have h2 : raw e a = raw e' a := h a (by simp [opnds])
    have h3 : raw e b = raw e' b := h b (by simp [opnds])
    simp only [out, h1, h2, h3]
  | st sz x y =>
    have h1 : raw e x = raw e' x := h x (by simp [opnds])
    have h2 : raw e y = raw e' y := h y (by simp [opnds])
    simp only [out, h1, h2]
  | bin op x y =>
    have h1 : raw e x = raw e' x := h x (by simp [opnds])
    have h2 : raw e y = raw e' y := h y (by simp [opnds])
    simp only [out, h1, h2]
  | ia sz x y =>
    have h1 : raw e x = raw e' x := h x (by simp [opnds])
    have h2 : raw e y = raw e' y := h y (by simp [opnds])
    simp only [out, h1, h2]
  | ix x y =>
    have h1 : raw e x = raw e' x := h x (by simp [opnds])
    have h2 : raw e y = raw e' y := h y (by simp [opnds])
    simp only [out, h1, h2]
  | mn x y =>
    have h1 : raw e x = raw e' x := h x (by simp [opnds])
    have h2 : raw e y = raw e' y := h y (by simp [opnds])
    simp only [out, h1, h2]
  | mx x y =>
    have h1 : raw e x = raw e' x := h x (by simp [opnds])
    have h2 : raw e y = raw e' y := h y (by simp [opnds])
    simp only [out, h1, h2]
  | app t sz by_ z x y =>
    have h1 : raw e x = raw e' x := h x (by simp [opnds])
    have h2 : raw e y = raw e' y := h y (by simp [opnds])
    simp only [out, h1, h2]
  | mv x => have h1 : raw e x = raw e' x := h x (by simp [opnds]); simp only [out, h1]
  | box t sz x => have h1 : raw e x = raw e' x := h x (by simp [opnds]); simp only [out, h1]
  | ld g sz x => have h1 : raw e x = raw e' x := h x (by simp [opnds]); simp only [out, h1]
  | nilck x => have h1 : raw e x = raw e' x := h x (by simp [opnds]); simp only [out, h1]
  | un op x => have h1 : raw e x = raw e' x := h x (by simp [opnds]); simp only [out, h1]
  | cvi k x => have h1 : raw e x = raw e' x := h x (by simp [opnds]); simp only [out, h1]
  | fa off x => have h1 : raw e x = raw e' x := h x (by simp [opnds]); simp only [out, h1]
  | fld g off sz x => have h1 : raw e x = raw e' x := h x (by simp [opnds]); simp only [out, h1]
  | ex x i => have h1 : raw e x = raw e' x := h x (by simp [opnds]); simp only [out, h1]
  | len x => have h1 : raw e x = raw e' x := h x (by simp [opnds]); simp only [out, h1]
  | lens x => have h1 : raw e x = raw e' x := h x (by simp [opnds]); simp only [out, h1]
theorem out_cls0 {e : Nat → SV} {M M2 M' : List Blk} {ctx : Bool} {o : O} {r : SV} {c : Prop} (hk : cls o = 0) (h : out e M ctx o = some (r, M', c)) : M' = M ∧ out e M2 ctx o = some (r, M2, c) := by
  cases o <;> simp only [cls, reduceCtorEq] at hk <;> first | (exact absurd hk (by decide)) | skip
  all_goals
    simp only [out] at h ⊢
    first
    | (simp only [Option.some.injEq, Prod.mk.injEq] at h; obtain ⟨rfl, rfl, rfl⟩ := h; exact ⟨rfl, rfl⟩)
    | (split at h <;> first | (cases h; done) | (simp only [Option.some.injEq, Prod.mk.injEq] at h; obtain ⟨rfl, rfl, rfl⟩ := h; exact ⟨rfl, rfl⟩) | (split at h <;> first | (cases h; done) | (simp only [Option.some.injEq, Prod.mk.injEq] at h; obtain ⟨rfl, rfl, rfl⟩ := h; exact ⟨rfl, rfl⟩)))
    | (split at h <;> first | (cases h; done) | (split at h <;> first | (cases h; done) | (rename_i hk2; simp only [Option.some.injEq, Prod.mk.injEq] at h; obtain ⟨rfl, rfl, rfl⟩ := h; refine ⟨rfl, ?_⟩; simp only [hk2, if_true, if_false, Bool.false_eq_true])))
theorem out_cls1 {e : Nat → SV} {M M' : List Blk} {ctx : Bool} {o : O} {r : SV} {c : Prop} (hk : cls o ≤ 1) (h : out e M ctx o = some (r, M', c)) : M' = M := by
  by_cases h0 : cls o = 0
  · exact (out_cls0 (M2 := M) h0 h).1
  · cases o <;> simp only [cls] at hk h0 <;> first | (exact absurd rfl h0) | (exact absurd hk (by decide)) | skip
    all_goals
      simp only [out] at h
      repeat' (first | (cases h; done) | (simp only [Option.some.injEq, Prod.mk.injEq] at h; obtain ⟨_, rfl, _⟩ := h; rfl) | split at h)
theorem stp0_congr {P : Program} {d ctx : Bool} {o : O} {e e' : Nat → SV} {M M' : List Blk} {r : SV} (h : ∀ x ∈ opnds o, raw e x = raw e' x) (hs : Stp0 P d ctx o e M r M') : Stp0 P d ctx o e' M r M' := by
  by_cases hc : isCall o = true
  · cases o <;> first | (cases hc; done) | skip
    rename_i f as
    have h1 := ptsOf_congr (f := fun x => strip ctx (raw e x)) (g := fun x => strip ctx (raw e' x)) (xs := as) (fun x hx => by show strip ctx _ = strip ctx _; rw [h x (by simp [opnds, hx])])
    have h2 : raw e f = raw e' f := h f (by simp [opnds])
    show CallOk P M (strip ctx (raw e' f)) (ptsOf (fun x => strip ctx (raw e' x)) as) r M' ∧ (d = true → M' = M)
    rw [← h1, ← h2]
    exact hs
  · have : ∃ c, out e M ctx o = some (r, M', c) ∧ c := by cases o <;> first | exact hs | exact absurd rfl hc
    rw [out_congr h] at this
    cases o <;> first | exact this | exact absurd rfl hc
theorem stp_congr {P : Program} {d : Bool} {o : OpL} {e e' : Nat → SV} {M M' : List Blk} {r : SV} (h : ∀ i ∈ looks o, e i = e' i) (hs : Stp P d o e M r M') : Stp P d o e' M r M' := by
  have h1 : ∀ x ∈ opnds o.op, raw e x = raw e' x := slots_raw (fun i hi => h i (List.mem_append_left _ hi))
  unfold Stp at hs ⊢
  cases hg : o.gd with
  | none => rw [hg] at hs; exact stp0_congr h1 hs
  | some gw =>
    obtain ⟨g, want⟩ := gw
    rw [hg] at hs
    obtain ⟨c, r0, h2, h3, h4, h5⟩ := hs
    have h6 : e g = e' g := h g (by unfold looks; rw [hg]; simp)
    exact ⟨c, r0, by rw [← h6]; exact h2, h3, fun hc => stp0_congr h1 (h4 hc), h5⟩
theorem stp_cls1 {P : Program} {o : OpL} {e : Nat → SV} {M M' : List Blk} {r : SV} (hk : cls o.op ≤ 1) (hs : Stp P true o e M r M') : M' = M := by
  have key : ∀ {ctx : Bool} {r' : SV} {N : List Blk}, Stp0 P true ctx o.op e M r' N → N = M := by
    intro ctx r' N h0
    unfold Stp0 at h0
    split at h0
    · exact h0.2 rfl
    · obtain ⟨c, h1, _⟩ := h0
      exact out_cls1 hk h1
  unfold Stp at hs
  split at hs
  · exact key hs
  · obtain ⟨c, r0, _, _, h4, h5⟩ := hs
    cases c with
    | true => exact key (h4 rfl)
    | false => exact h5 rfl
theorem stp_cls0 {P : Program} {o : OpL} {e : Nat → SV} {M M' : List Blk} {r : SV} (hk : cls o.op = 0) (hs : Stp P true o e M r M') (M2 : List Blk) : Stp P true o e M2 r M2 := by
  have key : ∀ {ctx : Bool} {r' : SV} {N : List Blk}, Stp0 P true ctx o.op e M r' N → Stp0 P true ctx o.op e M2 r' M2 := by
    intro ctx r' N h0
    unfold Stp0 at h0 ⊢
    split at h0
    · rename_i hop; rw [hop] at hk; simp [cls] at hk
    · obtain ⟨c, h1, h3⟩ := h0
      exact ⟨c, (out_cls0 hk h1).2, h3⟩
  unfold Stp at hs ⊢
  cases hg : o.gd with
  | none => rw [hg] at hs; exact key hs
  | some gw =>
    obtain ⟨g, want⟩ := gw
    rw [hg] at hs
    obtain ⟨c, r0, h2, h3, h4, h5⟩ := hs
    exact ⟨c, r0, h2, h3, fun hc => key (h4 hc), fun _ => rfl⟩
theorem apartL_spec {x y : OpL} (h : apartL x y = true) : (∀ d, x.dst = some d → d ∉ looks y) ∧ (∀ d, x.dst = some d → y.dst ≠ some d) ∧ (∀ d, y.dst = some d → d ∉ looks x) := by
  refine ⟨fun d hd => ?_, fun d hd => ?_, fun d hd => ?_⟩ <;> simp [apartL, hd] at h
  · exact h.1.1
  · exact h.1.2
  · exact h.2
theorem put_ne {e : Nat → SV} {dst : Option Nat} {v : SV} {i : Nat} (h : ∀ d, dst = some d → d ≠ i) : put e dst v i = e i := by
  cases dst with
  | none => rfl
  | some d => exact if_neg (fun hh => h d rfl hh.symm)
theorem put_comm {e : Nat → SV} {x y : Option Nat} {u v : SV} (h : ∀ d, x = some d → y ≠ some d) : put (put e x u) y v = put (put e y v) x u := by
  cases x with
  | none => rfl
  | some a =>
    cases y with
    | none => rfl
    | some b =>
      have hne : a ≠ b := fun hh => h a rfl (by rw [hh])
      funext i
      simp only [put, upd]
      by_cases h1 : i = a
      · have h2 : ¬ i = b := fun hh => hne (by omega)
        simp [h1, h2, hne]
      · simp [h1]
theorem comm {P : Program} {x y : OpL} {e : Nat → SV} {M M1 M2 : List Blk} {r r2 : SV} (h : commOk x y = true) (h1 : Stp P true x e M r M1) (h2 : Stp P true y (put e x.dst r) M1 r2 M2) :
    ∃ N, Stp P true y e M r2 N ∧ Stp P true x (put e y.dst r2) N r M2 ∧ put (put e x.dst r) y.dst r2 = put (put e y.dst r2) x.dst r := by
  unfold commOk at h
  simp only [Bool.and_eq_true, Bool.or_eq_true, beq_iff_eq, decide_eq_true_eq] at h
  obtain ⟨ha, hc⟩ := h
  obtain ⟨a1, a2, a3⟩ := apartL_spec ha
  have hy : Stp P true y e M1 r2 M2 := stp_congr (fun i hi => put_ne (fun d hd hh => a1 d hd (hh ▸ hi))) h2
  have back : ∀ {N N'}, Stp P true x e N r N' → Stp P true x (put e y.dst r2) N r N' := fun hh => stp_congr (fun i hi => (put_ne (fun d hd h3 => a3 d hd (h3 ▸ hi))).symm) hh
  have hp : put (put e x.dst r) y.dst r2 = put (put e y.dst r2) x.dst r := put_comm a2
  rcases hc with (hc | hc) | hc
  · obtain rfl := stp_cls1 (by omega) h1
    exact ⟨M2, hy, back (stp_cls0 hc h1 M2), hp⟩
  · obtain rfl := stp_cls1 (by omega) hy
    exact ⟨M, stp_cls0 hc hy M, back h1, hp⟩
  · obtain rfl := stp_cls1 hc.1 h1
    obtain rfl := stp_cls1 hc.2 hy
    exact ⟨M2, hy, back h1, hp⟩
/-- An operation that goes with all ahead of it may come first. -/
theorem bubble {P : Program} {y : OpL} {v : List OpL} : ∀ {u : List OpL} {s : St} {K : St → Prop}, (∀ x ∈ u, commOk x y = true) → runOps P true (u ++ y :: v) s K → runOps P true (y :: (u ++ v)) s K
  | [], s, K, h, hr => hr
  | x :: u, s, K, h, hr => by
    obtain ⟨r, M1, h1, h2⟩ := hr
    have ih := bubble (u := u) (fun z hz => h z (by simp [hz])) h2
    obtain ⟨r2, M2, h3, h4⟩ := ih
    obtain ⟨N, k1, k2, k3⟩ := comm (h x (by simp)) h1 h3
    refine ⟨r2, N, k1, r, M2, k2, ?_⟩
    rw [← k3]
    exact h4
end Go.Proofs.YtioefecijidgkaaAbs
