/- The abstract machine: code, loops, and what a function comes to. -/
import Derived.Test.YtioefecijidgkaaAbs10
set_option linter.unusedVariables false
set_option linter.unusedSimpArgs false
namespace Go.Proofs.YtioefecijidgkaaAbs
open Go Go.RowKit

def compLs (P : Program) (n : Nat) (ops : Array Oper) : List Oper → Option (List OpL)
  | [] => some []
  | o :: os => (compL P n ops o).bind fun x => (compLs P n ops os).map (x :: ·)
def tabT (ops : List Oper) : List (List Nat) := ops.foldl (fun acc o => acc ++ [((o.after.toList.filter (Region.binds .any)).flatMap fun e => e.on :: acc.getD e.on []).eraseDups]) []
def okAt (ops : Array Oper) (ols : List OpL) (T : List (List Nat)) (i : Nat) (o : Oper) (x : OpL) : Bool :=
  (o.after.toList.all fun e => !Region.binds .any e || decide (e.on < i)) &&
  ((T.getD i []).all fun k => o.after.toList.any fun e => Region.binds .any e && (e.on == k || (T.getD e.on []).contains k)) &&
  ((List.range i).all fun k => (T.getD i []).contains k || match ols[k]? with | some y => commOk y x | none => false)
def okDraw (ops : Array Oper) (ols : List OpL) (T : List (List Nat)) : Bool :=
  (List.range ops.size).all fun i => match ops[i]?, ols[i]? with | some o, some x => okAt ops ols T i o x | _, _ => false
def okTab (ops : Array Oper) (T : List (List Nat)) : Bool :=
  (List.range ops.size).all fun i => match ops[i]? with
    | some o => (o.after.toList.all fun e => !Region.binds .any e || decide (e.on < i)) && ((T.getD i []).all fun k => o.after.toList.any fun e => Region.binds .any e && (e.on == k || (T.getD e.on []).contains k))
    | none => false
def compC (P : Program) (n : Nat) : Code → Option C
  | .skip => some .skip
  | .region _ ops draw => (compLs P n ops ops.toList).bind fun ols => if draw then (if P.follows .mixedOrders then (if okDraw ops ols (tabT ops.toList) then some (.reg true ols) else if okTab ops (tabT ops.toList) then some (.rgx (tabT ops.toList) ols) else none) else none) else some (.reg false ols)
  | .seq a b => (compC P n a).bind fun a => (compC P n b).map fun b => .seq a b
  | .cond x a b => (compX x).bind fun x => (compC P n a).bind fun a => (compC P n b).map fun b => .cond x a b
  | .block id c => (compC P n c).map fun c => .block id c
  | .loop c => (compC P n c).map fun c => .loop c
  | .exit id => some (.exit id)
  | .ret => some .ret
  | .label _ => some .skip
  | .scope c => (compC P n c).map fun c => .scope c
  | _ => none
def Sim (n : Nat) (I0 : Im) (σ0 : List Plc) (M0 : List Blk) (w0 : World) (s : St) (a : Act) (w : World) : Prop :=
  ∃ I σ, Evo I0 σ0 M0 w0 I σ s.M w ∧ RelE I σ s.env a ∧ a.defers = [] ∧ a.tmps.size = n
section
variable {P : Program} {n m : Nat} {I0 : Im} {σ0 : List Plc} {M0 : List Blk} {w0 : World} {s : St} {a : Act} {w : World} {ops : Array Oper} {Q : Exit → Act → World → Prop}
theorem Keep.drew {S : Nat → Prop} (w : World) : Keep S w { w with drawn := w.drawn + 1 } := ⟨rfl, rfl, rfl, Nat.le_refl _, fun _ _ _ => rfl⟩
theorem Sim.drew (h : Sim n I0 σ0 M0 w0 s a w) : Sim n I0 σ0 M0 w0 s a { w with drawn := w.drawn + 1 } := by
  obtain ⟨I, σ, hev, he, h1, h2⟩ := h
  refine ⟨I, σ, hev.trans ⟨ExtI.refl _, ExtP.refl _, ?_, Keep.drew w, fun g h => .inl h, fun _ _ h => .inl h⟩, he, h1, h2⟩
  exact hev.mem.keep (S := fun _ => False) (Keep.drew w) (fun _ _ h => h) (fun _ _ _ h => h)
theorem sim_step {d : Bool} {o : Oper} {ol : OpL} {r : SV} {M' : List Blk} (hG : GI P I0) (hl : compL P n ops o = some ol) (hs : Sim n I0 σ0 M0 w0 s a w) (hst : Stp P d ol s.env s.M r M') {K : Act → World → Prop}
    (hK : ∀ v w', Sim n I0 σ0 M0 w0 ⟨put s.env ol.dst r, M'⟩ (a.put o.dst v) w' → K (a.put o.dst v) w') : if Region.wanted o (yielded ops a.tmps) = true then o.wp P a w K Q else K (a.put o.dst undef) w := by
  obtain ⟨I, σ, hev, he, hd, hn⟩ := hs
  subst hn
  refine stp_sound hl (hG.ext hev.extI) hev.mem he hst (fun v w' hA => hK v w' ?_)
  obtain ⟨I', σ', hev', he', hd', hn'⟩ := hA
  exact ⟨I', σ', hev.trans hev', he', hd'.trans hd, hn'⟩
theorem wpOp_of {i : Nat} {o : Oper} (ho : ops[i]? = some o) {K : Act → World → Prop} (h : if Region.wanted o (yielded ops a.tmps) = true then o.wp P a w K Q else K (a.put o.dst undef) w) : wpOp P ops Q i K a w := by
  unfold wpOp
  simp only [ho]
  split at h
  · rename_i hw; rw [if_pos hw]; exact .inl h
  · rename_i hw; rw [if_neg hw]; exact h
theorem ops_sound {d : Bool} {K : St → Prop} (hG : GI P I0) (hQ : ∀ s a w, Sim n I0 σ0 M0 w0 s a w → K s → Q .normal a w) : ∀ (l : List Oper) (k : Nat) (ols : List OpL) (s : St) (a : Act) (w : World), (∀ j, j < l.length → l[j]? = ops[k + j]?) → compLs P n ops l = some ols →
    runOps P d ols s K → Sim n I0 σ0 M0 w0 s a w → wpOps P ops Q (List.range' k l.length) a w
  | [], k, ols, s, a, w, _, hc, hr, hs => by
    injection hc with hc
    subst hc
    exact hQ s a w hs hr
  | o :: l, k, ols, s, a, w, hl, hc, hr, hs => by
    simp only [compLs, Option.bind_eq_some_iff, Option.map_eq_some_iff] at hc
    obtain ⟨x, hx, xs, hxs, rfl⟩ := hc
    obtain ⟨r, M', h1, h2⟩ := hr
    have h0 : ops[k]? = some o := by have := hl 0 (by simp); simpa using this.symm
    rw [List.length_cons, List.range'_succ, wpOps_cons]
    refine wpOp_of h0 (sim_step hG hx hs h1 (fun v w' hS => ?_))
    exact ops_sound hG hQ l (k + 1) xs _ _ _ (fun j hj => by have := hl (j + 1) (by simp; omega); simpa [Nat.add_assoc, Nat.add_comm 1 j] using this) hxs h2 hS
def Cl (ops : Array Oper) (listed : Array Bool) : Prop := ∀ (j : Nat) (o : Oper), ops[j]? = some o → listed.getD j false = true → ∀ e ∈ o.after, Region.binds .any e = true → listed.getD e.on false = true
theorem tab_listed {ols : List OpL} {T : List (List Nat)} (hok : okDraw ops ols T = true) {listed : Array Bool} (hcl : Cl ops listed) :
    ∀ (i : Nat) (o : Oper), ops[i]? = some o → (∀ e ∈ o.after, Region.binds .any e = true → listed.getD e.on false = true) → ∀ k ∈ T.getD i [], listed.getD k false = true := by
  intro i
  induction i using Nat.strongRecOn with
  | _ i ih =>
    intro o ho hall k hk
    have hi : i < ops.size := (Array.getElem?_eq_some_iff.1 ho).1
    have h1 := List.all_eq_true.1 hok i (List.mem_range.2 hi)
    simp only [ho] at h1
    split at h1
    · rename_i o' x ho' hx
      injection ho' with ho'
      subst ho'
      simp only [okAt, Bool.and_eq_true] at h1
      have h2 := List.all_eq_true.1 h1.1.2 k hk
      obtain ⟨e, he, h3⟩ := List.any_eq_true.1 h2
      simp only [Bool.and_eq_true, Bool.or_eq_true, beq_iff_eq] at h3
      have he' : e ∈ o.after := by simpa using he
      rcases h3.2 with h4 | h4
      · rw [← h4]; exact hall e he' h3.1
      · have h5 := List.all_eq_true.1 h1.1.1 e he
        simp only [h3.1, Bool.not_true, Bool.false_or, decide_eq_true_eq] at h5
        have hlt : e.on < ops.size := by omega
        have hp : ops[e.on]? = some ops[e.on] := Array.getElem?_eq_getElem hlt
        exact ih e.on h5 _ hp (hcl e.on _ hp (hall e he' h3.1)) k (by simpa using h4)
    · cases h1
theorem any_sound {ols : List OpL} {T : List (List Nat)} (hG : GI P I0) (hok : okDraw ops ols T = true) {K : St → Prop} (hQ : ∀ s a w, Sim n I0 σ0 M0 w0 s a w → K s → Q .normal a w) :
    ∀ (fuel : Nat) (listed : Array Bool) (rem : List (Nat × OpL)) (s : St) (a : Act) (w : World), rem.length = fuel → (∀ p ∈ rem, ols[p.1]? = some p.2 ∧ ∃ o, ops[p.1]? = some o ∧ compL P n ops o = some p.2) →
      rem.Pairwise (fun p q => p.1 < q.1) → (∀ i, i < ops.size → (listed.getD i true = false ↔ ∃ x, (i, x) ∈ rem)) → listed.size = ops.size → Cl ops listed → runOps P true (rem.map (·.2)) s K → Sim n I0 σ0 M0 w0 s a w → wpAny P .any ops Q fuel listed a w
  | 0, listed, rem, s, a, w, hl, hp, hpw, hli, hsz, hcl, hr, hs => by
    obtain rfl : rem = [] := List.eq_nil_of_length_eq_zero hl
    refine ⟨?_, hQ s a w hs hr⟩
    cases h : Region.ready .any ops listed with
    | nil => rfl
    | cons i l =>
      exfalso
      have hi : i ∈ Region.ready .any ops listed := by rw [h]; simp
      obtain ⟨h1, o, ho, _⟩ := mem_ready.1 hi
      obtain ⟨x, hx⟩ := (hli i (Array.getElem?_eq_some_iff.1 ho).1).1 h1
      simp at hx
  | fuel + 1, listed, rem, s, a, w, hl, hp, hpw, hli, hsz, hcl, hr, hs => by
    have unl : ∀ j, j < ops.size → listed.getD j false = false → listed.getD j true = false := by
      intro j hj h
      have hj' : j < listed.size := by omega
      simp [hj'] at h ⊢
      exact h
    have hcase : ∀ i o x, ops[i]? = some o → ols[i]? = some x → okAt ops ols T i o x = true := by
      intro i o x ho hx
      have h1 := List.all_eq_true.1 hok i (List.mem_range.2 (Array.getElem?_eq_some_iff.1 ho).1)
      simp only [ho, hx] at h1
      exact h1
    refine ⟨fun hnil => ?_, fun i hi => ?_⟩
    · exfalso
      obtain ⟨p, rem', rfl⟩ : ∃ p l, rem = p :: l := by cases rem with | nil => simp at hl | cons p l => exact ⟨p, l, rfl⟩
      obtain ⟨hx, o, ho, hco⟩ := hp p (by simp)
      have hlt := (Array.getElem?_eq_some_iff.1 ho).1
      have hun : listed.getD p.1 true = false := (hli p.1 hlt).2 ⟨p.2, by simp⟩
      have hok1 := hcase p.1 o p.2 ho hx
      simp only [okAt, Bool.and_eq_true] at hok1
      have : p.1 ∈ Region.ready .any ops listed := by
        refine mem_ready.2 ⟨hun, o, ho, fun e he hb => ?_⟩
        have h5 := List.all_eq_true.1 hok1.1.1 e (by simpa using he)
        simp only [hb, Bool.not_true, Bool.false_or, decide_eq_true_eq] at h5
        cases hle : listed.getD e.on false with
        | true => rfl
        | false =>
          exfalso
          obtain ⟨x, hx⟩ := (hli e.on (by omega)).1 (unl e.on (by omega) hle)
          rcases List.mem_cons.1 hx with hx | hx
          · rw [← hx] at h5; simp at h5
          · have := (List.pairwise_cons.1 hpw).1 _ hx
            simp only [] at this
            omega
      rw [hnil] at this
      cases this
    · obtain ⟨h1, o, ho, hall⟩ := mem_ready.1 hi
      have hlt := (Array.getElem?_eq_some_iff.1 ho).1
      obtain ⟨x, hx⟩ := (hli i hlt).1 h1
      obtain ⟨u, v, rfl⟩ := List.append_of_mem hx
      obtain ⟨hox, o', ho', hco⟩ := hp (i, x) (by simp)
      obtain rfl : o = o' := by rw [ho] at ho'; injection ho'
      have hok1 := hcase i o x ho hox
      simp only [okAt, Bool.and_eq_true] at hok1
      have hcomm : ∀ y ∈ u.map (·.2), commOk y x = true := by
        intro y hy
        obtain ⟨q, hq, rfl⟩ := List.mem_map.1 hy
        have hqlt : q.1 < i := (List.pairwise_append.1 hpw).2.2 q hq (i, x) (by simp)
        obtain ⟨hoq, oq, hopq, _⟩ := hp q (by simp [hq])
        have h2 := List.all_eq_true.1 hok1.2 q.1 (List.mem_range.2 hqlt)
        simp only [Bool.or_eq_true, hoq] at h2
        rcases h2 with h2 | h2
        · exfalso
          have h3 := tab_listed hok hcl i o ho hall q.1 (by simpa using h2)
          have h4 := (hli q.1 (by omega)).2 ⟨q.2, by simp [hq]⟩
          have h5 : q.1 < listed.size := by omega
          simp [h5] at h3 h4
          rw [h3] at h4
          cases h4
        · exact h2
      have hr2 := bubble (u := u.map (·.2)) (v := v.map (·.2)) hcomm (by simpa using hr)
      obtain ⟨r, M', hst, hr3⟩ := hr2
      refine wpOp_of ho (sim_step hG hco hs hst (fun z w' hS => ?_))
      have hset : ∀ j, j < ops.size → (listed.setIfInBounds i true).getD j true = if j = i then true else listed.getD j true := by
        intro j hj
        by_cases hji : j = i
        · subst hji
          have : j < listed.size := by omega
          simp [this]
        · rw [if_neg hji, getD_set_ne true (fun e => hji e.symm)]
      refine any_sound hG hok hQ fuel (listed.setIfInBounds i true) (u ++ v) _ _ _ (by simp at hl ⊢; omega) (fun p hpm => hp p (by simp at hpm ⊢; rcases hpm with h | h; exact .inl h; exact .inr (.inr h))) ?_ (fun j hj => ?_) (by simp [hsz]) ?_ (by simpa using hr3) hS
      · rw [List.pairwise_append] at hpw ⊢
        exact ⟨hpw.1, (List.pairwise_cons.1 hpw.2.1).2, fun p hp q hq => hpw.2.2 p hp q (by simp [hq])⟩
      · rw [hset j hj]
        by_cases hji : j = i
        · rw [if_pos hji]
          constructor
          · intro h; cases h
          · rintro ⟨y, hy⟩
            exfalso
            subst hji
            rcases List.mem_append.1 hy with hy | hy
            · have := (List.pairwise_append.1 hpw).2.2 _ hy (j, x) (by simp)
              simp at this
            · have := (List.pairwise_cons.1 (List.pairwise_append.1 hpw).2.1).1 _ hy
              simp at this
        · rw [if_neg hji, hli j hj]
          constructor
          · rintro ⟨y, hy⟩
            refine ⟨y, ?_⟩
            simp at hy ⊢
            rcases hy with hy | ⟨hy, _⟩ | hy
            · exact .inl hy
            · exact absurd hy hji
            · exact .inr hy
          · rintro ⟨y, hy⟩
            refine ⟨y, ?_⟩
            simp at hy ⊢
            rcases hy with hy | hy
            · exact .inl hy
            · exact .inr (.inr hy)
      · intro j oj hoj hlj e he hb
        by_cases hji : j = i
        · subst hji
          obtain rfl : o = oj := by rw [ho] at hoj; injection hoj
          exact getD_set_true (hall e he hb)
        · rw [getD_set_ne false (fun e => hji e.symm)] at hlj
          exact getD_set_true (hcl j oj hoj hlj e he hb)
end
end Go.Proofs.YtioefecijidgkaaAbs
