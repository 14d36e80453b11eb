/- The abstract machine: a region's operations one by one, in the text's order or in any. -/
import Derived.Test.YtioefecijidgkaaAbs8
import Derived.StillTail
set_option linter.unusedVariables false
set_option linter.unusedSimpArgs false
namespace Go.Proofs.YtioefecijidgkaaAbs
open Go Go.RowKit

def Enters (P : Program) (f : Nat) : Prop := ∃ fn, P.funcs[f]? = some fn ∧ (fn.name == "runtime.NumGoroutine") = false ∧ fn.body.isSome = true
/-- What a call comes to: given arguments and a memory, a result and what the memory then is. -/
def Comes (P : Program) (f : Nat) (vals : Array Value) (w : World) (Q : Value → World → Prop) : Prop :=
  (Enters P f ∧ Calls P f vals w fun en w' => ∃ v, en = .returned v ∧ Q v w') ∨ ∃ v w', (callFunc f vals).run P w = .ok (.value v) w' ∧ Q v w'
theorem Comes.mono {P : Program} {f : Nat} {vals : Array Value} {w : World} {Q Q' : Value → World → Prop} (h : Comes P f vals w Q) (hq : ∀ v w', Q v w' → Q' v w') : Comes P f vals w Q' := by
  rcases h with ⟨h1, h2⟩ | ⟨v, w', h1, h2⟩
  · exact .inl ⟨h1, h2.mono (fun e w ⟨v, e1, e2⟩ => ⟨v, e1, hq v w e2⟩)⟩
  · exact .inr ⟨v, w', h1, hq v w' h2⟩
/-- What is told of the package's variables: one of them is an int. -/
def GI (P : Program) (I : Im) : Prop := ∀ g, P.globals.findIdx? (fun x => x.name == "internal/bytealg.MaxLen") = some g → ∃ m, I ⟨g, 0, none⟩ = some (.int .i64 m)
theorem GI.ext {P : Program} {I I' : Im} (h : GI P I) (e : ExtI I I') : GI P I' := fun g hg => let ⟨m, hm⟩ := h g hg; ⟨m, e _ _ hm⟩
def CallR (P : Program) (M : List Blk) (f : Nat) (ps : List Pt) (r : SV) (M' : List Blk) : Prop :=
  ∀ (I : Im) (σ : List Plc) (w : World) (vals : Array Value), GI P I → Mem I σ M w → vals.size = ps.length → (∀ (k : Nat) (q : Pt) (x : Value), ps[k]? = some q → vals[k]? = some x → RelP I σ q x) →
    Comes P f vals w fun v w' => ∃ I' σ', RelS I' σ' r v ∧ Evo I σ M w I' σ' M' w'
def CallOk (P : Program) (M : List Blk) (fv : SV) (args : Option (List Pt)) (r : SV) (M' : List Blk) : Prop :=
  ∃ f caps ps, callee fv = some (f, caps) ∧ args = some ps ∧ CallR P M f (ps ++ caps) r M'
def Stp0 (P : Program) (d ctx : Bool) (op : O) (e : Nat → SV) (M : List Blk) (r : SV) (M' : List Blk) : Prop :=
  match op with
  | .call f args => CallOk P M (strip ctx (raw e f)) (ptsOf (fun x => strip ctx (raw e x)) args) r M' ∧ (d = true → M' = M)
  | op => ∃ c, out e M ctx op = some (r, M', c) ∧ c
def Stp (P : Program) (d : Bool) (o : OpL) (e : Nat → SV) (M : List Blk) (r : SV) (M' : List Blk) : Prop :=
  match o.gd with
  | none => Stp0 P d true o.op e M r M'
  | some (g, want) => ∃ c r0, gcond (e g) want = some c ∧ r = .g c r0 ∧ (c = true → Stp0 P d c o.op e M r0 M') ∧ (c = false → M' = M)
def runOps (P : Program) (d : Bool) : List OpL → St → (St → Prop) → Prop
  | [], s, K => K s
  | o :: os, s, K => ∃ r M', Stp P d o s.env s.M r M' ∧ runOps P d os ⟨put s.env o.dst r, M'⟩ K
theorem runOps_mono {P : Program} {d : Bool} : ∀ {os : List OpL} {s : St} {K K' : St → Prop}, (∀ s, K s → K' s) → runOps P d os s K → runOps P d os s K'
  | [], s, K, K', h, hr => h _ hr
  | o :: os, s, K, K', h, ⟨r, M', h1, h2⟩ => ⟨r, M', h1, runOps_mono h h2⟩
section
variable {P : Program} {I : Im} {σ : List Plc} {e : Nat → SV} {M M' : List Blk} {w : World} {a : Act} {r : SV} {c : Prop} {d : Bool} {ops : Array Oper} {n : Nat}
def After (I : Im) (σ : List Plc) (M : List Blk) (w : World) (e' : Nat → SV) (M' : List Blk) (a a' : Act) (w' : World) : Prop :=
  ∃ I' σ', Evo I σ M w I' σ' M' w' ∧ RelE I' σ' e' a' ∧ a'.defers = a.defers ∧ a'.tmps.size = a.tmps.size
theorem relE_put {I : Im} {σ : List Plc} (he : RelE I σ e a) {dst : Option Nat} {v : Value} (hd : ∀ i, dst = some i → i < a.tmps.size) (hv : dst = none ∨ RelS I σ r v) : RelE I σ (put e dst r) (a.put dst v) := by
  intro i
  cases dst with
  | none => exact he i
  | some j =>
    have hj := hd j rfl
    have hv2 : RelS I σ r v := hv.resolve_left (by simp)
    show RelS I σ (if i = j then r else e i) ((a.tmps.setIfInBounds j v).getD i undef)
    by_cases h : i = j
    · subst h
      rw [if_pos rfl]
      simp [hj]
      exact hv2
    · rw [if_neg h]
      have := he i
      rw [Array.getD_eq_getD_getElem?, Array.getElem?_setIfInBounds_ne (fun e => h e.symm)]
      rw [Array.getD_eq_getD_getElem?] at this
      exact this
theorem put_size {dst : Option Nat} {v : Value} : (a.put dst v).tmps.size = a.tmps.size := by cases dst <;> simp [Act.put]
theorem put_defers {dst : Option Nat} {v : Value} : (a.put dst v).defers = a.defers := by cases dst <;> rfl
theorem ptsOf_rel (he : RelE I σ e a) : ∀ {xs : List Operand} {ys : List Opd} {l : List Pt}, compXs xs = some ys → ptsOf (fun x => strip true (raw e x)) ys = some l → l.length = xs.length ∧ ∀ (k : Nat) (q : Pt) (x : Value), l[k]? = some q → (xs.map a.eval)[k]? = some x → RelP I σ q x
  | [], ys, l, h, hl => by
    injection h with h; subst h; injection hl with hl; subst hl
    exact ⟨rfl, fun k q x h => by simp at h⟩
  | x :: xs, ys, l, h, hl => by
    simp only [compXs, Option.bind_eq_some_iff, Option.map_eq_some_iff] at h
    obtain ⟨y, hy, ys, hys, rfl⟩ := h
    unfold ptsOf at hl
    split at hl
    · rename_i v hv
      simp only [Option.map_eq_some_iff] at hl
      obtain ⟨l, hl, rfl⟩ := hl
      have ih := ptsOf_rel he hys hl
      refine ⟨by simpa using ih.1, fun k u z hu hz => ?_⟩
      cases k with
      | zero =>
        simp at hu hz
        subst hu
        subst hz
        have := vl_rel he hy
        rw [hv] at this
        exact this
      | succ k => exact ih.2 k u z (by simpa using hu) (by simpa using hz)
    · cases hl
theorem capsL_length (caps : Nat → AV) : ∀ (n k : Nat), (capsL caps k n).length = n
  | 0, k => rfl
  | n + 1, k => by simp [capsL, capsL_length caps n (k + 1)]
theorem capsL_get (caps : Nat → AV) : ∀ (n k j : Nat), (capsL caps k n)[j]? = if j < n then some (.one (caps (k + j))) else none
  | 0, k, j => by simp [capsL]
  | n + 1, k, 0 => by simp [capsL]
  | n + 1, k, j + 1 => by
    simp only [capsL, List.getElem?_cons_succ, capsL_get caps n (k + 1) j]
    by_cases h : j < n
    · rw [if_pos h, if_pos (by omega), show k + 1 + j = k + (j + 1) by omega]
    · rw [if_neg h, if_neg (by omega)]
theorem compO_call {op : Op} {f : Opd} {as : List Opd} (h : compO P op = some (.call f as)) : ∃ f' args ts, op = .call { callee := .value f', args := args, argTypes := ts } ∧ compX f' = some f ∧ compXs args.toList = some as := by
  cases op with
  | call cl =>
    obtain ⟨callee, args, ts⟩ := cl
    cases callee with
    | value f' =>
      simp only [compO, Option.map_eq_some_iff, Option.bind_eq_some_iff] at h
      obtain ⟨F, hF, as', has, he⟩ := h
      injection he with h1 h2
      subst h1; subst h2
      exact ⟨f', args, ts, rfl, hF, has⟩
    | invoke x m => simp [compO] at h
    | builtin b =>
      exfalso
      cases b <;> simp only [compO, reduceCtorEq] at h
      all_goals (repeat' (first | (injection h with h; cases h; done) | (split at h) | (simp only [Option.bind_eq_some_iff, Option.map_eq_some_iff] at h; obtain ⟨_, _, h⟩ := h) | (cases h; done) | (obtain ⟨_, _, h⟩ := h)))
  | binOp op t x y u =>
    exfalso
    simp only [compO, Option.bind_eq_some_iff, Option.map_eq_some_iff] at h
    obtain ⟨X, _, Y, _, h⟩ := h
    unfold binC at h
    split at h <;> cases h
  | slice t x lo hi mx =>
    exfalso
    cases mx with
    | none => 
      simp only [compO, Option.bind_eq_some_iff] at h
      obtain ⟨_, _, _, _, _, _, h⟩ := h
      split at h
      · injection h with h; cases h
      · simp only [Option.bind_eq_some_iff, Option.map_eq_some_iff] at h
        obtain ⟨_, _, _, _, h⟩ := h
        cases h
    | some m =>
      simp only [compO, Option.bind_eq_some_iff] at h
      obtain ⟨_, _, _, _, _, _, _, _, _, _, _, _, h⟩ := h
      split at h
      · injection h with h; cases h
      · cases h
  | makeSlice t x y =>
    exfalso
    simp only [compO, Option.bind_eq_some_iff] at h
    obtain ⟨_, _, _, _, _, _, _, _, _, _, h⟩ := h
    split at h
    · injection h with h; cases h
    · cases h
  | buildSlice t len parts =>
    exfalso
    simp only [compO, Option.bind_eq_some_iff] at h
    obtain ⟨_, _, _, _, _, _, _, _, h⟩ := h
    split at h
    · injection h with h; cases h
    split at h
    · injection h with h; cases h
    · cases h
  | convert src dt x =>
    exfalso
    simp only [compO] at h
    split at h
    · simp only [Option.map_eq_some_iff] at h
      obtain ⟨_, _, h⟩ := h
      cases h
    · simp only [Option.bind_eq_some_iff, Option.map_eq_some_iff] at h
      obtain ⟨_, _, _, _, _, _, h⟩ := h
      cases h
  | _ =>
    exfalso
    simp only [compO] at h
    first
    | (cases h; done)
    | ((repeat' (first | (split at h) | (simp only [Option.bind_eq_some_iff, Option.map_eq_some_iff] at h) | (cases h; done) | (obtain ⟨_, _, h⟩ := h))) <;> simp_all)
theorem stp0_sound {o : Oper} {op : O} (hco : compO P o.op = some op) (hst : stOk op o.dst = true) (hd : ∀ i, o.dst = some i → i < a.tmps.size) (hG : GI P I) (hm : Mem I σ M w) (he : RelE I σ e a) (hs : Stp0 P d true op e M r M') {K : Act → World → Prop} {Q : Exit → Act → World → Prop}
    (hK : ∀ v w', After I σ M w (put e o.dst r) M' a (a.put o.dst v) w' → K (a.put o.dst v) w') : o.wp P a w K Q := by
  by_cases hc : isCall op = true
  · obtain ⟨f, as, rfl⟩ : ∃ f as, op = .call f as := by
      cases op <;> first | exact ⟨_, _, rfl⟩ | cases hc
    obtain ⟨f', args, ts, hop, hf, has⟩ := compO_call hco
    obtain ⟨⟨k, caps, ps, hcal, hps, hcall⟩, hM⟩ := hs
    have hfv := vl_rel he hf
    unfold callee at hcal
    split at hcal
    · rename_i fi ni ci hfn2
      injection hcal with hcal
      injection hcal with h1 h2
      subst h1; subst h2
      rw [hfn2] at hfv
      obtain ⟨cs, hfe, hcs, hcr⟩ := hfv
      have hargs := ptsOf_rel he has hps
      have hexec : (execOp a.eval o).run P w = (callFunc fi ((args.map a.eval) ++ cs)).run P w := by
        have : o.op = .call { callee := .value f', args := args, argTypes := ts } := hop
        simp only [execOp, this, resolve, hfe, Deferred.ofValue, Sem.run_bind, Sem.run_pure, Result.andThen_ok, invoke, Array.empty_append]
      have hl : ps.length = args.size := by have := hargs.1; simpa using this
      have hcc := hcall I σ w ((args.map a.eval) ++ cs) hG hm (by simp [hl, hcs, capsL_length]) (fun k q x hq hx => ?_)
      rotate_left
      · by_cases hk : k < ps.length
        · rw [List.getElem?_append_left hk] at hq
          have hx2 : (args.map a.eval)[k]? = some x := by rw [Array.getElem?_append_left (by simp; omega)] at hx; exact hx
          refine hargs.2 k q x hq ?_
          rw [← Array.toList_map]
          simpa using hx2
        · rw [List.getElem?_append_right (by omega), capsL_get] at hq
          split at hq
          · injection hq with hq
            subst hq
            rw [Array.getElem?_append_right (by simp; omega)] at hx
            simp only [Array.size_map] at hx
            rw [Nat.zero_add]
            have := hcr (k - args.size) x hx
            rw [hl]
            exact this
          · cases hq
      · unfold Oper.wp
        rw [hexec]
        rcases hcc with ⟨⟨fn, hfn, hname, hbody⟩, hcall⟩ | ⟨v, w', hrun, I', σ', hrv, hev⟩
        · have hrun : (callFunc fi ((args.map a.eval) ++ cs)).run P w = .ok (.enter fi ((args.map a.eval) ++ cs)) w := by
            simp only [callFunc, program, Sem.run, Sem.run_bind, Sem.run_pure, Result.andThen_ok, hfn]
            simp only [hname, Bool.false_eq_true, if_false]
            have hb : fn.body.isNone = false := by rw [← Option.not_isSome, hbody]; rfl
            simp [hb]
          rw [hrun]
          refine hcall.mono ?_
          rintro en w' ⟨v, rfl, I', σ', hrv, hev⟩
          exact hK v w' ⟨I', σ', hev, relE_put (RelE_mono hev.extI hev.extP he) hd (.inr hrv), put_defers, put_size⟩
        · rw [hrun]
          exact hK v w' ⟨I', σ', hev, relE_put (RelE_mono hev.extI hev.extP he) hd (.inr hrv), put_defers, put_size⟩
    · cases hcal
  · have hs' : ∃ c, out e M true op = some (r, M', c) ∧ c := by
      cases op <;> first | exact hs | exact absurd rfl hc
    obtain ⟨c, ho, hcc⟩ := hs'
    obtain ⟨dst, op', ty, pos, after, gd⟩ := o
    obtain ⟨nx, I', σ', w', hrun, hrel, hev⟩ := (out_sound (ty := ty) (pos := pos) (after := after) (gd := gd) hco (by simpa using hc) hm he hst ho hcc).goes
    unfold Oper.wp
    rw [hrun]
    have he' := RelE_mono hev.extI hev.extP he
    rcases hrel with ⟨v, rfl, hrv⟩ | ⟨rfl, rfl⟩
    · exact hK v w' ⟨I', σ', hev, relE_put he' hd (.inr hrv), put_defers, put_size⟩
    · exact hK undef w' ⟨I', σ', hev, relE_put he' hd (.inr trivial), put_defers, put_size⟩
theorem gcond_spec {s : SV} {y : Value} {want c : Bool} (h : gcond s want = some c) (hr : RelS I σ s y) : (c = true → y = .bool want) ∧ (c = false → y ≠ .bool want) := by
  unfold gcond at h
  split at h
  · rename_i b
    injection h with h
    subst h
    obtain ⟨rfl, _⟩ := hr
    cases b <;> simp
  · rename_i b
    injection h with h
    subst h
    obtain ⟨rfl, _⟩ := hr
    cases b <;> simp
  · rename_i c0 b
    injection h with h
    subst h
    obtain ⟨h1, h2⟩ := hr
    cases c0 with
    | true =>
      obtain ⟨rfl, _⟩ := h1 rfl
      cases b <;> simp
    | false =>
      have := h2 rfl
      subst this
      simp [undef]
  · rename_i c0 b
    injection h with h
    subst h
    obtain ⟨h1, h2⟩ := hr
    cases c0 with
    | true =>
      obtain ⟨rfl, _⟩ := h1 rfl
      cases b <;> simp
    | false =>
      have := h2 rfl
      subst this
      simp [undef]
  · cases h
/-- What a step of an operation comes to. -/
def Sm (P : Program) (I : Im) (σ : List Plc) (M : List Blk) (w : World) (o : Oper) (e : Nat → SV) (a : Act) (r : SV) (M' : List Blk) : Prop :=
  ∀ (K : Act → World → Prop) (Q : Exit → Act → World → Prop), (∀ v w', After I σ M w (put e o.dst r) M' a (a.put o.dst v) w' → K (a.put o.dst v) w') → o.wp P a w K Q
/-- A step with its guard, of what a step comes to. -/
def Gd (e : Nat → SV) (M M' : List Blk) (gd : Option (Nat × Bool)) (r : SV) (S0 : Bool → SV → Prop) : Prop :=
  match gd with
  | none => S0 true r
  | some (g, want) => ∃ c r0, gcond (e g) want = some c ∧ r = .g c r0 ∧ (c = true → S0 c r0) ∧ (c = false → M' = M)
theorem stp_gen {o : Oper} {ol : OpL} (hl : compL P a.tmps.size ops o = some ol) (hm : Mem I σ M w) (he : RelE I σ e a) {S0 : Bool → SV → Prop} (hs : Gd e M M' ol.gd r S0)
    (hS : compO P o.op = some ol.op → stOk ol.op o.dst = true → (∀ i, o.dst = some i → i < a.tmps.size) → ∀ r0, S0 true r0 → Sm P I σ M w o e a r0 M') {K : Act → World → Prop} {Q : Exit → Act → World → Prop}
    (hK : ∀ v w', After I σ M w (put e ol.dst r) M' a (a.put o.dst v) w' → K (a.put o.dst v) w') : if Region.wanted o (yielded ops a.tmps) = true then o.wp P a w K Q else K (a.put o.dst undef) w := by
  unfold compL at hl
  simp only [Option.bind_eq_some_iff] at hl
  obtain ⟨op, hco, hl⟩ := hl
  by_cases hcd : (dstOk o.dst a.tmps.size && stOk op o.dst) = true
  · rw [if_pos hcd] at hl
    simp only [Bool.and_eq_true] at hcd
    obtain ⟨hdst, hst⟩ := hcd
    have hd : ∀ i, o.dst = some i → i < a.tmps.size := by
      intro i hi
      rw [hi] at hdst
      simpa [dstOk] using hdst
    cases hg : o.guard with
    | none =>
      rw [hg] at hl
      injection hl with hl
      subst hl
      rw [if_pos (by unfold Region.wanted; rw [hg])]
      exact hS hco hst hd _ hs _ _ hK
    | some jw =>
      obtain ⟨j, want⟩ := jw
      rw [hg] at hl
      simp only [Option.map_eq_some_iff] at hl
      obtain ⟨g, hgd, rfl⟩ := hl
      obtain ⟨c, r0, hgc, rfl, h1, h2⟩ := hs
      obtain ⟨hc1, hc2⟩ := gcond_spec hgc (he g)
      have hy : yielded ops a.tmps j = (match a.tmps[g]? with | some (.bool b) => some b | _ => none) := by
        unfold yielded
        rw [hgd]
        rfl
      have hget : a.tmps.getD g undef = (a.tmps[g]?).getD undef := by rw [Array.getD_eq_getD_getElem?]
      cases c with
      | true =>
        have h3 := hc1 rfl
        have hw : Region.wanted o (yielded ops a.tmps) = true := by
          unfold Region.wanted
          rw [hg]
          show (yielded ops a.tmps j == some want) = true
          rw [hy]
          rw [hget] at h3
          cases ht : a.tmps[g]? with
          | none => rw [ht] at h3; cases h3
          | some x => rw [ht] at h3; simp only [Option.getD_some] at h3; subst h3; simp
        rw [if_pos hw]
        refine hS hco hst hd _ (h1 rfl) _ _ (fun v w' hA => hK v w' ?_)
        obtain ⟨I', σ', hev, hre, hde, hsz⟩ := hA
        refine ⟨I', σ', hev, fun i => ?_, hde, hsz⟩
        have := hre i
        cases ho : o.dst with
        | none => rw [ho] at this; exact this
        | some dd =>
          rw [ho] at this
          unfold put upd at this ⊢
          simp only [] at this ⊢
          by_cases hi : i = dd
          · rw [if_pos hi] at this ⊢
            exact ⟨fun _ => this, fun h => by cases h⟩
          · rw [if_neg hi] at this ⊢
            exact this
      | false =>
        have h3 := hc2 rfl
        have hw : ¬ Region.wanted o (yielded ops a.tmps) = true := by
          unfold Region.wanted
          rw [hg]
          show ¬ (yielded ops a.tmps j == some want) = true
          rw [hy]
          rw [hget] at h3
          cases ht : a.tmps[g]? with
          | none => simp
          | some x =>
            rw [ht] at h3
            simp only [Option.getD_some] at h3
            cases x <;> simp
            rename_i b
            intro hb
            exact h3 (by rw [hb])
        rw [if_neg hw]
        obtain rfl := h2 rfl
        refine hK undef w ⟨I, σ, Evo.refl hm, relE_put he hd (.inr ⟨fun h => (by cases h), fun _ => rfl⟩), put_defers, put_size⟩
  · rw [if_neg hcd] at hl
    cases hl
theorem stp_sound {o : Oper} {ol : OpL} (hl : compL P a.tmps.size ops o = some ol) (hG : GI P I) (hm : Mem I σ M w) (he : RelE I σ e a) (hs : Stp P d ol e M r M') {K : Act → World → Prop} {Q : Exit → Act → World → Prop}
    (hK : ∀ v w', After I σ M w (put e ol.dst r) M' a (a.put o.dst v) w' → K (a.put o.dst v) w') : if Region.wanted o (yielded ops a.tmps) = true then o.wp P a w K Q else K (a.put o.dst undef) w := by
  refine stp_gen hl hm he (S0 := fun c r0 => Stp0 P d c ol.op e M r0 M') hs (fun hco hst hd r0 h0 K Q hK => ?_) hK
  cases d with
  | true => exact stp0_sound hco hst hd hG hm he h0 hK
  | false => exact stp0_sound hco hst hd hG hm he h0 hK
end
end Go.Proofs.YtioefecijidgkaaAbs
