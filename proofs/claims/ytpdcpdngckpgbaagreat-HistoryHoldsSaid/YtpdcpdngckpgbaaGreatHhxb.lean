/- Part 2 of the texts on which the row stands: Abs9, Abs10, Abs11, AbsX1, AbsX2, Abs12, Abs13, Abs14, Abs15, Abs16, Abs17, Abs18, Abs19, AbsBs, AbsIns, AbsFr, AbsOp. Conditions: none. -/
import Derived.Test.YtpdcpdngckpgbaaGreatHhxa
import Derived.StillTail
import Derived.Scope
import Derived.Lib.Overlaps
import Derived.OpenShut
import Derived.SizedLaws
import Derived.DataElems
import Derived.ChangeOld
import Derived.Below
import Derived.Carry
set_option linter.unusedVariables false
set_option linter.unusedSimpArgs false
section
namespace Go.Proofs.YtpdcpdngckpgbaaGreatAbs
open Go Go.RowKit

def Enters (P : Program) (f : Nat) : Prop := ∃ fn, P.funcs[f]? = some fn ∧ (fn.name == "runtime.NumGoroutine") = false ∧ fn.body.isSome = true
def Comes (P : Program) (f : Nat) (vals : Array Value) (w : World) (Q : Value → World → Prop) : Prop :=
 (Enters P f ∧ Calls P f vals w fun en w' => ∃ v, en = .returned v ∧ Q v w') ∨ ∃ v w', (callFunc f vals).run P w = .ok (.value v) w' ∧ Q v w'
theorem Comes.mono {P : Program} {f : Nat} {vals : Array Value} {w : World} {Q Q' : Value → World → Prop} (h : Comes P f vals w Q) (hq : ∀ v w', Q v w' → Q' v w') : Comes P f vals w Q' := by
 rcases h with ⟨h1, h2⟩ | ⟨v, w', h1, h2⟩
 ·exact .inl ⟨h1, h2.mono (fun e w ⟨v, e1, e2⟩ => ⟨v, e1, hq v w e2⟩)⟩
 ·exact .inr ⟨v, w', h1, hq v w' h2⟩
def GI (P : Program) (I : Im) : Prop := ∀ g, P.globals.findIdx? (fun x => x.name == "internal/bytealg.MaxLen") = some g → ∃ m, I ⟨g, 0, none⟩ = some (.int .i64 m)
theorem GI.ext {P : Program} {I I' : Im} (h : GI P I) (e : ExtI I I') : GI P I' := fun g hg => let ⟨m, hm⟩ := h g hg; ⟨m, e _ _ hm⟩
def CallR (P : Program) (M : List Blk) (f : Nat) (ps : List Pt) (r : SV) (M' : List Blk) : Prop :=
 ∀ (I : Im) (σ : List Plc) (w : World) (vals : Array Value), GI P I → Mem I σ M w → vals.size = ps.length → (∀ (k : Nat) (q : Pt) (x : Value), ps[k]? = some q → vals[k]? = some x → RelP I σ q x) →
  Comes P f vals w fun v w' => ∃ I' σ', RelS I' σ' r v ∧ Evo I σ M w I' σ' M' w'
def CallOk (P : Program) (M : List Blk) (fv : SV) (args : Option (List Pt)) (r : SV) (M' : List Blk) : Prop :=
 ∃ f caps ps, callee fv = some (f, caps) ∧ args = some ps ∧ CallR P M f (ps ++ caps) r M'
def Stp0 (P : Program) (d ctx : Bool) (op : O) (e : Nat → SV) (M : List Blk) (r : SV) (M' : List Blk) : Prop :=
 match op with
 | .call f args => CallOk P M (strip ctx (raw e f)) (ptsOf (fun x => strip ctx (raw e x)) args) r M' ∧ (d = true → M' = M)
 | op => ∃ c, out e M ctx op = some (r, M', c) ∧ c
def Stp (P : Program) (d : Bool) (o : OpL) (e : Nat → SV) (M : List Blk) (r : SV) (M' : List Blk) : Prop :=
 match o.gd with
 | none => Stp0 P d true o.op e M r M'
 | some (g, want) => ∃ c r0, gcond (e g) want = some c ∧ r = .g c r0 ∧ (c = true → Stp0 P d c o.op e M r0 M') ∧ (c = false → M' = M)
def runOps (P : Program) (d : Bool) : List OpL → St → (St → Prop) → Prop
 | [], s, K => K s
 | o :: os, s, K => ∃ r M', Stp P d o s.env s.M r M' ∧ runOps P d os ⟨put s.env o.dst r, M'⟩ K
section
variable {P : Program} {I : Im} {σ : List Plc} {e : Nat → SV} {M M' : List Blk} {w : World} {a : Act} {r : SV} {c : Prop} {d : Bool} {ops : Array Oper} {n : Nat}
def After (I : Im) (σ : List Plc) (M : List Blk) (w : World) (e' : Nat → SV) (M' : List Blk) (a a' : Act) (w' : World) : Prop :=
 ∃ I' σ', Evo I σ M w I' σ' M' w' ∧ RelE I' σ' e' a' ∧ a'.defers = a.defers ∧ a'.tmps.size = a.tmps.size
theorem relE_put {I : Im} {σ : List Plc} (he : RelE I σ e a) {dst : Option Nat} {v : Value} (hd : ∀ i, dst = some i → i < a.tmps.size) (hv : dst = none ∨ RelS I σ r v) : RelE I σ (put e dst r) (a.put dst v) := by
 intro i
 cases dst with
 | none => exact he i
 | some j =>
  have hj := hd j rfl
  have hv2 : RelS I σ r v := hv.resolve_left (by simp)
  show RelS I σ (if i = j then r else e i) ((a.tmps.setIfInBounds j v).getD i undef)
  by_cases h : i = j
  ·subst h
   rw [if_pos rfl]
   simp [hj]
   exact hv2
  ·rw [if_neg h]
   have := he i
   rw [Array.getD_eq_getD_getElem?, Array.getElem?_setIfInBounds_ne (fun e => h e.symm)]
   rw [Array.getD_eq_getD_getElem?] at this
   exact this
theorem put_size {dst : Option Nat} {v : Value} : (a.put dst v).tmps.size = a.tmps.size := by cases dst <;> simp [Act.put]
theorem put_defers {dst : Option Nat} {v : Value} : (a.put dst v).defers = a.defers := by cases dst <;> rfl
theorem ptsOf_rel (he : RelE I σ e a) : ∀ {xs : List Operand} {ys : List Opd} {l : List Pt}, compXs xs = some ys → ptsOf (fun x => strip true (raw e x)) ys = some l → l.length = xs.length ∧ ∀ (k : Nat) (q : Pt) (x : Value), l[k]? = some q → (xs.map a.eval)[k]? = some x → RelP I σ q x
 | [], ys, l, h, hl => by
  injection h with h; subst h; injection hl with hl; subst hl
  exact ⟨rfl, fun k q x h => by simp at h⟩
 | x :: xs, ys, l, h, hl => by
  simp only [compXs, Option.bind_eq_some_iff, Option.map_eq_some_iff] at h
  obtain ⟨y, hy, ys, hys, rfl⟩ := h
  unfold ptsOf at hl
  split at hl
  ·rename_i v hv
   simp only [Option.map_eq_some_iff] at hl
   obtain ⟨l, hl, rfl⟩ := hl
   have ih := ptsOf_rel he hys hl
   refine ⟨by simpa using ih.1, fun k u z hu hz => ?_⟩
   cases k with
   | zero =>
    simp at hu hz
    subst hu
    subst hz
    have := vl_rel he hy
    rw [hv] at this
    exact this
   | succ k => exact ih.2 k u z (by simpa using hu) (by simpa using hz)
  ·cases hl
theorem capsL_length (caps : Nat → AV) : ∀ (n k : Nat), (capsL caps k n).length = n
 | 0, k => rfl
 | n + 1, k => by simp [capsL, capsL_length caps n (k + 1)]
theorem capsL_get (caps : Nat → AV) : ∀ (n k j : Nat), (capsL caps k n)[j]? = if j < n then some (.one (caps (k + j))) else none
 | 0, k, j => by simp [capsL]
 | n + 1, k, 0 => by simp [capsL]
 | n + 1, k, j + 1 => by
  simp only [capsL, List.getElem?_cons_succ, capsL_get caps n (k + 1) j]
  by_cases h : j < n
  ·rw [if_pos h, if_pos (by omega), show k + 1 + j = k + (j + 1) by omega]
  ·rw [if_neg h, if_neg (by omega)]
theorem compO_call {op : Op} {f : Opd} {as : List Opd} (h : compO P op = some (.call f as)) : ∃ f' args ts, op = .call { callee := .value f', args := args, argTypes := ts } ∧ compX f' = some f ∧ compXs args.toList = some as := by
 cases op with
 | call cl =>
  obtain ⟨callee, args, ts⟩ := cl
  cases callee with
  | value f' =>
   simp only [compO, Option.map_eq_some_iff, Option.bind_eq_some_iff] at h
   obtain ⟨F, hF, as', has, he⟩ := h
   injection he with h1 h2
   subst h1; subst h2
   exact ⟨f', args, ts, rfl, hF, has⟩
  | invoke x m => simp [compO] at h
  | builtin b =>
   exfalso
   cases b <;> simp only [compO, reduceCtorEq] at h
   all_goals (repeat' (first | (injection h with h; cases h; done) | (split at h) | (simp only [Option.bind_eq_some_iff, Option.map_eq_some_iff] at h; obtain ⟨_, _, h⟩ := h) | (cases h; done) | (obtain ⟨_, _, h⟩ := h)))
 | binOp op t x y u =>
  exfalso
  simp only [compO, Option.bind_eq_some_iff, Option.map_eq_some_iff] at h
  obtain ⟨X, _, Y, _, h⟩ := h
  unfold binC at h
  split at h <;> cases h
 | slice t x lo hi mx =>
  exfalso
  cases mx with
  | none => 
   simp only [compO, Option.bind_eq_some_iff] at h
   obtain ⟨_, _, _, _, _, _, h⟩ := h
   split at h
   ·injection h with h; cases h
   ·simp only [Option.bind_eq_some_iff, Option.map_eq_some_iff] at h
    obtain ⟨_, _, _, _, h⟩ := h
    cases h
  | some m =>
   simp only [compO, Option.bind_eq_some_iff] at h
   obtain ⟨_, _, _, _, _, _, _, _, _, _, _, _, h⟩ := h
   split at h
   ·injection h with h; cases h
   ·injection h with h; cases h
   ·cases h
 | makeSlice t x y =>
  exfalso
  simp only [compO, Option.bind_eq_some_iff] at h
  obtain ⟨_, _, _, _, _, _, _, _, _, _, h⟩ := h
  split at h
  ·injection h with h; cases h
  ·cases h
 | buildSlice t len parts =>
  exfalso
  simp only [compO, Option.bind_eq_some_iff] at h
  obtain ⟨_, _, _, _, _, _, _, _, h⟩ := h
  split at h
  ·injection h with h; cases h
  split at h
  ·injection h with h; cases h
  ·cases h
 | convert src dt x =>
  exfalso
  simp only [compO] at h
  split at h
  ·simp only [Option.map_eq_some_iff] at h
   obtain ⟨_, _, h⟩ := h
   cases h
  ·simp only [Option.bind_eq_some_iff, Option.map_eq_some_iff] at h
   obtain ⟨_, _, _, _, _, _, h⟩ := h
   cases h
 | _ =>
  exfalso
  simp only [compO] at h
  first
  | (cases h; done)
  | ((repeat' (first | (split at h) | (simp only [Option.bind_eq_some_iff, Option.map_eq_some_iff] at h) | (cases h; done) | (obtain ⟨_, _, h⟩ := h))) <;> simp_all)
theorem stp0_sound {o : Oper} {op : O} (hco : compO P o.op = some op) (hst : stOk op o.dst = true) (hd : ∀ i, o.dst = some i → i < a.tmps.size) (hG : GI P I) (hm : Mem I σ M w) (he : RelE I σ e a) (hs : Stp0 P d true op e M r M') {K : Act → World → Prop} {Q : Exit → Act → World → Prop}
  (hK : ∀ v w', After I σ M w (put e o.dst r) M' a (a.put o.dst v) w' → K (a.put o.dst v) w') : o.wp P a w K Q := by
 by_cases hc : isCall op = true
 ·obtain ⟨f, as, rfl⟩ : ∃ f as, op = .call f as := by
   cases op <;> first | exact ⟨_, _, rfl⟩ | cases hc
  obtain ⟨f', args, ts, hop, hf, has⟩ := compO_call hco
  obtain ⟨⟨k, caps, ps, hcal, hps, hcall⟩, hM⟩ := hs
  have hfv := vl_rel he hf
  unfold callee at hcal
  split at hcal
  ·rename_i fi ni ci hfn2
   injection hcal with hcal
   injection hcal with h1 h2
   subst h1; subst h2
   rw [hfn2] at hfv
   obtain ⟨cs, hfe, hcs, hcr⟩ := hfv
   have hargs := ptsOf_rel he has hps
   have hexec : (execOp a.eval o).run P w = (callFunc fi ((args.map a.eval) ++ cs)).run P w := by
    have : o.op = .call { callee := .value f', args := args, argTypes := ts } := hop
    simp only [execOp, this, resolve, hfe, Deferred.ofValue, Sem.run_bind, Sem.run_pure, Result.andThen_ok, invoke, Array.empty_append]
   have hl : ps.length = args.size := by have := hargs.1; simpa using this
   have hcc := hcall I σ w ((args.map a.eval) ++ cs) hG hm (by simp [hl, hcs, capsL_length]) (fun k q x hq hx => ?_)
   rotate_left
   ·by_cases hk : k < ps.length
    ·rw [List.getElem?_append_left hk] at hq
     have hx2 : (args.map a.eval)[k]? = some x := by rw [Array.getElem?_append_left (by simp; omega)] at hx; exact hx
     refine hargs.2 k q x hq ?_
     rw [← Array.toList_map]
     simpa using hx2
    ·rw [List.getElem?_append_right (by omega), capsL_get] at hq
     split at hq
     ·injection hq with hq
      subst hq
      rw [Array.getElem?_append_right (by simp; omega)] at hx
      simp only [Array.size_map] at hx
      rw [Nat.zero_add]
      have := hcr (k - args.size) x hx
      rw [hl]
      exact this
     ·cases hq
   ·unfold Oper.wp
    rw [hexec]
    rcases hcc with ⟨⟨fn, hfn, hname, hbody⟩, hcall⟩ | ⟨v, w', hrun, I', σ', hrv, hev⟩
    ·have hrun : (callFunc fi ((args.map a.eval) ++ cs)).run P w = .ok (.enter fi ((args.map a.eval) ++ cs)) w := by
      simp only [callFunc, program, Sem.run, Sem.run_bind, Sem.run_pure, Result.andThen_ok, hfn]
      simp only [hname, Bool.false_eq_true, if_false]
      have hb : fn.body.isNone = false := by rw [← Option.not_isSome, hbody]; rfl
      simp [hb]
     rw [hrun]
     refine hcall.mono ?_
     rintro en w' ⟨v, rfl, I', σ', hrv, hev⟩
     exact hK v w' ⟨I', σ', hev, relE_put (RelE_mono hev.extI hev.extP he) hd (.inr hrv), put_defers, put_size⟩
    ·rw [hrun]
     exact hK v w' ⟨I', σ', hev, relE_put (RelE_mono hev.extI hev.extP he) hd (.inr hrv), put_defers, put_size⟩
  ·cases hcal
 ·have hs' : ∃ c, out e M true op = some (r, M', c) ∧ c := by
   cases op <;> first | exact hs | exact absurd rfl hc
  obtain ⟨c, ho, hcc⟩ := hs'
  obtain ⟨dst, op', ty, pos, after, gd⟩ := o
  obtain ⟨nx, I', σ', w', hrun, hrel, hev⟩ := (out_sound (ty := ty) (pos := pos) (after := after) (gd := gd) hco (by simpa using hc) hm he hst ho hcc).goes
  unfold Oper.wp
  rw [hrun]
  have he' := RelE_mono hev.extI hev.extP he
  rcases hrel with ⟨v, rfl, hrv⟩ | ⟨rfl, rfl⟩
  ·exact hK v w' ⟨I', σ', hev, relE_put he' hd (.inr hrv), put_defers, put_size⟩
  ·exact hK undef w' ⟨I', σ', hev, relE_put he' hd (.inr trivial), put_defers, put_size⟩
theorem gcond_spec {s : SV} {y : Value} {want c : Bool} (h : gcond s want = some c) (hr : RelS I σ s y) : (c = true → y = .bool want) ∧ (c = false → y ≠ .bool want) := by
 unfold gcond at h
 split at h
 ·rename_i b
  injection h with h
  subst h
  obtain ⟨rfl, _⟩ := hr
  cases b <;> simp
 ·rename_i b
  injection h with h
  subst h
  obtain ⟨rfl, _⟩ := hr
  cases b <;> simp
 ·rename_i c0 b
  injection h with h
  subst h
  obtain ⟨h1, h2⟩ := hr
  cases c0 with
  | true =>
   obtain ⟨rfl, _⟩ := h1 rfl
   cases b <;> simp
  | false =>
   have := h2 rfl
   subst this
   simp [undef]
 ·rename_i c0 b
  injection h with h
  subst h
  obtain ⟨h1, h2⟩ := hr
  cases c0 with
  | true =>
   obtain ⟨rfl, _⟩ := h1 rfl
   cases b <;> simp
  | false =>
   have := h2 rfl
   subst this
   simp [undef]
 ·cases h
def Sm (P : Program) (I : Im) (σ : List Plc) (M : List Blk) (w : World) (o : Oper) (e : Nat → SV) (a : Act) (r : SV) (M' : List Blk) : Prop :=
 ∀ (K : Act → World → Prop) (Q : Exit → Act → World → Prop), (∀ v w', After I σ M w (put e o.dst r) M' a (a.put o.dst v) w' → K (a.put o.dst v) w') → o.wp P a w K Q
def Gd (e : Nat → SV) (M M' : List Blk) (gd : Option (Nat × Bool)) (r : SV) (S0 : Bool → SV → Prop) : Prop :=
 match gd with
 | none => S0 true r
 | some (g, want) => ∃ c r0, gcond (e g) want = some c ∧ r = .g c r0 ∧ (c = true → S0 c r0) ∧ (c = false → M' = M)
theorem stp_gen {o : Oper} {ol : OpL} (hl : compL P a.tmps.size ops o = some ol) (hm : Mem I σ M w) (he : RelE I σ e a) {S0 : Bool → SV → Prop} (hs : Gd e M M' ol.gd r S0)
  (hS : compO P o.op = some ol.op → stOk ol.op o.dst = true → (∀ i, o.dst = some i → i < a.tmps.size) → ∀ r0, S0 true r0 → Sm P I σ M w o e a r0 M') {K : Act → World → Prop} {Q : Exit → Act → World → Prop}
  (hK : ∀ v w', After I σ M w (put e ol.dst r) M' a (a.put o.dst v) w' → K (a.put o.dst v) w') : if Region.wanted o (yielded ops a.tmps) = true then o.wp P a w K Q else K (a.put o.dst undef) w := by
 unfold compL at hl
 simp only [Option.bind_eq_some_iff] at hl
 obtain ⟨op, hco, hl⟩ := hl
 by_cases hcd : (dstOk o.dst a.tmps.size && stOk op o.dst) = true
 ·rw [if_pos hcd] at hl
  simp only [Bool.and_eq_true] at hcd
  obtain ⟨hdst, hst⟩ := hcd
  have hd : ∀ i, o.dst = some i → i < a.tmps.size := by
   intro i hi
   rw [hi] at hdst
   simpa [dstOk] using hdst
  cases hg : o.guard with
  | none =>
   rw [hg] at hl
   injection hl with hl
   subst hl
   rw [if_pos (by unfold Region.wanted; rw [hg])]
   exact hS hco hst hd _ hs _ _ hK
  | some jw =>
   obtain ⟨j, want⟩ := jw
   rw [hg] at hl
   simp only [Option.map_eq_some_iff] at hl
   obtain ⟨g, hgd, rfl⟩ := hl
   obtain ⟨c, r0, hgc, rfl, h1, h2⟩ := hs
   obtain ⟨hc1, hc2⟩ := gcond_spec hgc (he g)
   have hy : yielded ops a.tmps j = (match a.tmps[g]? with | some (.bool b) => some b | _ => none) := by
    unfold yielded
    rw [hgd]
    rfl
   have hget : a.tmps.getD g undef = (a.tmps[g]?).getD undef := by rw [Array.getD_eq_getD_getElem?]
   cases c with
   | true =>
    have h3 := hc1 rfl
    have hw : Region.wanted o (yielded ops a.tmps) = true := by
     unfold Region.wanted
     rw [hg]
     show (yielded ops a.tmps j == some want) = true
     rw [hy]
     rw [hget] at h3
     cases ht : a.tmps[g]? with
     | none => rw [ht] at h3; cases h3
     | some x => rw [ht] at h3; simp only [Option.getD_some] at h3; subst h3; simp
    rw [if_pos hw]
    refine hS hco hst hd _ (h1 rfl) _ _ (fun v w' hA => hK v w' ?_)
    obtain ⟨I', σ', hev, hre, hde, hsz⟩ := hA
    refine ⟨I', σ', hev, fun i => ?_, hde, hsz⟩
    have := hre i
    cases ho : o.dst with
    | none => rw [ho] at this; exact this
    | some dd =>
     rw [ho] at this
     unfold put upd at this ⊢
     simp only [] at this ⊢
     by_cases hi : i = dd
     ·rw [if_pos hi] at this ⊢
      exact ⟨fun _ => this, fun h => by cases h⟩
     ·rw [if_neg hi] at this ⊢
      exact this
   | false =>
    have h3 := hc2 rfl
    have hw : ¬ Region.wanted o (yielded ops a.tmps) = true := by
     unfold Region.wanted
     rw [hg]
     show ¬ (yielded ops a.tmps j == some want) = true
     rw [hy]
     rw [hget] at h3
     cases ht : a.tmps[g]? with
     | none => simp
     | some x =>
      rw [ht] at h3
      simp only [Option.getD_some] at h3
      cases x <;> simp
      rename_i b
      intro hb
      exact h3 (by rw [hb])
    rw [if_neg hw]
    obtain rfl := h2 rfl
    refine hK undef w ⟨I, σ, Evo.refl hm, relE_put he hd (.inr ⟨fun h => (by cases h), fun _ => rfl⟩), put_defers, put_size⟩
 ·rw [if_neg hcd] at hl
  cases hl
theorem stp_sound {o : Oper} {ol : OpL} (hl : compL P a.tmps.size ops o = some ol) (hG : GI P I) (hm : Mem I σ M w) (he : RelE I σ e a) (hs : Stp P d ol e M r M') {K : Act → World → Prop} {Q : Exit → Act → World → Prop}
  (hK : ∀ v w', After I σ M w (put e ol.dst r) M' a (a.put o.dst v) w' → K (a.put o.dst v) w') : if Region.wanted o (yielded ops a.tmps) = true then o.wp P a w K Q else K (a.put o.dst undef) w := by
 refine stp_gen hl hm he (S0 := fun c r0 => Stp0 P d c ol.op e M r0 M') hs (fun hco hst hd r0 h0 K Q hK => ?_) hK
 cases d with
 | true => exact stp0_sound hco hst hd hG hm he h0 hK
 | false => exact stp0_sound hco hst hd hG hm he h0 hK
end
end Go.Proofs.YtpdcpdngckpgbaaGreatAbs
end
section
namespace Go.Proofs.YtpdcpdngckpgbaaGreatAbs
open Go Go.RowKit

def opnds : O → List Opd
 | .mv x | .box _ _ x | .ld _ _ x | .nilck x | .un _ x | .cvi _ x | .fa _ x | .fld _ _ _ x | .ex x _ | .len x | .lens x | .cap x | .clr _ _ x | .b2s x | .rng x | .nxt x | .mks _ _ _ _ x => [x]
 | .mkm => []
 | .lku _ _ _ x k => [x, k]
 | .mup _ x k v => [x, k, v]
 | .s3f x h m => [x, h, m]
 | .pick c a b => [c, a, b]
 | .alloc .. => []
 | .bld _ ps => ps.map fun p => p.2.2
 | .bsl _ _ _ _ ps => ps.map fun p => p.2
 | .st _ a x | .bin _ a x | .ia _ a x | .ix a x | .mn a x | .mx a x | .app _ _ _ _ a x | .cpy _ a x | .apz _ _ _ _ a x | .aps _ a x | .eqa _ _ a x | .eqb _ a x => [a, x]
 | .mkf _ cs => cs
 | .slc _ x lo hi | .sls x lo hi => x :: (lo.toList ++ hi.toList)
 | .s3 x lo hi mx => x :: (lo.toList ++ hi.toList ++ mx.toList)
 | .call f as => f :: as
def slotsOf : List Opd → List Nat
 | [] => []
 | .t i :: xs => i :: slotsOf xs
 | .k _ :: xs => slotsOf xs
def looks (o : OpL) : List Nat := slotsOf (opnds o.op) ++ (match o.gd with | some (g, _) => [g] | none => [])
def apartL (x y : OpL) : Bool :=
 (match x.dst with | some d => !(looks y).contains d && y.dst != some d | none => true) && (match y.dst with | some d => !(looks x).contains d | none => true)
def commOk (x y : OpL) : Bool := apartL x y && (cls x.op == 0 || cls y.op == 0 || (decide (cls x.op ≤ 1) && decide (cls y.op ≤ 1)))
theorem slots_raw {e e' : Nat → SV} : ∀ {l : List Opd}, (∀ i ∈ slotsOf l, e i = e' i) → ∀ x ∈ l, raw e x = raw e' x
 | [], _, x, hx => by simp at hx
 | .t i :: l, h, x, hx => by
  rcases List.mem_cons.1 hx with rfl | hx
  ·exact h i (by simp [slotsOf])
  ·exact slots_raw (l := l) (fun j hj => h j (by simp [slotsOf, hj])) x hx
 | .k q :: l, h, x, hx => by
  rcases List.mem_cons.1 hx with rfl | hx
  ·rfl
  ·exact slots_raw (l := l) (fun j hj => h j (by simpa [slotsOf] using hj)) x hx
theorem fillParts_congr {f g : Opd → SV} : ∀ {ps : List (Nat × Nat × Opd)} {l : List AV}, (∀ p ∈ ps, f p.2.2 = g p.2.2) → fillParts f l ps = fillParts g l ps
 | [], l, h => rfl
 | (off, sz, x) :: ps, l, h => by
  have h0 : f x = g x := h (off, sz, x) (by simp)
  have ih := fun l' => fillParts_congr (ps := ps) (l := l') (fun p hp => h p (by simp [hp]))
  simp only [fillParts, h0, ih]
theorem fillRows_congr {f g : Opd → SV} {sz : Nat} : ∀ {ps : List (Nat × Opd)} {l : List (List AV)}, (∀ p ∈ ps, f p.2 = g p.2) → fillRows f sz l ps = fillRows g sz l ps
 | [], l, h => rfl
 | (i, x) :: ps, l, h => by
  have h0 : f x = g x := h (i, x) (by simp)
  have ih := fun l' => fillRows_congr (sz := sz) (ps := ps) (l := l') (fun p hp => h p (by simp [hp]))
  simp only [fillRows, h0, ih]
theorem capsOf_congr {f g : Opd → SV} : ∀ {xs : List Opd}, (∀ x ∈ xs, f x = g x) → capsOf f xs = capsOf g xs
 | [], h => rfl
 | x :: xs, h => by
  have h0 : f x = g x := h x (by simp)
  simp only [capsOf, h0, capsOf_congr (xs := xs) (fun y hy => h y (by simp [hy]))]
theorem ptsOf_congr {f g : Opd → SV} : ∀ {xs : List Opd}, (∀ x ∈ xs, f x = g x) → ptsOf f xs = ptsOf g xs
 | [], h => rfl
 | x :: xs, h => by
  have h0 : f x = g x := h x (by simp)
  simp only [ptsOf, h0, ptsOf_congr (xs := xs) (fun y hy => h y (by simp [hy]))]
theorem bnd_congr {f g : Opd → SV} {d : Int} : ∀ {x : Option Opd}, (∀ y ∈ x.toList, f y = g y) → bnd f d x = bnd g d x
 | none, h => rfl
 | some y, h => by simp only [bnd, h y (by simp)]
theorem out_congr {e e' : Nat → SV} {M : List Blk} {ctx : Bool} {o : O} (h : ∀ x ∈ opnds o, raw e x = raw e' x) : out e M ctx o = out e' M ctx o := by
 cases o with
 | bld z ps =>
  simp only [out]
  rw [fillParts_congr (f := fun x => strip ctx (raw e x)) (g := fun x => strip ctx (raw e' x)) (fun p hp => by show strip ctx _ = strip ctx _; rw [h p.2.2 (List.mem_map.2 ⟨p, hp, rfl⟩)])]
 | bsl t sz len z ps =>
  simp only [out]
  rw [fillRows_congr (f := fun x => strip ctx (raw e x)) (g := fun x => strip ctx (raw e' x)) (fun p hp => by show strip ctx _ = strip ctx _; rw [h p.2 (List.mem_map.2 ⟨p, hp, rfl⟩)])]
 | mkf f cs =>
  simp only [out]
  rw [capsOf_congr (f := fun x => strip ctx (raw e x)) (g := fun x => strip ctx (raw e' x)) (fun x hx => by show strip ctx _ = strip ctx _; rw [h x hx])]
 | slc sz x lo hi =>
  have hb : ∀ d, ∀ z ∈ [lo, hi], bnd (fun x => strip ctx (raw e x)) d z = bnd (fun x => strip ctx (raw e' x)) d z := fun d z hz => bnd_congr (fun y hy => by
   show strip ctx _ = strip ctx _
   rw [h y (by simp only [opnds, List.mem_cons, List.mem_append]; simp at hz; rcases hz with rfl | rfl; exact .inr (.inl hy); exact .inr (.inr hy))])
  have h0 : raw e x = raw e' x := h x (by simp [opnds])
  simp only [out, h0, hb _ lo (by simp), hb _ hi (by simp)]
 | sls x lo hi =>
  have hb : ∀ d, ∀ z ∈ [lo, hi], bnd (fun x => strip ctx (raw e x)) d z = bnd (fun x => strip ctx (raw e' x)) d z := fun d z hz => bnd_congr (fun y hy => by
   show strip ctx _ = strip ctx _
   rw [h y (by simp only [opnds, List.mem_cons, List.mem_append]; simp at hz; rcases hz with rfl | rfl; exact .inr (.inl hy); exact .inr (.inr hy))])
  have h0 : raw e x = raw e' x := h x (by simp [opnds])
  simp only [out, h0, hb _ lo (by simp), hb _ hi (by simp)]
 | s3 x lo hi mx =>
  have hb : ∀ d, ∀ z ∈ [lo, hi, mx], bnd (fun x => strip ctx (raw e x)) d z = bnd (fun x => strip ctx (raw e' x)) d z := fun d z hz => bnd_congr (fun y hy => by
   show strip ctx _ = strip ctx _
   rw [h y (by simp only [opnds, List.mem_cons, List.mem_append]; simp at hz; rcases hz with rfl | rfl | rfl; exact .inr (.inl (.inl hy)); exact .inr (.inl (.inr hy)); exact .inr (.inr hy))])
  have h0 : raw e x = raw e' x := h x (by simp [opnds])
  simp only [out, h0, hb _ lo (by simp), hb _ hi (by simp), hb _ mx (by simp)]
 | cpy sz x y =>
  have h1 : raw e x = raw e' x := h x (by simp [opnds])
  have h2 : raw e y = raw e' y := h y (by simp [opnds])
  simp only [out, h1, h2]
 | apz t sz by_ z x y =>
  have h1 : raw e x = raw e' x := h x (by simp [opnds])
  have h2 : raw e y = raw e' y := h y (by simp [opnds])
  simp only [out, h1, h2]
 | aps t x y =>
  have h1 : raw e x = raw e' x := h x (by simp [opnds])
  have h2 : raw e y = raw e' y := h y (by simp [opnds])
  simp only [out, h1, h2]
 | eqa ks neg x y =>
  have h1 : raw e x = raw e' x := h x (by simp [opnds])
  have h2 : raw e y = raw e' y := h y (by simp [opnds])
  simp only [out, h1, h2]
 | eqb neg x y =>
  have h1 : raw e x = raw e' x := h x (by simp [opnds])
  have h2 : raw e y = raw e' y := h y (by simp [opnds])
  simp only [out, h1, h2]
 | cap x => have h1 : raw e x = raw e' x := h x (by simp [opnds]); simp only [out, h1]
 | clr sz z x => have h1 : raw e x = raw e' x := h x (by simp [opnds]); simp only [out, h1]
 | b2s x => have h1 : raw e x = raw e' x := h x (by simp [opnds]); simp only [out, h1]
 | rng x => have h1 : raw e x = raw e' x := h x (by simp [opnds]); simp only [out, h1]
 | nxt x => have h1 : raw e x = raw e' x := h x (by simp [opnds]); simp only [out, h1]
 | mks t sz by_ z x => have h1 : raw e x = raw e' x := h x (by simp [opnds]); simp only [out, h1]
 | alloc t sz z => rfl
 | mkm => rfl
 | s3f x y z =>
  have h1 : raw e x = raw e' x := h x (by simp [opnds])
  have h2 : raw e y = raw e' y := h y (by simp [opnds])
  have h3 : raw e z = raw e' z := h z (by simp [opnds])
  simp only [out, h1, h2, h3]
 | lku z str ok x k =>
  have h1 : raw e x = raw e' x := h x (by simp [opnds])
  have h2 : raw e k = raw e' k := h k (by simp [opnds])
  simp only [out, h1, h2]
 | mup str x k v =>
  have h1 : raw e x = raw e' x := h x (by simp [opnds])
  have h2 : raw e k = raw e' k := h k (by simp [opnds])
  have h3 : raw e v = raw e' v := h v (by simp [opnds])
  simp only [out, h1, h2, h3]
 | call f as => rfl
 | pick c a b =>
  have h1 : raw e c = raw e' c := h c (by simp [opnds])
  have h2 : raw e a = raw e' a := h a (by simp [opnds])
  have h3 : raw e b = raw e' b := h b (by simp [opnds])
  simp only [out, h1, h2, h3]
 | st sz x y =>
  have h1 : raw e x = raw e' x := h x (by simp [opnds])
  have h2 : raw e y = raw e' y := h y (by simp [opnds])
  simp only [out, h1, h2]
 | bin op x y =>
  have h1 : raw e x = raw e' x := h x (by simp [opnds])
  have h2 : raw e y = raw e' y := h y (by simp [opnds])
  simp only [out, h1, h2]
 | ia sz x y =>
  have h1 : raw e x = raw e' x := h x (by simp [opnds])
  have h2 : raw e y = raw e' y := h y (by simp [opnds])
  simp only [out, h1, h2]
 | ix x y =>
  have h1 : raw e x = raw e' x := h x (by simp [opnds])
  have h2 : raw e y = raw e' y := h y (by simp [opnds])
  simp only [out, h1, h2]
 | mn x y =>
  have h1 : raw e x = raw e' x := h x (by simp [opnds])
  have h2 : raw e y = raw e' y := h y (by simp [opnds])
  simp only [out, h1, h2]
 | mx x y =>
  have h1 : raw e x = raw e' x := h x (by simp [opnds])
  have h2 : raw e y = raw e' y := h y (by simp [opnds])
  simp only [out, h1, h2]
 | app t sz by_ z x y =>
  have h1 : raw e x = raw e' x := h x (by simp [opnds])
  have h2 : raw e y = raw e' y := h y (by simp [opnds])
  simp only [out, h1, h2]
 | mv x => have h1 : raw e x = raw e' x := h x (by simp [opnds]); simp only [out, h1]
 | box t sz x => have h1 : raw e x = raw e' x := h x (by simp [opnds]); simp only [out, h1]
 | ld g sz x => have h1 : raw e x = raw e' x := h x (by simp [opnds]); simp only [out, h1]
 | nilck x => have h1 : raw e x = raw e' x := h x (by simp [opnds]); simp only [out, h1]
 | un op x => have h1 : raw e x = raw e' x := h x (by simp [opnds]); simp only [out, h1]
 | cvi k x => have h1 : raw e x = raw e' x := h x (by simp [opnds]); simp only [out, h1]
 | fa off x => have h1 : raw e x = raw e' x := h x (by simp [opnds]); simp only [out, h1]
 | fld g off sz x => have h1 : raw e x = raw e' x := h x (by simp [opnds]); simp only [out, h1]
 | ex x i => have h1 : raw e x = raw e' x := h x (by simp [opnds]); simp only [out, h1]
 | len x => have h1 : raw e x = raw e' x := h x (by simp [opnds]); simp only [out, h1]
 | lens x => have h1 : raw e x = raw e' x := h x (by simp [opnds]); simp only [out, h1]
theorem out_cls0 {e : Nat → SV} {M M2 M' : List Blk} {ctx : Bool} {o : O} {r : SV} {c : Prop} (hk : cls o = 0) (h : out e M ctx o = some (r, M', c)) : M' = M ∧ out e M2 ctx o = some (r, M2, c) := by
 cases o <;> simp only [cls, reduceCtorEq] at hk <;> first | (exact absurd hk (by decide)) | skip
 all_goals
  simp only [out] at h ⊢
  first
  | (simp only [Option.some.injEq, Prod.mk.injEq] at h; obtain ⟨rfl, rfl, rfl⟩ := h; exact ⟨rfl, rfl⟩)
  | (split at h <;> first | (cases h; done) | (simp only [Option.some.injEq, Prod.mk.injEq] at h; obtain ⟨rfl, rfl, rfl⟩ := h; exact ⟨rfl, rfl⟩) | (split at h <;> first | (cases h; done) | (simp only [Option.some.injEq, Prod.mk.injEq] at h; obtain ⟨rfl, rfl, rfl⟩ := h; exact ⟨rfl, rfl⟩)))
  | (split at h <;> first | (cases h; done) | (split at h <;> first | (cases h; done) | (rename_i hk2; simp only [Option.some.injEq, Prod.mk.injEq] at h; obtain ⟨rfl, rfl, rfl⟩ := h; refine ⟨rfl, ?_⟩; simp only [hk2, if_true, if_false, Bool.false_eq_true])))
theorem out_cls1 {e : Nat → SV} {M M' : List Blk} {ctx : Bool} {o : O} {r : SV} {c : Prop} (hk : cls o ≤ 1) (h : out e M ctx o = some (r, M', c)) : M' = M := by
 by_cases h0 : cls o = 0
 ·exact (out_cls0 (M2 := M) h0 h).1
 ·cases o <;> simp only [cls] at hk h0 <;> first | (exact absurd rfl h0) | (exact absurd hk (by decide)) | skip
  all_goals
   simp only [out] at h
   repeat' (first | (cases h; done) | (simp only [Option.some.injEq, Prod.mk.injEq] at h; obtain ⟨_, rfl, _⟩ := h; rfl) | split at h)
theorem stp0_congr {P : Program} {d ctx : Bool} {o : O} {e e' : Nat → SV} {M M' : List Blk} {r : SV} (h : ∀ x ∈ opnds o, raw e x = raw e' x) (hs : Stp0 P d ctx o e M r M') : Stp0 P d ctx o e' M r M' := by
 by_cases hc : isCall o = true
 ·cases o <;> first | (cases hc; done) | skip
  rename_i f as
  have h1 := ptsOf_congr (f := fun x => strip ctx (raw e x)) (g := fun x => strip ctx (raw e' x)) (xs := as) (fun x hx => by show strip ctx _ = strip ctx _; rw [h x (by simp [opnds, hx])])
  have h2 : raw e f = raw e' f := h f (by simp [opnds])
  show CallOk P M (strip ctx (raw e' f)) (ptsOf (fun x => strip ctx (raw e' x)) as) r M' ∧ (d = true → M' = M)
  rw [← h1, ← h2]
  exact hs
 ·have : ∃ c, out e M ctx o = some (r, M', c) ∧ c := by cases o <;> first | exact hs | exact absurd rfl hc
  rw [out_congr h] at this
  cases o <;> first | exact this | exact absurd rfl hc
theorem stp_congr {P : Program} {d : Bool} {o : OpL} {e e' : Nat → SV} {M M' : List Blk} {r : SV} (h : ∀ i ∈ looks o, e i = e' i) (hs : Stp P d o e M r M') : Stp P d o e' M r M' := by
 have h1 : ∀ x ∈ opnds o.op, raw e x = raw e' x := slots_raw (fun i hi => h i (List.mem_append_left _ hi))
 unfold Stp at hs ⊢
 cases hg : o.gd with
 | none => rw [hg] at hs; exact stp0_congr h1 hs
 | some gw =>
  obtain ⟨g, want⟩ := gw
  rw [hg] at hs
  obtain ⟨c, r0, h2, h3, h4, h5⟩ := hs
  have h6 : e g = e' g := h g (by unfold looks; rw [hg]; simp)
  exact ⟨c, r0, by rw [← h6]; exact h2, h3, fun hc => stp0_congr h1 (h4 hc), h5⟩
theorem stp_cls1 {P : Program} {o : OpL} {e : Nat → SV} {M M' : List Blk} {r : SV} (hk : cls o.op ≤ 1) (hs : Stp P true o e M r M') : M' = M := by
 have key : ∀ {ctx : Bool} {r' : SV} {N : List Blk}, Stp0 P true ctx o.op e M r' N → N = M := by
  intro ctx r' N h0
  unfold Stp0 at h0
  split at h0
  ·exact h0.2 rfl
  ·obtain ⟨c, h1, _⟩ := h0
   exact out_cls1 hk h1
 unfold Stp at hs
 split at hs
 ·exact key hs
 ·obtain ⟨c, r0, _, _, h4, h5⟩ := hs
  cases c with
  | true => exact key (h4 rfl)
  | false => exact h5 rfl
theorem stp_cls0 {P : Program} {o : OpL} {e : Nat → SV} {M M' : List Blk} {r : SV} (hk : cls o.op = 0) (hs : Stp P true o e M r M') (M2 : List Blk) : Stp P true o e M2 r M2 := by
 have key : ∀ {ctx : Bool} {r' : SV} {N : List Blk}, Stp0 P true ctx o.op e M r' N → Stp0 P true ctx o.op e M2 r' M2 := by
  intro ctx r' N h0
  unfold Stp0 at h0 ⊢
  split at h0
  ·rename_i hop; rw [hop] at hk; simp [cls] at hk
  ·obtain ⟨c, h1, h3⟩ := h0
   exact ⟨c, (out_cls0 hk h1).2, h3⟩
 unfold Stp at hs ⊢
 cases hg : o.gd with
 | none => rw [hg] at hs; exact key hs
 | some gw =>
  obtain ⟨g, want⟩ := gw
  rw [hg] at hs
  obtain ⟨c, r0, h2, h3, h4, h5⟩ := hs
  exact ⟨c, r0, h2, h3, fun hc => key (h4 hc), fun _ => rfl⟩
theorem apartL_spec {x y : OpL} (h : apartL x y = true) : (∀ d, x.dst = some d → d ∉ looks y) ∧ (∀ d, x.dst = some d → y.dst ≠ some d) ∧ (∀ d, y.dst = some d → d ∉ looks x) := by
 refine ⟨fun d hd => ?_, fun d hd => ?_, fun d hd => ?_⟩ <;> simp [apartL, hd] at h
 ·exact h.1.1
 ·exact h.1.2
 ·exact h.2
theorem put_ne {e : Nat → SV} {dst : Option Nat} {v : SV} {i : Nat} (h : ∀ d, dst = some d → d ≠ i) : put e dst v i = e i := by
 cases dst with
 | none => rfl
 | some d => exact if_neg (fun hh => h d rfl hh.symm)
theorem put_comm {e : Nat → SV} {x y : Option Nat} {u v : SV} (h : ∀ d, x = some d → y ≠ some d) : put (put e x u) y v = put (put e y v) x u := by
 cases x with
 | none => rfl
 | some a =>
  cases y with
  | none => rfl
  | some b =>
   have hne : a ≠ b := fun hh => h a rfl (by rw [hh])
   funext i
   simp only [put, upd]
   by_cases h1 : i = a
   ·have h2 : ¬ i = b := fun hh => hne (by omega)
    simp [h1, h2, hne]
   ·simp [h1]
theorem comm {P : Program} {x y : OpL} {e : Nat → SV} {M M1 M2 : List Blk} {r r2 : SV} (h : commOk x y = true) (h1 : Stp P true x e M r M1) (h2 : Stp P true y (put e x.dst r) M1 r2 M2) :
  ∃ N, Stp P true y e M r2 N ∧ Stp P true x (put e y.dst r2) N r M2 ∧ put (put e x.dst r) y.dst r2 = put (put e y.dst r2) x.dst r := by
 unfold commOk at h
 simp only [Bool.and_eq_true, Bool.or_eq_true, beq_iff_eq, decide_eq_true_eq] at h
 obtain ⟨ha, hc⟩ := h
 obtain ⟨a1, a2, a3⟩ := apartL_spec ha
 have hy : Stp P true y e M1 r2 M2 := stp_congr (fun i hi => put_ne (fun d hd hh => a1 d hd (hh ▸ hi))) h2
 have back : ∀ {N N'}, Stp P true x e N r N' → Stp P true x (put e y.dst r2) N r N' := fun hh => stp_congr (fun i hi => (put_ne (fun d hd h3 => a3 d hd (h3 ▸ hi))).symm) hh
 have hp : put (put e x.dst r) y.dst r2 = put (put e y.dst r2) x.dst r := put_comm a2
 rcases hc with (hc | hc) | hc
 ·obtain rfl := stp_cls1 (by omega) h1
  exact ⟨M2, hy, back (stp_cls0 hc h1 M2), hp⟩
 ·obtain rfl := stp_cls1 (by omega) hy
  exact ⟨M, stp_cls0 hc hy M, back h1, hp⟩
 ·obtain rfl := stp_cls1 hc.1 h1
  obtain rfl := stp_cls1 hc.2 hy
  exact ⟨M2, hy, back h1, hp⟩
theorem bubble {P : Program} {y : OpL} {v : List OpL} : ∀ {u : List OpL} {s : St} {K : St → Prop}, (∀ x ∈ u, commOk x y = true) → runOps P true (u ++ y :: v) s K → runOps P true (y :: (u ++ v)) s K
 | [], s, K, h, hr => hr
 | x :: u, s, K, h, hr => by
  obtain ⟨r, M1, h1, h2⟩ := hr
  have ih := bubble (u := u) (fun z hz => h z (by simp [hz])) h2
  obtain ⟨r2, M2, h3, h4⟩ := ih
  obtain ⟨N, k1, k2, k3⟩ := comm (h x (by simp)) h1 h3
  refine ⟨r2, N, k1, r, M2, k2, ?_⟩
  rw [← k3]
  exact h4
end Go.Proofs.YtpdcpdngckpgbaaGreatAbs
end
section
namespace Go.Proofs.YtpdcpdngckpgbaaGreatAbs
open Go Go.RowKit

def compLs (P : Program) (n : Nat) (ops : Array Oper) : List Oper → Option (List OpL)
 | [] => some []
 | o :: os => (compL P n ops o).bind fun x => (compLs P n ops os).map (x :: ·)
def tabT (ops : List Oper) : List (List Nat) := ops.foldl (fun acc o => acc ++ [((o.after.toList.filter (Region.binds .any)).flatMap fun e => e.on :: acc.getD e.on []).eraseDups]) []
def okAt (ops : Array Oper) (ols : List OpL) (T : List (List Nat)) (i : Nat) (o : Oper) (x : OpL) : Bool :=
 (o.after.toList.all fun e => !Region.binds .any e || decide (e.on < i)) &&
 ((T.getD i []).all fun k => o.after.toList.any fun e => Region.binds .any e && (e.on == k || (T.getD e.on []).contains k)) &&
 ((List.range i).all fun k => (T.getD i []).contains k || match ols[k]? with | some y => commOk y x | none => false)
def okDraw (ops : Array Oper) (ols : List OpL) (T : List (List Nat)) : Bool :=
 (List.range ops.size).all fun i => match ops[i]?, ols[i]? with | some o, some x => okAt ops ols T i o x | _, _ => false
def okTab (ops : Array Oper) (T : List (List Nat)) : Bool :=
 (List.range ops.size).all fun i => match ops[i]? with
  | some o => (o.after.toList.all fun e => !Region.binds .any e || decide (e.on < i)) && ((T.getD i []).all fun k => o.after.toList.any fun e => Region.binds .any e && (e.on == k || (T.getD e.on []).contains k))
  | none => false
def compC (P : Program) (n : Nat) : Code → Option C
 | .skip => some .skip
 | .region _ ops draw => (compLs P n ops ops.toList).bind fun ols => if draw then (if P.follows .mixedOrders then (if okDraw ops ols (tabT ops.toList) then some (.reg true ols) else if okTab ops (tabT ops.toList) then some (.rgx (tabT ops.toList) ols) else none) else none) else some (.reg false ols)
 | .seq a b => (compC P n a).bind fun a => (compC P n b).map fun b => .seq a b
 | .cond x a b => (compX x).bind fun x => (compC P n a).bind fun a => (compC P n b).map fun b => .cond x a b
 | .block id c => (compC P n c).map fun c => .block id c
 | .loop c => (compC P n c).map fun c => .loop c
 | .exit id => some (.exit id)
 | .ret => some .ret
 | .label _ => some .skip
 | .scope c => (compC P n c).map fun c => .scope c
 | _ => none
def Sim (n : Nat) (I0 : Im) (σ0 : List Plc) (M0 : List Blk) (w0 : World) (s : St) (a : Act) (w : World) : Prop :=
 ∃ I σ, Evo I0 σ0 M0 w0 I σ s.M w ∧ RelE I σ s.env a ∧ a.defers = [] ∧ a.tmps.size = n
section
variable {P : Program} {n m : Nat} {I0 : Im} {σ0 : List Plc} {M0 : List Blk} {w0 : World} {s : St} {a : Act} {w : World} {ops : Array Oper} {Q : Exit → Act → World → Prop}
theorem Keep.drew {S : Nat → Prop} (w : World) : Keep S w { w with drawn := w.drawn + 1 } := ⟨rfl, rfl, rfl, Nat.le_refl _, fun _ _ _ => rfl⟩
theorem Sim.drew (h : Sim n I0 σ0 M0 w0 s a w) : Sim n I0 σ0 M0 w0 s a { w with drawn := w.drawn + 1 } := by
 obtain ⟨I, σ, hev, he, h1, h2⟩ := h
 refine ⟨I, σ, hev.trans ⟨ExtI.refl _, ExtP.refl _, ?_, Keep.drew w, fun g h => .inl h, fun _ _ h => .inl h⟩, he, h1, h2⟩
 exact hev.mem.keep (S := fun _ => False) (Keep.drew w) (fun _ _ h => h) (fun _ _ _ h => h)
theorem sim_step {d : Bool} {o : Oper} {ol : OpL} {r : SV} {M' : List Blk} (hG : GI P I0) (hl : compL P n ops o = some ol) (hs : Sim n I0 σ0 M0 w0 s a w) (hst : Stp P d ol s.env s.M r M') {K : Act → World → Prop}
  (hK : ∀ v w', Sim n I0 σ0 M0 w0 ⟨put s.env ol.dst r, M'⟩ (a.put o.dst v) w' → K (a.put o.dst v) w') : if Region.wanted o (yielded ops a.tmps) = true then o.wp P a w K Q else K (a.put o.dst undef) w := by
 obtain ⟨I, σ, hev, he, hd, hn⟩ := hs
 subst hn
 refine stp_sound hl (hG.ext hev.extI) hev.mem he hst (fun v w' hA => hK v w' ?_)
 obtain ⟨I', σ', hev', he', hd', hn'⟩ := hA
 exact ⟨I', σ', hev.trans hev', he', hd'.trans hd, hn'⟩
theorem wpOp_of {i : Nat} {o : Oper} (ho : ops[i]? = some o) {K : Act → World → Prop} (h : if Region.wanted o (yielded ops a.tmps) = true then o.wp P a w K Q else K (a.put o.dst undef) w) : wpOp P ops Q i K a w := by
 unfold wpOp
 simp only [ho]
 split at h
 ·rename_i hw; rw [if_pos hw]; exact .inl h
 ·rename_i hw; rw [if_neg hw]; exact h
theorem ops_sound {d : Bool} {K : St → Prop} (hG : GI P I0) (hQ : ∀ s a w, Sim n I0 σ0 M0 w0 s a w → K s → Q .normal a w) : ∀ (l : List Oper) (k : Nat) (ols : List OpL) (s : St) (a : Act) (w : World), (∀ j, j < l.length → l[j]? = ops[k + j]?) → compLs P n ops l = some ols →
  runOps P d ols s K → Sim n I0 σ0 M0 w0 s a w → wpOps P ops Q (List.range' k l.length) a w
 | [], k, ols, s, a, w, _, hc, hr, hs => by
  injection hc with hc
  subst hc
  exact hQ s a w hs hr
 | o :: l, k, ols, s, a, w, hl, hc, hr, hs => by
  simp only [compLs, Option.bind_eq_some_iff, Option.map_eq_some_iff] at hc
  obtain ⟨x, hx, xs, hxs, rfl⟩ := hc
  obtain ⟨r, M', h1, h2⟩ := hr
  have h0 : ops[k]? = some o := by have := hl 0 (by simp); simpa using this.symm
  rw [List.length_cons, List.range'_succ, wpOps_cons]
  refine wpOp_of h0 (sim_step hG hx hs h1 (fun v w' hS => ?_))
  exact ops_sound hG hQ l (k + 1) xs _ _ _ (fun j hj => by have := hl (j + 1) (by simp; omega); simpa [Nat.add_assoc, Nat.add_comm 1 j] using this) hxs h2 hS
def Cl (ops : Array Oper) (listed : Array Bool) : Prop := ∀ (j : Nat) (o : Oper), ops[j]? = some o → listed.getD j false = true → ∀ e ∈ o.after, Region.binds .any e = true → listed.getD e.on false = true
theorem tab_listed {ols : List OpL} {T : List (List Nat)} (hok : okDraw ops ols T = true) {listed : Array Bool} (hcl : Cl ops listed) :
  ∀ (i : Nat) (o : Oper), ops[i]? = some o → (∀ e ∈ o.after, Region.binds .any e = true → listed.getD e.on false = true) → ∀ k ∈ T.getD i [], listed.getD k false = true := by
 intro i
 induction i using Nat.strongRecOn with
 | _ i ih =>
  intro o ho hall k hk
  have hi : i < ops.size := (Array.getElem?_eq_some_iff.1 ho).1
  have h1 := List.all_eq_true.1 hok i (List.mem_range.2 hi)
  simp only [ho] at h1
  split at h1
  ·rename_i o' x ho' hx
   injection ho' with ho'
   subst ho'
   simp only [okAt, Bool.and_eq_true] at h1
   have h2 := List.all_eq_true.1 h1.1.2 k hk
   obtain ⟨e, he, h3⟩ := List.any_eq_true.1 h2
   simp only [Bool.and_eq_true, Bool.or_eq_true, beq_iff_eq] at h3
   have he' : e ∈ o.after := by simpa using he
   rcases h3.2 with h4 | h4
   ·rw [← h4]; exact hall e he' h3.1
   ·have h5 := List.all_eq_true.1 h1.1.1 e he
    simp only [h3.1, Bool.not_true, Bool.false_or, decide_eq_true_eq] at h5
    have hlt : e.on < ops.size := by omega
    have hp : ops[e.on]? = some ops[e.on] := Array.getElem?_eq_getElem hlt
    exact ih e.on h5 _ hp (hcl e.on _ hp (hall e he' h3.1)) k (by simpa using h4)
  ·cases h1
theorem any_sound {ols : List OpL} {T : List (List Nat)} (hG : GI P I0) (hok : okDraw ops ols T = true) {K : St → Prop} (hQ : ∀ s a w, Sim n I0 σ0 M0 w0 s a w → K s → Q .normal a w) :
  ∀ (fuel : Nat) (listed : Array Bool) (rem : List (Nat × OpL)) (s : St) (a : Act) (w : World), rem.length = fuel → (∀ p ∈ rem, ols[p.1]? = some p.2 ∧ ∃ o, ops[p.1]? = some o ∧ compL P n ops o = some p.2) →
   rem.Pairwise (fun p q => p.1 < q.1) → (∀ i, i < ops.size → (listed.getD i true = false ↔ ∃ x, (i, x) ∈ rem)) → listed.size = ops.size → Cl ops listed → runOps P true (rem.map (·.2)) s K → Sim n I0 σ0 M0 w0 s a w → wpAny P .any ops Q fuel listed a w
 | 0, listed, rem, s, a, w, hl, hp, hpw, hli, hsz, hcl, hr, hs => by
  obtain rfl : rem = [] := List.eq_nil_of_length_eq_zero hl
  refine ⟨?_, hQ s a w hs hr⟩
  cases h : Region.ready .any ops listed with
  | nil => rfl
  | cons i l =>
   exfalso
   have hi : i ∈ Region.ready .any ops listed := by rw [h]; simp
   obtain ⟨h1, o, ho, _⟩ := mem_ready.1 hi
   obtain ⟨x, hx⟩ := (hli i (Array.getElem?_eq_some_iff.1 ho).1).1 h1
   simp at hx
 | fuel + 1, listed, rem, s, a, w, hl, hp, hpw, hli, hsz, hcl, hr, hs => by
  have unl : ∀ j, j < ops.size → listed.getD j false = false → listed.getD j true = false := by
   intro j hj h
   have hj' : j < listed.size := by omega
   simp [hj'] at h ⊢
   exact h
  have hcase : ∀ i o x, ops[i]? = some o → ols[i]? = some x → okAt ops ols T i o x = true := by
   intro i o x ho hx
   have h1 := List.all_eq_true.1 hok i (List.mem_range.2 (Array.getElem?_eq_some_iff.1 ho).1)
   simp only [ho, hx] at h1
   exact h1
  refine ⟨fun hnil => ?_, fun i hi => ?_⟩
  ·exfalso
   obtain ⟨p, rem', rfl⟩ : ∃ p l, rem = p :: l := by cases rem with | nil => simp at hl | cons p l => exact ⟨p, l, rfl⟩
   obtain ⟨hx, o, ho, hco⟩ := hp p (by simp)
   have hlt := (Array.getElem?_eq_some_iff.1 ho).1
   have hun : listed.getD p.1 true = false := (hli p.1 hlt).2 ⟨p.2, by simp⟩
   have hok1 := hcase p.1 o p.2 ho hx
   simp only [okAt, Bool.and_eq_true] at hok1
   have : p.1 ∈ Region.ready .any ops listed := by
    refine mem_ready.2 ⟨hun, o, ho, fun e he hb => ?_⟩
    have h5 := List.all_eq_true.1 hok1.1.1 e (by simpa using he)
    simp only [hb, Bool.not_true, Bool.false_or, decide_eq_true_eq] at h5
    cases hle : listed.getD e.on false with
    | true => rfl
    | false =>
     exfalso
     obtain ⟨x, hx⟩ := (hli e.on (by omega)).1 (unl e.on (by omega) hle)
     rcases List.mem_cons.1 hx with hx | hx
     ·rw [← hx] at h5; simp at h5
     ·have := (List.pairwise_cons.1 hpw).1 _ hx
      simp only [] at this
      omega
   rw [hnil] at this
   cases this
  ·obtain ⟨h1, o, ho, hall⟩ := mem_ready.1 hi
   have hlt := (Array.getElem?_eq_some_iff.1 ho).1
   obtain ⟨x, hx⟩ := (hli i hlt).1 h1
   obtain ⟨u, v, rfl⟩ := List.append_of_mem hx
   obtain ⟨hox, o', ho', hco⟩ := hp (i, x) (by simp)
   obtain rfl : o = o' := by rw [ho] at ho'; injection ho'
   have hok1 := hcase i o x ho hox
   simp only [okAt, Bool.and_eq_true] at hok1
   have hcomm : ∀ y ∈ u.map (·.2), commOk y x = true := by
    intro y hy
    obtain ⟨q, hq, rfl⟩ := List.mem_map.1 hy
    have hqlt : q.1 < i := (List.pairwise_append.1 hpw).2.2 q hq (i, x) (by simp)
    obtain ⟨hoq, oq, hopq, _⟩ := hp q (by simp [hq])
    have h2 := List.all_eq_true.1 hok1.2 q.1 (List.mem_range.2 hqlt)
    simp only [Bool.or_eq_true, hoq] at h2
    rcases h2 with h2 | h2
    ·exfalso
     have h3 := tab_listed hok hcl i o ho hall q.1 (by simpa using h2)
     have h4 := (hli q.1 (by omega)).2 ⟨q.2, by simp [hq]⟩
     have h5 : q.1 < listed.size := by omega
     simp [h5] at h3 h4
     rw [h3] at h4
     cases h4
    ·exact h2
   have hr2 := bubble (u := u.map (·.2)) (v := v.map (·.2)) hcomm (by simpa using hr)
   obtain ⟨r, M', hst, hr3⟩ := hr2
   refine wpOp_of ho (sim_step hG hco hs hst (fun z w' hS => ?_))
   have hset : ∀ j, j < ops.size → (listed.setIfInBounds i true).getD j true = if j = i then true else listed.getD j true := by
    intro j hj
    by_cases hji : j = i
    ·subst hji
     have : j < listed.size := by omega
     simp [this]
    ·rw [if_neg hji, getD_set_ne true (fun e => hji e.symm)]
   refine any_sound hG hok hQ fuel (listed.setIfInBounds i true) (u ++ v) _ _ _ (by simp at hl ⊢; omega) (fun p hpm => hp p (by simp at hpm ⊢; rcases hpm with h | h; exact .inl h; exact .inr (.inr h))) ?_ (fun j hj => ?_) (by simp [hsz]) ?_ (by simpa using hr3) hS
   ·rw [List.pairwise_append] at hpw ⊢
    exact ⟨hpw.1, (List.pairwise_cons.1 hpw.2.1).2, fun p hp q hq => hpw.2.2 p hp q (by simp [hq])⟩
   ·rw [hset j hj]
    by_cases hji : j = i
    ·rw [if_pos hji]
     constructor
     ·intro h; cases h
     ·rintro ⟨y, hy⟩
      exfalso
      subst hji
      rcases List.mem_append.1 hy with hy | hy
      ·have := (List.pairwise_append.1 hpw).2.2 _ hy (j, x) (by simp)
       simp at this
      ·have := (List.pairwise_cons.1 (List.pairwise_append.1 hpw).2.1).1 _ hy
       simp at this
    ·rw [if_neg hji, hli j hj]
     constructor
     ·rintro ⟨y, hy⟩
      refine ⟨y, ?_⟩
      simp at hy ⊢
      rcases hy with hy | ⟨hy, _⟩ | hy
      ·exact .inl hy
      ·exact absurd hy hji
      ·exact .inr hy
     ·rintro ⟨y, hy⟩
      refine ⟨y, ?_⟩
      simp at hy ⊢
      rcases hy with hy | hy
      ·exact .inl hy
      ·exact .inr (.inr hy)
   ·intro j oj hoj hlj e he hb
    by_cases hji : j = i
    ·subst hji
     obtain rfl : o = oj := by rw [ho] at hoj; injection hoj
     exact getD_set_true (hall e he hb)
    ·rw [getD_set_ne false (fun e => hji e.symm)] at hlj
     exact getD_set_true (hcl j oj hoj hlj e he hb)
end
end Go.Proofs.YtpdcpdngckpgbaaGreatAbs
end
section
namespace Go.Proofs.YtpdcpdngckpgbaaGreatAbs
open Go Go.RowKit
structure XOp where
 op : OpL
 F : List Nat
 w : Bool
 n : Nat
def blkOf : SV → List Nat
 | .p (.one (.ptr b _ _ _)) => [b]
 | .p (.one (.arr _ b _ _ _)) => [b]
 | .p (.one (.mp b _)) => [b]
 | .p (.one (.arx _ b _ _ _)) => [b]
 | _ => []
def foot (e : Nat → SV) (ctx : Bool) (n : Nat) : O → List Nat
 | .alloc .. => [n]
 | .box .. => [n]
 | .bsl .. => [n]
 | .mks .. => [n]
 | .ld _ _ x => blkOf (strip ctx (raw e x))
 | .nilck x => blkOf (strip ctx (raw e x))
 | .fa _ x => blkOf (strip ctx (raw e x))
 | .len x => blkOf (strip ctx (raw e x))
 | .cap x => blkOf (strip ctx (raw e x))
 | .slc _ x _ _ => blkOf (strip ctx (raw e x))
 | .s3 x _ _ _ => blkOf (strip ctx (raw e x))
 | .ia _ x _ => blkOf (strip ctx (raw e x))
 | .st _ x _ => blkOf (strip ctx (raw e x))
 | .clr _ _ x => blkOf (strip ctx (raw e x))
 | .nxt x => blkOf (strip ctx (raw e x))
 | .mup _ x _ _ => blkOf (strip ctx (raw e x))
 | .b2s x => blkOf (strip ctx (raw e x))
 | .lku _ _ _ x _ => blkOf (strip ctx (raw e x))
 | .aps _ x _ => blkOf (strip ctx (raw e x))
 | .app _ _ _ _ x y => blkOf (strip ctx (raw e x)) ++ blkOf (strip ctx (raw e y))
 | .cpy _ x y => blkOf (strip ctx (raw e x)) ++ blkOf (strip ctx (raw e y))
 | _ => []
def isW : O → Bool
 | .alloc .. | .box .. | .bsl .. | .mks .. | .st .. | .clr .. | .nxt .. | .mup .. | .aps .. | .app .. | .cpy .. => true
 | _ => false
def outX (n : Nat) (e : Nat → SV) (M : List Blk) (ctx : Bool) : O → Option (SV × List Blk × Prop)
 | .alloc t sz z => some (mkP n 1, M.set n (.rows t sz 1 [zc z] true), M[n]? = some (.rows 0 0 0 [] true))
 | .box t sz x =>
  match strip ctx (raw e x) with
  | .p q => some (mkP n 1, M.set n (.rows t sz 1 [q.cells] true), q.cells.length = sz ∧ M[n]? = some (.rows 0 0 0 [] true))
  | _ => none
 | .bsl t sz len z parts =>
  match fillRows (fun x => strip ctx (raw e x)) sz (List.replicate len (zc z)) parts with
  | some (l, c) => some (mkA sz len n 1, M.set n (.rows t sz 1 l true), c ∧ M[n]? = some (.rows 0 0 0 [] true))
  | none => none
 | .mks t sz bytes z x =>
  match strip ctx (raw e x) with
  | .p (.one (.c (.v (.int _ k)))) => some (mkA sz k.toNat n 1, M.set n (.rows t sz 1 (List.replicate k.toNat (zc z)) true), (0 ≤ k ∧ k.toNat * bytes ≤ 140737488355328) ∧ M[n]? = some (.rows 0 0 0 [] true))
  | _ => none
 | .call .. => none
 | .rng _ => none
 | .apz .. => none
 | .mkm => none
 | .s3f .. => none
 | .app t sz bytes z x y =>
  match strip ctx (raw e x) with
  | .p (.one (.arx ..)) => none
  | _ => out e M ctx (.app t sz bytes z x y)
 | o => out e M ctx o
def ap : Option (Nat × Blk) → List Blk → List Blk
 | none, M => M
 | some (b, x), M => M.set b x
theorem rowsAt_congr {M M2 : List Blk} {b ver : Nat} (h : M2[b]? = M[b]?) : rowsAt M2 b ver = rowsAt M b ver := by unfold rowsAt; rw [h]
theorem srcRows_congr {M M2 : List Blk} {sz : Nat} {s : SV} (h : ∀ b ∈ blkOf s, M2[b]? = M[b]?) : srcRows M2 sz s = srcRows M sz s := by
 unfold srcRows
 split <;> first | rfl | skip
 rename_i sz' b ver off len
 rw [rowsAt_congr (h b (by simp [blkOf]))]
def Loc (n : Nat) (e : Nat → SV) (M : List Blk) (ctx : Bool) (o : O) (r : SV) (M' : List Blk) (c : Prop) : Prop :=
 ∃ f : Option (Nat × Blk), M' = ap f M ∧ (isW o = false → f = none) ∧ (∀ b X, f = some (b, X) → b ∈ foot e ctx n o) ∧ ∀ M2 : List Blk, (∀ b ∈ foot e ctx n o, M2[b]? = M[b]?) → outX n e M2 ctx o = some (r, ap f M2, c)
theorem loc_read {n : Nat} {e : Nat → SV} {M M' : List Blk} {ctx : Bool} {o : O} {r : SV} {c : Prop} (hk : cls o ≤ 1) (hx : outX n e M ctx o = out e M ctx o) (h : out e M ctx o = some (r, M', c)) (h2 : ∀ M2 : List Blk, (∀ b ∈ foot e ctx n o, M2[b]? = M[b]?) → outX n e M2 ctx o = some (r, M2, c)) : Loc n e M ctx o r M' c :=
 ⟨none, out_cls1 hk h, fun _ => rfl, fun b X h => (by cases h), h2⟩
theorem outX_loc {n : Nat} {e : Nat → SV} {M M' : List Blk} {ctx : Bool} {o : O} {r : SV} {c : Prop} (h : outX n e M ctx o = some (r, M', c)) : Loc n e M ctx o r M' c := by
 by_cases h0 : cls o = 0
 ·have hx : ∀ N, outX n e N ctx o = out e N ctx o := by intro N; cases o <;> first | rfl | (simp [cls] at h0)
  rw [hx] at h
  exact loc_read (by omega) (hx M) h (fun M2 _ => by rw [hx]; exact (out_cls0 (M2 := M2) h0 h).2)
 cases o <;> first | (exact absurd rfl h0) | skip
 case alloc t sz z =>
  simp only [outX, Option.some.injEq, Prod.mk.injEq] at h
  obtain ⟨rfl, rfl, rfl⟩ := h
  refine ⟨some (n, .rows t sz 1 [zc z] true), rfl, (by intro h; cases h), (by rintro b X h; injection h with h; injection h with h _; subst h; simp [foot]), fun M2 h2 => ?_⟩
  simp only [outX, h2 n (by simp [foot]), ap]
 case box t sz x =>
  simp only [outX] at h
  split at h
  ·rename_i q hq
   simp only [Option.some.injEq, Prod.mk.injEq] at h
   obtain ⟨rfl, rfl, rfl⟩ := h
   refine ⟨some (n, .rows t sz 1 [q.cells] true), rfl, (by intro h; cases h), (by rintro b X h; injection h with h; injection h with h _; subst h; simp [foot]), fun M2 h2 => ?_⟩
   simp only [outX, hq, h2 n (by simp [foot]), ap]
  ·cases h
 case bsl t sz len z parts =>
  simp only [outX] at h
  split at h
  ·rename_i l c' hq
   simp only [Option.some.injEq, Prod.mk.injEq] at h
   obtain ⟨rfl, rfl, rfl⟩ := h
   refine ⟨some (n, .rows t sz 1 l true), rfl, (by intro h; cases h), (by rintro b X h; injection h with h; injection h with h _; subst h; simp [foot]), fun M2 h2 => ?_⟩
   simp only [outX, hq, h2 n (by simp [foot]), ap]
  ·cases h
 case mks t sz bytes z x =>
  simp only [outX] at h
  split at h
  ·rename_i ki k hq
   simp only [Option.some.injEq, Prod.mk.injEq] at h
   obtain ⟨rfl, rfl, rfl⟩ := h
   refine ⟨some (n, .rows t sz 1 (List.replicate k.toNat (zc z)) true), rfl, (by intro h; cases h), (by rintro b X h; injection h with h; injection h with h _; subst h; simp [foot]), fun M2 h2 => ?_⟩
   simp only [outX, hq, h2 n (by simp [foot]), ap]
  ·cases h
 case call => cases h
 case rng => cases h
 case apz => cases h
 case mkm => cases h
 case s3f => cases h
 case st sz a x =>
  simp only [outX, out] at h
  split at h
  ·rename_i b ver i j q hb hq
   split at h
   ·rename_i t sz' ver' l f hM
    simp only [Option.some.injEq, Prod.mk.injEq] at h
    obtain ⟨rfl, rfl, rfl⟩ := h
    refine ⟨some (b, .rows t sz' ver' (l.set i (fillL (l.getD i []) j q.cells)) f), rfl, (by intro h; cases h), (by rintro b X h; injection h with h; injection h with h _; subst h; simp [foot, hb, blkOf]), fun M2 h2 => ?_⟩
    simp only [outX, out, hb, hq, h2 b (by simp [foot, hb, blkOf]), hM, ap]
   ·cases h
  ·cases h
 case clr sz z x =>
  simp only [outX, out] at h
  split at h
  ·rename_i sz' b ver off len hb
   split at h
   ·rename_i t sz2 ver' l f hM
    simp only [Option.some.injEq, Prod.mk.injEq] at h
    obtain ⟨rfl, rfl, rfl⟩ := h
    refine ⟨some (b, .rows t sz2 ver' (l.take off ++ List.replicate len (zc z) ++ l.drop (off + len)) f), rfl, (by intro h; cases h), (by rintro b X h; injection h with h; injection h with h _; subst h; simp [foot, hb, blkOf]), fun M2 h2 => ?_⟩
    simp only [outX, out, hb, h2 b (by simp [foot, hb, blkOf]), hM, ap]
   ·cases h
  ·rename_i sz' n' c' hb
   simp only [Option.some.injEq, Prod.mk.injEq] at h
   obtain ⟨rfl, rfl, rfl⟩ := h
   exact ⟨none, rfl, (by intro h; rfl), (by intro b X h; cases h), fun M2 h2 => by simp only [outX, out, hb, ap]⟩
  ·cases h
 case nxt x =>
  simp only [outX, out] at h
  split at h
  ·rename_i b ver i j hb
   split at h
   ·rename_i s pos hM
    split at h
    ·rename_i hp
     simp only [Option.some.injEq, Prod.mk.injEq] at h
     obtain ⟨rfl, rfl, rfl⟩ := h
     refine ⟨some (b, .sit s (pos + (Utf8.decode s pos).2)), rfl, (by intro h; cases h), (by rintro b X h; injection h with h; injection h with h _; subst h; simp [foot, hb, blkOf]), fun M2 h2 => ?_⟩
     simp only [outX, out, hb, h2 b (by simp [foot, hb, blkOf]), hM, ap, if_pos hp]
    ·rename_i hp
     simp only [Option.some.injEq, Prod.mk.injEq] at h
     obtain ⟨rfl, rfl, rfl⟩ := h
     refine ⟨none, rfl, (by intro h; rfl), (by intro b X h; cases h), fun M2 h2 => ?_⟩
     simp only [outX, out, hb, h2 b (by simp [foot, hb, blkOf]), hM, ap, if_neg hp]
   ·cases h
  ·cases h
 case mup str x k v =>
  simp only [outX, out] at h
  split at h
  ·rename_i b ver kv vv hb hk hv
   split at h
   ·rename_i l hM
    simp only [Option.some.injEq, Prod.mk.injEq] at h
    obtain ⟨rfl, rfl, rfl⟩ := h
    refine ⟨some (b, .mp (mput l kv vv)), rfl, (by intro h; cases h), (by rintro b X h; injection h with h; injection h with h _; subst h; simp [foot, hb, blkOf]), fun M2 h2 => ?_⟩
    simp only [outX, out, hb, hk, hv, h2 b (by simp [foot, hb, blkOf]), hM, ap]
   ·cases h
  ·cases h
 case aps t x y =>
  simp only [outX, out] at h
  split at h
  ·rename_i sz' b ver off len s hb hs
   split at h
   ·rename_i t' sz2 ver' l f hM
    simp only [Option.some.injEq, Prod.mk.injEq] at h
    obtain ⟨rfl, rfl, rfl⟩ := h
    refine ⟨some (b, .rows t 1 (ver + 1) (l ++ s.data.toList.map byteRow) false), rfl, (by intro h; cases h), (by rintro b X h; injection h with h; injection h with h _; subst h; simp [foot, hb, blkOf]), fun M2 h2 => ?_⟩
    simp only [outX, out, hb, hs, h2 b (by simp [foot, hb, blkOf]), hM, ap]
   ·cases h
  ·cases h
 case app t sz bytes z x y =>
  simp only [outX] at h
  split at h
  ·cases h
  rename_i hnx
  simp only [out] at h
  split at h
  ·rename_i sz' b ver off len hb
   split at h
   ·rename_i t' sz2 ver' l f rs m cy hM hsr
    have hcon : ∀ M2 : List Blk, (∀ b ∈ foot e ctx n (.app t sz bytes z x y), M2[b]? = M[b]?) → M2[b]? = some (.rows t' sz2 ver' l f) ∧ srcRows M2 sz (strip ctx (raw e y)) = some (rs, m, cy) := by
     intro M2 h2
     refine ⟨(h2 b (by simp [foot, hb, blkOf])).trans hM, ?_⟩
     rw [srcRows_congr (M := M) (fun b' hb' => h2 b' (by simp [foot, hb'])), hsr]
    split at h
    ·rename_i hp
     simp only [Option.some.injEq, Prod.mk.injEq] at h
     obtain ⟨rfl, rfl, rfl⟩ := h
     refine ⟨some (b, .rows t sz (ver + 1) (l ++ rs) false), rfl, (by intro h; cases h), (by rintro b X h; injection h with h; injection h with h _; subst h; simp [foot, hb, blkOf]), fun M2 h2 => ?_⟩
     simp only [outX, out, hb, (hcon M2 h2).1, (hcon M2 h2).2, ap, if_pos hp]
    ·rename_i hp
     simp only [Option.some.injEq, Prod.mk.injEq] at h
     obtain ⟨rfl, rfl, rfl⟩ := h
     refine ⟨some (b, .rows t' sz2 ver' (l.take (off + len) ++ rs ++ l.drop (off + len + m)) f), rfl, (by intro h; cases h), (by rintro b X h; injection h with h; injection h with h _; subst h; simp [foot, hb, blkOf]), fun M2 h2 => ?_⟩
     simp only [outX, out, hb, (hcon M2 h2).1, (hcon M2 h2).2, ap, if_neg hp]
   ·cases h
  ·rename_i hl
   exact absurd hl (hnx _ _ _ _ _)
  ·cases h
 case cpy sz x y =>
  simp only [outX, out] at h
  split at h
  ·rename_i sz' b ver off len hb
   split at h
   ·rename_i t' sz2 ver' l f rs m cy hM hsr
    simp only [Option.some.injEq, Prod.mk.injEq] at h
    obtain ⟨rfl, rfl, rfl⟩ := h
    refine ⟨some (b, .rows t' sz2 ver' (l.take off ++ rs.take len ++ l.drop (off + min m len)) f), rfl, (by intro h; cases h), (by rintro b X h; injection h with h; injection h with h _; subst h; simp [foot, hb, blkOf]), fun M2 h2 => ?_⟩
    have e2 : srcRows M2 sz (strip ctx (raw e y)) = some (rs, m, cy) := by rw [srcRows_congr (M := M) (fun b' hb' => h2 b' (by simp [foot, hb'])), hsr]
    simp only [outX, out, hb, (h2 b (by simp [foot, hb, blkOf])).trans hM, e2, ap]
   ·cases h
  ·cases h
 all_goals
  refine loc_read (by simp [cls]) rfl (by simpa only [outX] using h) (fun M2 h2 => ?_)
  simp only [outX, out] at h ⊢
 case ld agg sz a =>
  split at h
  ·rename_i hb
   simp only [Option.some.injEq, Prod.mk.injEq] at h
   obtain ⟨rfl, rfl, rfl⟩ := h
   simp only [hb]
  ·rename_i b ver i j hb
   simp only [rowsAt_congr (h2 b (by simp [foot, hb, blkOf]))]
   split at h
   ·rename_i hr
    simp only [Option.some.injEq, Prod.mk.injEq] at h
    obtain ⟨rfl, rfl, rfl⟩ := h
    simp only [hr]
   ·cases h
  ·cases h
 case lku z str ok x k =>
  split at h
  ·rename_i b ver kv hb hk
   simp only [h2 b (by simp [foot, hb, blkOf])]
   split at h
   ·rename_i l hM
    simp only [Option.some.injEq, Prod.mk.injEq] at h
    obtain ⟨h3, rfl, rfl⟩ := h
    simp only [hM, h3]
   ·cases h
  ·cases h
 case nilck x =>
  split at h
  ·rename_i b ver i j hb
   simp only [rowsAt_congr (h2 b (by simp [foot, hb, blkOf]))]
   split at h
   ·rename_i hr
    simp only [Option.some.injEq, Prod.mk.injEq] at h
    obtain ⟨rfl, rfl, rfl⟩ := h
    simp only [hr]
   ·cases h
  ·rename_i hb
   simp only [Option.some.injEq, Prod.mk.injEq] at h
   obtain ⟨rfl, rfl, rfl⟩ := h
   simp only [hb]
  ·cases h
 case fa off x =>
  split at h
  ·rename_i b ver i j hb
   simp only [rowsAt_congr (h2 b (by simp [foot, hb, blkOf]))]
   split at h
   ·rename_i hr
    simp only [Option.some.injEq, Prod.mk.injEq] at h
    obtain ⟨rfl, rfl, rfl⟩ := h
    simp only [hr]
   ·cases h
  ·rename_i hb
   simp only [Option.some.injEq, Prod.mk.injEq] at h
   obtain ⟨rfl, rfl, rfl⟩ := h
   simp only [hb]
  ·cases h
 case len x =>
  split at h
  ·rename_i hb
   simp only [Option.some.injEq, Prod.mk.injEq] at h
   obtain ⟨rfl, rfl, rfl⟩ := h
   simp only [hb]
  ·rename_i hb
   simp only [Option.some.injEq, Prod.mk.injEq] at h
   obtain ⟨rfl, rfl, rfl⟩ := h
   simp only [hb]
  ·rename_i sz b ver off len hb
   simp only [rowsAt_congr (h2 b (by simp [foot, hb, blkOf]))]
   split at h
   ·rename_i hr
    simp only [Option.some.injEq, Prod.mk.injEq] at h
    obtain ⟨rfl, rfl, rfl⟩ := h
    simp only [hr]
   ·cases h
  ·cases h
 case cap x =>
  split at h
  ·rename_i sz b ver off len hb
   simp only [h2 b (by simp [foot, hb, blkOf])]
   split at h
   ·rename_i hr
    simp only [Option.some.injEq, Prod.mk.injEq] at h
    obtain ⟨rfl, rfl, rfl⟩ := h
    simp only [hr]
   ·cases h
  ·cases h
 case b2s x =>
  rw [srcRows_congr (M := M) (fun b hb => h2 b (by simpa [foot] using hb))]
  split at h
  ·rename_i hr
   split at h
   ·rename_i hr2
    simp only [Option.some.injEq, Prod.mk.injEq] at h
    obtain ⟨rfl, rfl, rfl⟩ := h
    simp only [hr, hr2]
   ·cases h
  ·cases h
 case slc sz x lo hi =>
  split at h
  ·rename_i hb
   split at h
   ·rename_i h3 h4
    simp only [Option.some.injEq, Prod.mk.injEq] at h
    obtain ⟨rfl, rfl, rfl⟩ := h
    simp only [hb, h3, h4]
   ·cases h
  ·rename_i sz' b ver off len hb
   simp only [rowsAt_congr (h2 b (by simp [foot, hb, blkOf]))]
   split at h
   ·rename_i h3 h4 h5
    simp only [Option.some.injEq, Prod.mk.injEq] at h
    obtain ⟨rfl, rfl, rfl⟩ := h
    simp only [h3, h4, h5]
   ·cases h
  ·cases h
 case s3 x lo hi mx =>
  split at h
  ·rename_i sz' b ver off len hb
   simp only [rowsAt_congr (h2 b (by simp [foot, hb, blkOf]))]
   split at h
   ·rename_i h3 h4 h5 h6
    simp only [Option.some.injEq, Prod.mk.injEq] at h
    obtain ⟨rfl, rfl, rfl⟩ := h
    simp only [h3, h4, h5, h6]
   ·cases h
  ·rename_i hb
   split at h
   ·rename_i h3 h4 h5
    simp only [Option.some.injEq, Prod.mk.injEq] at h
    obtain ⟨rfl, rfl, rfl⟩ := h
    simp only [hb, h3, h4, h5]
   ·cases h
  ·cases h
 case ia sz x i =>
  split at h
  ·rename_i hb hi
   simp only [Option.some.injEq, Prod.mk.injEq] at h
   obtain ⟨rfl, rfl, rfl⟩ := h
   simp only [hb, hi]
  ·rename_i sz' b ver off len k hb hi
   simp only [rowsAt_congr (h2 b (by simp [foot, hb, blkOf]))]
   split at h
   ·rename_i hr
    simp only [Option.some.injEq, Prod.mk.injEq] at h
    obtain ⟨rfl, rfl, rfl⟩ := h
    simp only [hr]
   ·cases h
  ·cases h
end Go.Proofs.YtpdcpdngckpgbaaGreatAbs
end
section
namespace Go.Proofs.YtpdcpdngckpgbaaGreatAbs
open Go Go.RowKit
def apL : List (Nat × Blk) → List Blk → List Blk
 | [], M => M
 | q :: fs, M => apL fs (M.set q.1 q.2)
theorem ap_apL (f : Option (Nat × Blk)) (M : List Blk) : ap f M = apL f.toList M := by
 cases f with
 | none => rfl
 | some q => rfl
theorem apL_get : ∀ {fs : List (Nat × Blk)} {M : List Blk} {b : Nat}, (∀ q ∈ fs, q.1 ≠ b) → (apL fs M)[b]? = M[b]?
 | [], M, b, h => rfl
 | q :: fs, M, b, h => by
  rw [apL, apL_get (fun p hp => h p (List.mem_cons_of_mem _ hp)), List.getElem?_set_ne (h q List.mem_cons_self)]
theorem apL_set : ∀ {fs : List (Nat × Blk)} {M : List Blk} {b : Nat} {X : Blk}, (∀ q ∈ fs, q.1 ≠ b) → apL fs (M.set b X) = (apL fs M).set b X
 | [], M, b, X, h => rfl
 | q :: fs, M, b, X, h => by
  rw [apL, apL, List.set_comm _ _ (Ne.symm (h q List.mem_cons_self)), apL_set (fun p hp => h p (List.mem_cons_of_mem _ hp))]
theorem apL_comm : ∀ {fs gs : List (Nat × Blk)} {M : List Blk}, (∀ p ∈ fs, ∀ q ∈ gs, p.1 ≠ q.1) → apL fs (apL gs M) = apL gs (apL fs M)
 | [], gs, M, h => rfl
 | p :: fs, gs, M, h => by
  rw [apL, apL, ← apL_set (fun q hq => Ne.symm (h p List.mem_cons_self q hq)), apL_comm (fun p' hp q hq => h p' (List.mem_cons_of_mem _ hp) q hq)]
def StpX0 (P : Program) (x : XOp) (ctx : Bool) (e : Nat → SV) (M : List Blk) (r : SV) (M' : List Blk) : Prop :=
 match x.op.op with
 | .call f args => ∃ k caps ps, callee (strip ctx (raw e f)) = some (k, caps) ∧ ptsOf (fun y => strip ctx (raw e y)) args = some ps ∧
   (((∀ N, CallR P N k (ps ++ caps) r N) ∧ M' = M) ∨ (∃ fs : List (Nat × Blk), M' = apL fs M ∧ (x.w = false → fs = []) ∧ (∀ q ∈ fs, q.1 ∈ x.F) ∧ ∀ N : List Blk, (∀ b ∈ x.F, N[b]? = M[b]?) → CallR P N k (ps ++ caps) r (apL fs N)))
 | o => (∀ b ∈ foot e ctx x.n o, b ∈ x.F) ∧ (isW o = true → x.w = true) ∧ ∃ c, outX x.n e M ctx o = some (r, M', c) ∧ c
def StpX (P : Program) (x : XOp) (e : Nat → SV) (M : List Blk) (r : SV) (M' : List Blk) : Prop := Gd e M M' x.op.gd r (fun c r0 => StpX0 P x c e M r0 M')
def runX (P : Program) : List XOp → St → (St → Prop) → Prop
 | [], s, K => K s
 | x :: xs, s, K => ∃ r M', StpX P x s.env s.M r M' ∧ runX P xs ⟨put s.env x.op.dst r, M'⟩ K
def commX (x y : XOp) : Bool := apartL x.op y.op && ((!x.w && !y.w) || x.F.all fun b => !y.F.contains b)
def pairsX (T : List (List Nat)) (xs : List XOp) : Bool :=
 (List.range xs.length).all fun i => (List.range i).all fun k => (T.getD i []).contains k || match xs[k]?, xs[i]? with | some y, some x => commX y x | _, _ => false
theorem pairsX_spec {T : List (List Nat)} {xs : List XOp} (h : pairsX T xs = true) {i k : Nat} {x y : XOp} (hx : xs[i]? = some x) (hy : xs[k]? = some y) (hk : k < i) : (T.getD i []).contains k = true ∨ commX y x = true := by
 have h1 := List.all_eq_true.1 h i (List.mem_range.2 (List.getElem?_eq_some_iff.1 hx).1)
 have h2 := List.all_eq_true.1 h1 k (List.mem_range.2 hk)
 simpa only [hx, hy, Bool.or_eq_true] using h2
theorem locX0 {P : Program} {x : XOp} {ctx : Bool} {e : Nat → SV} {M M' : List Blk} {r : SV} (h : StpX0 P x ctx e M r M') :
  ∃ f : List (Nat × Blk), M' = apL f M ∧ (x.w = false → f = []) ∧ (∀ q ∈ f, q.1 ∈ x.F) ∧ ∀ M2 : List Blk, (∀ b ∈ x.F, M2[b]? = M[b]?) → StpX0 P x ctx e M2 r (apL f M2) := by
 unfold StpX0 at h
 split at h
 ·rename_i f args hop
  obtain ⟨k, caps, ps, h1, h2, h3⟩ := h
  rcases h3 with ⟨h3, rfl⟩ | ⟨fs, rfl, hw, hn, h3⟩
  ·refine ⟨[], rfl, fun _ => rfl, fun q h => (by cases h), fun M2 _ => ?_⟩
   unfold StpX0
   rw [hop]
   exact ⟨k, caps, ps, h1, h2, .inl ⟨h3, rfl⟩⟩
  ·refine ⟨fs, rfl, hw, hn, fun M2 h2' => ?_⟩
   unfold StpX0
   rw [hop]
   exact ⟨k, caps, ps, h1, h2, .inr ⟨fs, rfl, hw, hn, fun N hN => h3 N (fun b hb => (hN b hb).trans (h2' b hb))⟩⟩
 ·rename_i hop
  obtain ⟨hF, hw, c, h1, h2⟩ := h
  obtain ⟨f, k1, k2, k3, k4⟩ := outX_loc h1
  have hi : x.w = false → isW x.op.op = false := fun hh => by
   cases hi : isW x.op.op with
   | false => rfl
   | true => rw [hw hi] at hh; cases hh
  have hq : ∀ q ∈ f.toList, f = some (q.1, q.2) := fun q hq => by
   cases f with
   | none => cases hq
   | some q' => obtain rfl := List.mem_singleton.1 hq; rfl
  refine ⟨f.toList, by rw [← ap_apL]; exact k1, fun hh => by rw [k2 (hi hh)]; rfl, fun q h => hF q.1 (k3 q.1 q.2 (hq q h)), fun M2 hM => ?_⟩
  ·rw [← ap_apL]
   unfold StpX0
   split
   ·rename_i f' args' hop'
    exact absurd hop' (hop _ _)
   ·exact ⟨hF, hw, c, k4 M2 (fun b hb => hM b (hF b hb)), h2⟩
theorem locX {P : Program} {x : XOp} {e : Nat → SV} {M M' : List Blk} {r : SV} (h : StpX P x e M r M') :
  ∃ f : List (Nat × Blk), M' = apL f M ∧ (x.w = false → f = []) ∧ (∀ q ∈ f, q.1 ∈ x.F) ∧ ∀ M2 : List Blk, (∀ b ∈ x.F, M2[b]? = M[b]?) → StpX P x e M2 r (apL f M2) := by
 unfold StpX Gd at h
 split at h
 ·rename_i hg
  obtain ⟨f, k1, k2, k3, k4⟩ := locX0 h
  refine ⟨f, k1, k2, k3, fun M2 hM => ?_⟩
  unfold StpX Gd
  rw [hg]
  exact k4 M2 hM
 ·rename_i g want hg
  obtain ⟨c, r0, h1, rfl, h2, h3⟩ := h
  cases c with
  | true =>
   obtain ⟨f, k1, k2, k3, k4⟩ := locX0 (h2 rfl)
   refine ⟨f, k1, k2, k3, fun M2 hM => ?_⟩
   unfold StpX Gd
   rw [hg]
   exact ⟨true, r0, h1, rfl, fun _ => k4 M2 hM, fun h => by cases h⟩
  | false =>
   obtain rfl := h3 rfl
   refine ⟨[], rfl, fun _ => rfl, fun q h => (by cases h), fun M2 _ => ?_⟩
   unfold StpX Gd
   rw [hg]
   exact ⟨false, r0, h1, rfl, fun h => (by cases h), fun _ => rfl⟩
theorem foot_congr {e e' : Nat → SV} {ctx : Bool} {n : Nat} {o : O} (h : ∀ x ∈ opnds o, raw e x = raw e' x) : foot e ctx n o = foot e' ctx n o := by
 cases o with
 | ld g sz x => have h1 : raw e x = raw e' x := h x (by simp [opnds]); simp only [foot, h1]
 | nilck x => have h1 : raw e x = raw e' x := h x (by simp [opnds]); simp only [foot, h1]
 | fa f x => have h1 : raw e x = raw e' x := h x (by simp [opnds]); simp only [foot, h1]
 | len x => have h1 : raw e x = raw e' x := h x (by simp [opnds]); simp only [foot, h1]
 | cap x => have h1 : raw e x = raw e' x := h x (by simp [opnds]); simp only [foot, h1]
 | slc sz x lo hi => have h1 : raw e x = raw e' x := h x (by simp [opnds]); simp only [foot, h1]
 | s3 x lo hi mx => have h1 : raw e x = raw e' x := h x (by simp [opnds]); simp only [foot, h1]
 | ia sz x i => have h1 : raw e x = raw e' x := h x (by simp [opnds]); simp only [foot, h1]
 | st sz x y => have h1 : raw e x = raw e' x := h x (by simp [opnds]); simp only [foot, h1]
 | clr sz z x => have h1 : raw e x = raw e' x := h x (by simp [opnds]); simp only [foot, h1]
 | nxt x => have h1 : raw e x = raw e' x := h x (by simp [opnds]); simp only [foot, h1]
 | b2s x => have h1 : raw e x = raw e' x := h x (by simp [opnds]); simp only [foot, h1]
 | lku z str ok x k => have h1 : raw e x = raw e' x := h x (by simp [opnds]); simp only [foot, h1]
 | mup str x k v => have h1 : raw e x = raw e' x := h x (by simp [opnds]); simp only [foot, h1]
 | aps t x y => have h1 : raw e x = raw e' x := h x (by simp [opnds]); simp only [foot, h1]
 | app t sz b z x y => have h1 : raw e x = raw e' x := h x (by simp [opnds]); have h2 : raw e y = raw e' y := h y (by simp [opnds]); simp only [foot, h1, h2]
 | cpy sz x y => have h1 : raw e x = raw e' x := h x (by simp [opnds]); have h2 : raw e y = raw e' y := h y (by simp [opnds]); simp only [foot, h1, h2]
 | _ => rfl
theorem outX_congr {e e' : Nat → SV} {M : List Blk} {ctx : Bool} {n : Nat} {o : O} (h : ∀ x ∈ opnds o, raw e x = raw e' x) : outX n e M ctx o = outX n e' M ctx o := by
 cases o with
 | bsl t sz len z ps =>
  simp only [outX]
  rw [fillRows_congr (f := fun x => strip ctx (raw e x)) (g := fun x => strip ctx (raw e' x)) (fun p hp => by show strip ctx _ = strip ctx _; rw [h p.2 (List.mem_map.2 ⟨p, hp, rfl⟩)])]
 | alloc t sz z => rfl
 | box t sz x => have h1 : raw e x = raw e' x := h x (by simp [opnds]); simp only [outX, h1]
 | mks t sz by_ z x => have h1 : raw e x = raw e' x := h x (by simp [opnds]); simp only [outX, h1]
 | call f as => rfl
 | rng x => rfl
 | mkm => rfl
 | s3f x h m => rfl
 | apz t sz by_ z x y => rfl
 | app t sz by_ z x y =>
  have h1 : raw e x = raw e' x := h x (by simp [opnds])
  have h2 := out_congr (ctx := ctx) (M := M) h
  simp only [outX, h1, h2]
 | _ => exact out_congr h
theorem stpX0_congr {P : Program} {x : XOp} {ctx : Bool} {e e' : Nat → SV} {M M' : List Blk} {r : SV} (h : ∀ y ∈ opnds x.op.op, raw e y = raw e' y) (hs : StpX0 P x ctx e M r M') : StpX0 P x ctx e' M r M' := by
 unfold StpX0 at hs ⊢
 split at hs
 ·rename_i f args hop
  rw [hop] at h
  have h1 := ptsOf_congr (f := fun y => strip ctx (raw e y)) (g := fun y => strip ctx (raw e' y)) (xs := args) (fun y hy => by show strip ctx _ = strip ctx _; rw [h y (by simp [opnds, hy])])
  have h2 : raw e f = raw e' f := h f (by simp [opnds])
  rw [← h1, ← h2]
  exact hs
 ·rename_i hop
  rw [foot_congr h, outX_congr h] at hs
  exact hs
theorem stpX_congr {P : Program} {x : XOp} {e e' : Nat → SV} {M M' : List Blk} {r : SV} (h : ∀ i ∈ looks x.op, e i = e' i) (hs : StpX P x e M r M') : StpX P x e' M r M' := by
 have h1 : ∀ y ∈ opnds x.op.op, raw e y = raw e' y := slots_raw (fun i hi => h i (List.mem_append_left _ hi))
 unfold StpX Gd at hs ⊢
 cases hg : x.op.gd with
 | none => rw [hg] at hs; exact stpX0_congr h1 hs
 | some gw =>
  obtain ⟨g, want⟩ := gw
  rw [hg] at hs
  obtain ⟨c, r0, h2, h3, h4, h5⟩ := hs
  have h6 : e g = e' g := h g (by unfold looks; rw [hg]; simp)
  exact ⟨c, r0, by rw [← h6]; exact h2, h3, fun hc => stpX0_congr h1 (h4 hc), h5⟩
theorem commX_run {P : Program} {x y : XOp} {e : Nat → SV} {M M1 M2 : List Blk} {r r2 : SV} (h : commX x y = true) (h1 : StpX P x e M r M1) (h2 : StpX P y (put e x.op.dst r) M1 r2 M2) :
  ∃ N, StpX P y e M r2 N ∧ StpX P x (put e y.op.dst r2) N r M2 ∧ put (put e x.op.dst r) y.op.dst r2 = put (put e y.op.dst r2) x.op.dst r := by
 unfold commX at h
 simp only [Bool.and_eq_true, Bool.or_eq_true, Bool.not_eq_true'] at h
 obtain ⟨ha, hc⟩ := h
 obtain ⟨a1, a2, a3⟩ := apartL_spec ha
 have hy : StpX P y e M1 r2 M2 := stpX_congr (fun i hi => put_ne (fun d hd hh => a1 d hd (hh ▸ hi))) h2
 have back : ∀ {N N'}, StpX P x e N r N' → StpX P x (put e y.op.dst r2) N r N' := fun hh => stpX_congr (fun i hi => (put_ne (fun d hd h3 => a3 d hd (h3 ▸ hi))).symm) hh
 have hp : put (put e x.op.dst r) y.op.dst r2 = put (put e y.op.dst r2) x.op.dst r := put_comm a2
 obtain ⟨f1, k1, k2, k3, k4⟩ := locX h1
 obtain ⟨f2, l1, l2, l3, l4⟩ := locX hy
 rcases hc with ⟨hx, hy'⟩ | hd
 ·obtain rfl := k2 hx
  obtain rfl := l2 hy'
  subst k1
  subst l1
  exact ⟨_, l4 _ (fun _ _ => rfl), back (k4 _ (fun _ _ => rfl)), hp⟩
 ·have hd : ∀ b, b ∈ x.F → b ∉ y.F := fun b hb => by
   have := List.all_eq_true.1 hd b hb
   simpa using this
  subst k1
  subst l1
  have e1 := l4 M (fun b hb => (apL_get (fun q hq => fun e => hd q.1 (k3 q hq) (e ▸ hb))).symm)
  have e2 := k4 (apL f2 M) (fun b hb => apL_get (fun q hq => fun e => hd b hb (e ▸ l3 q hq)))
  refine ⟨_, e1, ?_, hp⟩
  have e3 : apL f1 (apL f2 M) = apL f2 (apL f1 M) := apL_comm (fun p hp q hq e => hd p.1 (k3 p hp) (e ▸ l3 q hq))
  rw [← e3]
  exact back e2
theorem bubbleX {P : Program} {y : XOp} {v : List XOp} : ∀ {u : List XOp} {s : St} {K : St → Prop}, (∀ x ∈ u, commX x y = true) → runX P (u ++ y :: v) s K → runX P (y :: (u ++ v)) s K
 | [], s, K, h, hr => hr
 | x :: u, s, K, h, hr => by
  obtain ⟨r, M1, h1, h2⟩ := hr
  have ih := bubbleX (u := u) (fun z hz => h z (by simp [hz])) h2
  obtain ⟨r2, M2, h3, h4⟩ := ih
  obtain ⟨N, k1, k2, k3⟩ := commX_run (h x (by simp)) h1 h3
  refine ⟨r2, N, k1, r, M2, k2, ?_⟩
  rw [← k3]
  exact h4
def isAl : O → Bool
 | .alloc .. | .box .. | .bsl .. | .mks .. => true
 | _ => false
def kAl : Op → Bool
 | .alloc .. | .box .. | .buildSlice .. | .makeSlice .. => true
 | _ => false
theorem compO_al {P : Program} {op : Op} {o : O} (h : compO P op = some o) (ha : isAl o = true) : kAl op = true := by
 cases op with
 | alloc => rfl
 | box => rfl
 | buildSlice => rfl
 | makeSlice => rfl
 | call cl =>
  exfalso
  obtain ⟨callee, args, ts⟩ := cl
  cases callee with
  | value f' =>
   simp only [compO, Option.map_eq_some_iff, Option.bind_eq_some_iff] at h
   obtain ⟨F, hF, as', has, rfl⟩ := h
   cases ha
  | invoke x m => simp [compO] at h
  | builtin b =>
   cases b <;> simp only [compO, reduceCtorEq] at h
   all_goals (repeat' (first | (injection h with h; subst h; cases ha; done) | (split at h) | (simp only [Option.bind_eq_some_iff, Option.map_eq_some_iff] at h; obtain ⟨_, _, h⟩ := h) | (cases h; done) | (obtain ⟨_, _, h⟩ := h) | (subst h; cases ha; done))) <;> first | (cases ha; done) | simp_all [isAl]
 | binOp op t x y u =>
  exfalso
  simp only [compO, Option.bind_eq_some_iff, Option.map_eq_some_iff] at h
  obtain ⟨X, _, Y, _, h⟩ := h
  unfold binC at h
  split at h <;> (subst h; cases ha)
 | slice t x lo hi mx =>
  exfalso
  cases mx with
  | none => 
   simp only [compO, Option.bind_eq_some_iff] at h
   obtain ⟨_, _, _, _, _, _, h⟩ := h
   split at h
   ·injection h with h; subst h; cases ha
   ·simp only [Option.bind_eq_some_iff, Option.map_eq_some_iff] at h
    obtain ⟨_, _, _, _, h⟩ := h
    subst h; cases ha
  | some m =>
   simp only [compO, Option.bind_eq_some_iff] at h
   obtain ⟨_, _, _, _, _, _, _, _, _, _, _, _, h⟩ := h
   split at h
   ·injection h with h; subst h; cases ha
   ·rename_i hi1 _
    injection h with h; subst h; cases ha
   ·cases h
 | convert src dt x =>
  exfalso
  simp only [compO] at h
  split at h
  ·simp only [Option.map_eq_some_iff] at h
   obtain ⟨_, _, h⟩ := h
   subst h; cases ha
  ·simp only [Option.bind_eq_some_iff, Option.map_eq_some_iff] at h
   obtain ⟨_, _, _, _, _, _, h⟩ := h
   subst h; cases ha
 | _ =>
  exfalso
  simp only [compO] at h
  first
  | (cases h; done)
  | ((repeat' (first | (split at h) | (simp only [Option.bind_eq_some_iff, Option.map_eq_some_iff] at h) | (cases h; done) | (obtain ⟨_, _, h⟩ := h) | (subst h; cases ha; done))) <;> simp_all [isAl])
section
variable {P : Program} {I : Im} {σ : List Plc} {e : Nat → SV} {M M' : List Blk} {w : World} {a : Act} {r : SV} {c : Prop} {dst : Option Tmp} {ty : TypeId} {pos : String} {after : Array Edge} {gd : Option (Nat × Bool)}
theorem outX_sound {op : Op} {o : O} {k : Nat} (hco : compO P op = some o) (hm : Mem I σ M w) (he : RelE I σ e a) (hd : stOk o dst = true)
  (h : outX k e M true o = some (r, M', c)) (hc : c) : Turns P I σ M ⟨dst, op, ty, pos, after, gd⟩ a w r M' := by
 by_cases ha : isAl o = true
 ·have hk := compO_al hco ha
  cases op <;> first | (cases hk; done) | skip
  case alloc t =>
   simp only [compO, Option.map_eq_some_iff, Option.bind_eq_some_iff] at hco
   obtain ⟨sz, hz, z, hzz, rfl⟩ := hco
   simp only [outX, Option.some.injEq, Prod.mk.injEq] at h
   obtain ⟨rfl, rfl, rfl⟩ := h
   exact (s_allocT hm hz hzz).2 k hc
  case box t x =>
   simp only [compO, Option.map_eq_some_iff, Option.bind_eq_some_iff] at hco
   obtain ⟨sz, hz, X, hX, rfl⟩ := hco
   simp only [outX] at h
   split at h
   ·rename_i q hq
    simp only [Option.some.injEq, Prod.mk.injEq] at h
    obtain ⟨rfl, rfl, rfl⟩ := h
    exact (s_boxT hm he hX hq hc.1).2 k hc.2
   ·cases h
  case buildSlice t len parts =>
   simp only [compO, Option.bind_eq_some_iff] at hco
   obtain ⟨el, hel, sz, hz, z, hzz, ps, hp, hco⟩ := hco
   split at hco
   ·rename_i hb
    injection hco with hco
    subst hco
    simp only [Bool.and_eq_true, decide_eq_true_eq, beq_iff_eq] at hb
    obtain ⟨⟨rfl, hb2⟩, _⟩ := hb
    simp only [outX, fillRows, List.replicate_zero, Option.some.injEq, Prod.mk.injEq] at h
    obtain ⟨rfl, rfl, rfl⟩ := h
    exact (s_bsl0T (z := z) hm hel hz hb2).2 k hc.2
   split at hco
   ·rename_i hb
    injection hco with hco
    subst hco
    simp only [Bool.and_eq_true, decide_eq_true_eq] at hb
    simp only [outX] at h
    split at h
    ·rename_i l c' hf
     simp only [Option.some.injEq, Prod.mk.injEq] at h
     obtain ⟨rfl, rfl, rfl⟩ := h
     exact (s_bslT hm he hel hz hzz hp hb.1.1 hb.1.2 hb.2 hf hc.1).2 k hc.2
    ·cases h
   ·cases hco
  case makeSlice t x y =>
   simp only [compO, Option.bind_eq_some_iff] at hco
   obtain ⟨el, hel, i, hi, z, hzz, X, hX, Y, hY, hco⟩ := hco
   split at hco
   ·rename_i hcd
    simp only [Bool.and_eq_true, decide_eq_true_eq] at hcd
    injection hco with hco
    subst hco
    simp only [outX] at h
    split at h
    ·rename_i ki n hl
     simp only [Option.some.injEq, Prod.mk.injEq] at h
     obtain ⟨rfl, rfl, rfl⟩ := h
     exact (s_mksT hm he hX hY hcd.1.1 hel hi hzz hcd.1.2 hcd.2 hl hc.1).2 k hc.2
    ·cases h
   ·cases hco
 ·have hx : outX k e M true o = out e M true o ∧ isCall o = false ∨ outX k e M true o = none := by
   cases o <;> first | exact .inl ⟨rfl, rfl⟩ | exact .inr rfl | exact absurd rfl ha | skip
   simp only [outX]
   split
   ·exact .inr rfl
   ·exact .inl ⟨rfl, rfl⟩
  rcases hx with ⟨hx, hn⟩ | hx
  ·rw [hx] at h
   exact out_sound hco hn hm he hd h hc
  ·rw [hx] at h; cases h
theorem stpX_sound {o : Oper} {x : XOp} {ops : Array Oper} (hl : compL P a.tmps.size ops o = some x.op) (hG : GI P I) (hm : Mem I σ M w) (he : RelE I σ e a) (hs : StpX P x e M r M') {K : Act → World → Prop} {Q : Exit → Act → World → Prop}
  (hK : ∀ v w', After I σ M w (put e x.op.dst r) M' a (a.put o.dst v) w' → K (a.put o.dst v) w') : if Region.wanted o (yielded ops a.tmps) = true then o.wp P a w K Q else K (a.put o.dst undef) w := by
 refine stp_gen hl hm he hs (fun hco hst hd r0 h0 K Q hK => ?_) hK
 unfold StpX0 at h0
 split at h0
 ·rename_i f args hop
  obtain ⟨k, caps, ps, h1, h2, h3⟩ := h0
  refine stp0_sound (d := false) hco hst hd hG hm he (r := r0) (M' := M') ?_ hK
  rw [hop]
  rcases h3 with ⟨h3, rfl⟩ | ⟨fs, rfl, _, _, h3⟩
  ·exact ⟨⟨k, caps, ps, h1, h2, h3 _⟩, fun h => by cases h⟩
  ·exact ⟨⟨k, caps, ps, h1, h2, h3 _ (fun _ _ => rfl)⟩, fun h => by cases h⟩
 ·obtain ⟨_, _, c, ho, hcc⟩ := h0
  obtain ⟨dst, op', ty, pos, after, gd⟩ := o
  obtain ⟨nx, I', σ', w', hrun, hrel, hev⟩ := (outX_sound (ty := ty) (pos := pos) (after := after) (gd := gd) hco hm he hst ho hcc).goes
  unfold Oper.wp
  rw [hrun]
  have he' := RelE_mono hev.extI hev.extP he
  rcases hrel with ⟨v, rfl, hrv⟩ | ⟨rfl, rfl⟩
  ·exact hK v w' ⟨I', σ', hev, relE_put he' hd (.inr hrv), put_defers, put_size⟩
  ·exact hK undef w' ⟨I', σ', hev, relE_put he' hd (.inr trivial), put_defers, put_size⟩
end
section
variable {P : Program} {n m : Nat} {I0 : Im} {σ0 : List Plc} {M0 : List Blk} {w0 : World} {s : St} {a : Act} {w : World} {ops : Array Oper} {Q : Exit → Act → World → Prop}
theorem sim_stepX {o : Oper} {x : XOp} {r : SV} {M' : List Blk} (hG : GI P I0) (hl : compL P n ops o = some x.op) (hs : Sim n I0 σ0 M0 w0 s a w) (hst : StpX P x s.env s.M r M') {K : Act → World → Prop}
  (hK : ∀ v w', Sim n I0 σ0 M0 w0 ⟨put s.env x.op.dst r, M'⟩ (a.put o.dst v) w' → K (a.put o.dst v) w') : if Region.wanted o (yielded ops a.tmps) = true then o.wp P a w K Q else K (a.put o.dst undef) w := by
 obtain ⟨I, σ, hev, he, hd, hn⟩ := hs
 subst hn
 refine stpX_sound hl (hG.ext hev.extI) hev.mem he hst (fun v w' hA => hK v w' ?_)
 obtain ⟨I', σ', hev', he', hd', hn'⟩ := hA
 exact ⟨I', σ', hev.trans hev', he', hd'.trans hd, hn'⟩
theorem okTab_spec {T : List (List Nat)} (hok : okTab ops T = true) {i : Nat} {o : Oper} (ho : ops[i]? = some o) :
  (o.after.toList.all fun e => !Region.binds .any e || decide (e.on < i)) = true ∧ ((T.getD i []).all fun k => o.after.toList.any fun e => Region.binds .any e && (e.on == k || (T.getD e.on []).contains k)) = true := by
 have h1 := List.all_eq_true.1 hok i (List.mem_range.2 (Array.getElem?_eq_some_iff.1 ho).1)
 simp only [ho, Bool.and_eq_true] at h1
 exact h1
theorem tab_listedX {T : List (List Nat)} (hok : okTab ops T = true) {listed : Array Bool} (hcl : Cl ops listed) :
  ∀ (i : Nat) (o : Oper), ops[i]? = some o → (∀ e ∈ o.after, Region.binds .any e = true → listed.getD e.on false = true) → ∀ k ∈ T.getD i [], listed.getD k false = true := by
 intro i
 induction i using Nat.strongRecOn with
 | _ i ih =>
  intro o ho hall k hk
  have h1 := okTab_spec hok ho
  have h2 := List.all_eq_true.1 h1.2 k hk
  obtain ⟨e, he, h3⟩ := List.any_eq_true.1 h2
  simp only [Bool.and_eq_true, Bool.or_eq_true, beq_iff_eq] at h3
  have he' : e ∈ o.after := by simpa using he
  rcases h3.2 with h4 | h4
  ·rw [← h4]; exact hall e he' h3.1
  ·have h5 := List.all_eq_true.1 h1.1 e he
   simp only [h3.1, Bool.not_true, Bool.false_or, decide_eq_true_eq] at h5
   have hi : i < ops.size := (Array.getElem?_eq_some_iff.1 ho).1
   have hlt : e.on < ops.size := by omega
   have hp : ops[e.on]? = some ops[e.on] := Array.getElem?_eq_getElem hlt
   exact ih e.on h5 _ hp (hcl e.on _ hp (hall e he' h3.1)) k (by simpa using h4)
theorem any_soundX {xs : List XOp} {T : List (List Nat)} (hG : GI P I0) (hok : okTab ops T = true) (hpr : ∀ (i k : Nat) (x y : XOp), xs[i]? = some x → xs[k]? = some y → k < i → (T.getD i []).contains k = true ∨ commX y x = true) {K : St → Prop} (hQ : ∀ s a w, Sim n I0 σ0 M0 w0 s a w → K s → Q .normal a w) :
  ∀ (fuel : Nat) (listed : Array Bool) (rem : List (Nat × XOp)) (s : St) (a : Act) (w : World), rem.length = fuel → (∀ p ∈ rem, xs[p.1]? = some p.2 ∧ ∃ o, ops[p.1]? = some o ∧ compL P n ops o = some p.2.op) →
   rem.Pairwise (fun p q => p.1 < q.1) → (∀ i, i < ops.size → (listed.getD i true = false ↔ ∃ x, (i, x) ∈ rem)) → listed.size = ops.size → Cl ops listed → runX P (rem.map (·.2)) s K → Sim n I0 σ0 M0 w0 s a w → wpAny P .any ops Q fuel listed a w
 | 0, listed, rem, s, a, w, hl, hp, hpw, hli, hsz, hcl, hr, hs => by
  obtain rfl : rem = [] := List.eq_nil_of_length_eq_zero hl
  refine ⟨?_, hQ s a w hs hr⟩
  cases h : Region.ready .any ops listed with
  | nil => rfl
  | cons i l =>
   exfalso
   have hi : i ∈ Region.ready .any ops listed := by rw [h]; simp
   obtain ⟨h1, o, ho, _⟩ := mem_ready.1 hi
   obtain ⟨x, hx⟩ := (hli i (Array.getElem?_eq_some_iff.1 ho).1).1 h1
   simp at hx
 | fuel + 1, listed, rem, s, a, w, hl, hp, hpw, hli, hsz, hcl, hr, hs => by
  have unl : ∀ j, j < ops.size → listed.getD j false = false → listed.getD j true = false := by
   intro j hj h
   have hj' : j < listed.size := by omega
   simp [hj'] at h ⊢
   exact h
  refine ⟨fun hnil => ?_, fun i hi => ?_⟩
  ·exfalso
   obtain ⟨p, rem', rfl⟩ : ∃ p l, rem = p :: l := by cases rem with | nil => simp at hl | cons p l => exact ⟨p, l, rfl⟩
   obtain ⟨_, o, ho, _⟩ := hp p (by simp)
   have hlt := (Array.getElem?_eq_some_iff.1 ho).1
   have hun := (hli p.1 hlt).2 ⟨p.2, by simp⟩
   have hok1 := okTab_spec hok ho
   have : p.1 ∈ Region.ready .any ops listed := by
    refine mem_ready.2 ⟨hun, o, ho, fun e he hb => ?_⟩
    have h5 := List.all_eq_true.1 hok1.1 e (by simpa using he)
    simp only [hb, Bool.not_true, Bool.false_or, decide_eq_true_eq] at h5
    cases hle : listed.getD e.on false with
    | true => rfl
    | false =>
     exfalso
     obtain ⟨x, hx⟩ := (hli e.on (by omega)).1 (unl e.on (by omega) hle)
     rcases List.mem_cons.1 hx with hx | hx
     ·rw [← hx] at h5; simp at h5
     ·have := (List.pairwise_cons.1 hpw).1 _ hx
      simp only [] at this
      omega
   rw [hnil] at this
   cases this
  ·obtain ⟨h1, o, ho, hall⟩ := mem_ready.1 hi
   have hlt := (Array.getElem?_eq_some_iff.1 ho).1
   obtain ⟨x, hx⟩ := (hli i hlt).1 h1
   obtain ⟨u, v, rfl⟩ := List.append_of_mem hx
   obtain ⟨hox, o', ho', hco⟩ := hp (i, x) (by simp)
   obtain rfl : o = o' := by rw [ho] at ho'; injection ho'
   have hcomm : ∀ y ∈ u.map (·.2), commX y x = true := by
    intro y hy
    obtain ⟨q, hq, rfl⟩ := List.mem_map.1 hy
    have hqlt : q.1 < i := (List.pairwise_append.1 hpw).2.2 q hq (i, x) (by simp)
    obtain ⟨hoq, oq, hopq, _⟩ := hp q (by simp [hq])
    rcases hpr i q.1 x q.2 hox hoq hqlt with h2 | h2
    ·exfalso
     have h3 := tab_listedX hok hcl i o ho hall q.1 (by simpa using h2)
     have h4 := (hli q.1 (by omega)).2 ⟨q.2, by simp [hq]⟩
     have h5 : q.1 < listed.size := by omega
     simp [h5] at h3 h4
     rw [h3] at h4
     cases h4
    ·exact h2
   have hr2 := bubbleX (u := u.map (·.2)) (v := v.map (·.2)) hcomm (by simpa using hr)
   obtain ⟨r, M', hst, hr3⟩ := hr2
   refine wpOp_of ho (sim_stepX hG hco hs hst (fun z w' hS => ?_))
   have hset : ∀ j, j < ops.size → (listed.setIfInBounds i true).getD j true = if j = i then true else listed.getD j true := by
    intro j hj
    by_cases hji : j = i
    ·subst hji
     have : j < listed.size := by omega
     simp [this]
    ·rw [if_neg hji, getD_set_ne true (fun e => hji e.symm)]
   refine any_soundX hG hok hpr hQ fuel (listed.setIfInBounds i true) (u ++ v) _ _ _ (by simp at hl ⊢; omega) (fun p hpm => hp p (by simp at hpm ⊢; rcases hpm with h | h; exact .inl h; exact .inr (.inr h))) ?_ (fun j hj => ?_) (by simp [hsz]) ?_ (by simpa using hr3) hS
   ·rw [List.pairwise_append] at hpw ⊢
    exact ⟨hpw.1, (List.pairwise_cons.1 hpw.2.1).2, fun p hp q hq => hpw.2.2 p hp q (by simp [hq])⟩
   ·rw [hset j hj]
    by_cases hji : j = i
    ·rw [if_pos hji]
     constructor
     ·intro h; cases h
     ·rintro ⟨y, hy⟩
      exfalso
      subst hji
      rcases List.mem_append.1 hy with hy | hy
      ·have := (List.pairwise_append.1 hpw).2.2 _ hy (j, x) (by simp)
       simp at this
      ·have := (List.pairwise_cons.1 (List.pairwise_append.1 hpw).2.1).1 _ hy
       simp at this
    ·rw [if_neg hji, hli j hj]
     constructor
     ·rintro ⟨y, hy⟩
      refine ⟨y, ?_⟩
      simp at hy ⊢
      rcases hy with hy | ⟨hy, _⟩ | hy
      ·exact .inl hy
      ·exact absurd hy hji
      ·exact .inr hy
     ·rintro ⟨y, hy⟩
      refine ⟨y, ?_⟩
      simp at hy ⊢
      rcases hy with hy | hy
      ·exact .inl hy
      ·exact .inr (.inr hy)
   ·intro j oj hoj hlj e he hb
    by_cases hji : j = i
    ·subst hji
     obtain rfl : o = oj := by rw [ho] at hoj; injection hoj
     exact getD_set_true (hall e he hb)
    ·rw [getD_set_ne false (fun e => hji e.symm)] at hlj
     exact getD_set_true (hcl j oj hoj hlj e he hb)
end
end Go.Proofs.YtpdcpdngckpgbaaGreatAbs
end
section
namespace Go.Proofs.YtpdcpdngckpgbaaGreatAbs
open Go Go.RowKit

def kR : Code → Nat
 | .skip => 0
 | .region .. => 1
 | .seq .. => 2
 | .cond .. => 3
 | .block .. => 4
 | .loop _ => 5
 | .exit _ => 6
 | .ret => 7
 | .label _ => 0
 | .scope _ => 8
 | _ => 9
def kC : C → Nat
 | .skip => 0
 | .reg .. => 1
 | .rgx .. => 1
 | .seq .. => 2
 | .cond .. => 3
 | .block .. => 4
 | .loop _ => 5
 | .exit _ => 6
 | .ret => 7
 | .scope _ => 8
theorem compC_kind {P : Program} {n : Nat} {code : Code} {c : C} (h : compC P n code = some c) : kR code = kC c := by
 cases code with
 | skip => injection h with h; subst h; rfl
 | ret => injection h with h; subst h; rfl
 | label l => injection h with h; subst h; rfl
 | scope a =>
  simp only [compC, Option.map_eq_some_iff] at h
  obtain ⟨x, _, rfl⟩ := h
  rfl
 | exit id => injection h with h; subst h; rfl
 | region id ops draw =>
  simp only [compC, Option.bind_eq_some_iff] at h
  obtain ⟨ols, _, h⟩ := h
  split at h
  ·split at h
   ·split at h
    ·injection h with h; subst h; rfl
    ·split at h
     ·injection h with h; subst h; rfl
     ·cases h
   ·cases h
  ·injection h with h; subst h; rfl
 | seq a b =>
  simp only [compC, Option.bind_eq_some_iff, Option.map_eq_some_iff] at h
  obtain ⟨x, _, y, _, rfl⟩ := h
  rfl
 | cond x a b =>
  simp only [compC, Option.bind_eq_some_iff, Option.map_eq_some_iff] at h
  obtain ⟨z, _, x, _, y, _, rfl⟩ := h
  rfl
 | block id a =>
  simp only [compC, Option.map_eq_some_iff] at h
  obtain ⟨x, _, rfl⟩ := h
  rfl
 | loop a =>
  simp only [compC, Option.map_eq_some_iff] at h
  obtain ⟨x, _, rfl⟩ := h
  rfl
 | _ => cases h
def Run (P : Program) (n m : Nat) (c : C) (s : St) (K : Exit → St → Prop) : Prop :=
 ∀ code, compC P n code = some c → ∀ (I0 : Im) (σ0 : List Plc) (M0 : List Blk) (w0 : World) (a : Act) (w : World), σ0.length = m ∧ GI P I0 → Sim n I0 σ0 M0 w0 s a w →
  code.wp P (fun e a' w' => ∃ s', Sim n I0 σ0 M0 w0 s' a' w' ∧ K e s') a w
def Gh (n m : Nat) (s s' : St) : Prop := ∀ (I0 : Im) (σ0 : List Plc) (M0 : List Blk) (w0 : World) (a : Act) (w : World), σ0.length = m → Sim n I0 σ0 M0 w0 s a w → Sim n I0 σ0 M0 w0 s' a w
section
variable {P : Program} {n m : Nat} {s s' : St} {K K' : Exit → St → Prop} {c c' : C}
theorem Gh.refl (s : St) : Gh n m s s := fun _ _ _ _ _ _ _ h => h
theorem Gh.trans {s1 s2 s3 : St} (h : Gh n m s1 s2) (k : Gh n m s2 s3) : Gh n m s1 s3 := fun I σ M w0 a w hm hs => k I σ M w0 a w hm (h I σ M w0 a w hm hs)
theorem run_gh (h : Gh n m s s') (hr : Run P n m c s' K) : Run P n m c s K := fun code hc I σ M w0 a w hm hs => hr code hc I σ M w0 a w hm (h I σ M w0 a w hm.1 hs)
theorem run_mono (h : ∀ e s, K e s → K' e s) (hr : Run P n m c s K) : Run P n m c s K' := fun code hc I σ M w0 a w hm hs =>
 wp_mono (hr code hc I σ M w0 a w hm hs) (fun e a w ⟨s', h1, h2⟩ => ⟨s', h1, h e s' h2⟩)
theorem run_skip (h : K .normal s) : Run P n m .skip s K := by
 intro code hc I σ M w0 a w hm hs
 have hk := compC_kind hc
 cases code <;> first | (cases hk; done) | skip
 case skip => exact wp_skip ⟨s, hs, h⟩
 case label l => exact wp_label ⟨s, hs, h⟩
theorem run_ret (h : K .ret s) : Run P n m .ret s K := by
 intro code hc I σ M w0 a w hm hs
 have hk := compC_kind hc
 cases code <;> first | (cases hk; done) | skip
 case ret => exact wp_ret ⟨s, hs, h⟩
theorem run_exit {id : Nat} (h : K (.exit id) s) : Run P n m (.exit id) s K := by
 intro code hc I σ M w0 a w hm hs
 have hk := compC_kind hc
 cases code <;> first | (cases hk; done) | skip
 case exit id' =>
  simp only [compC] at hc
  injection hc with hc
  injection hc with hc
  subst hc
  exact wp_exit ⟨s, hs, h⟩
def andThen (N : St → Prop) (K : Exit → St → Prop) : Exit → St → Prop
 | .normal, s => N s
 | e, s => K e s
theorem compC_seq {code : Code} {x y : C} (hc : compC P n code = some (.seq x y)) : ∃ a b, code = .seq a b ∧ compC P n a = some x ∧ compC P n b = some y := by
 have hk := compC_kind hc
 cases code <;> first | (cases hk; done) | skip
 case seq a b =>
  simp only [compC] at hc
  simp only [Option.bind_eq_some_iff, Option.map_eq_some_iff] at hc
  obtain ⟨x', hx, y', hy, he⟩ := hc
  injection he with h1 h2
  exact ⟨a, b, rfl, by rw [hx, h1], by rw [hy, h2]⟩
theorem compC_cond {code : Code} {x : Opd} {y z : C} (hc : compC P n code = some (.cond x y z)) : ∃ o a b, code = .cond o a b ∧ compX o = some x ∧ compC P n a = some y ∧ compC P n b = some z := by
 have hk := compC_kind hc
 cases code <;> first | (cases hk; done) | skip
 case cond o a b =>
  simp only [compC] at hc
  simp only [Option.bind_eq_some_iff, Option.map_eq_some_iff] at hc
  obtain ⟨x', hx, y', hy, z', hz, he⟩ := hc
  injection he with h1 h2 h3
  exact ⟨o, a, b, rfl, by rw [hx, h1], by rw [hy, h2], by rw [hz, h3]⟩
theorem compC_block {code : Code} {id : Nat} {y : C} (hc : compC P n code = some (.block id y)) : ∃ b, code = .block id b ∧ compC P n b = some y := by
 have hk := compC_kind hc
 cases code <;> first | (cases hk; done) | skip
 case block id' b =>
  simp only [compC] at hc
  simp only [Option.map_eq_some_iff] at hc
  obtain ⟨y', hy, he⟩ := hc
  injection he with h1 h2
  exact ⟨b, by rw [h1], by rw [hy, h2]⟩
theorem compC_loop {code : Code} {y : C} (hc : compC P n code = some (.loop y)) : ∃ b, code = .loop b ∧ compC P n b = some y := by
 have hk := compC_kind hc
 cases code <;> first | (cases hk; done) | skip
 case loop b =>
  simp only [compC] at hc
  simp only [Option.map_eq_some_iff] at hc
  obtain ⟨y', hy, he⟩ := hc
  injection he with h2
  exact ⟨b, rfl, by rw [hy, h2]⟩
theorem compC_reg {code : Code} {d : Bool} {ols : List OpL} (hc : compC P n code = some (.reg d ols)) : ∃ id ops, code = .region id ops d ∧ compLs P n ops ops.toList = some ols ∧ (d = true → P.follows .mixedOrders = true ∧ okDraw ops ols (tabT ops.toList) = true) := by
 have hk := compC_kind hc
 cases code <;> first | (cases hk; done) | skip
 case region id ops draw =>
  simp only [compC] at hc
  simp only [Option.bind_eq_some_iff] at hc
  obtain ⟨ols', h1, h2⟩ := hc
  cases draw with
  | true =>
   rw [if_pos rfl] at h2
   split at h2
   ·rename_i h3
    split at h2
    ·rename_i h6
     injection h2 with h2
     injection h2 with h4 h5
     subst h4; subst h5
     exact ⟨id, ops, rfl, h1, fun _ => ⟨h3, h6⟩⟩
    ·split at h2
     ·injection h2 with h2
      cases h2
     ·cases h2
   ·cases h2
  | false =>
   rw [if_neg (by simp)] at h2
   injection h2 with h2
   injection h2 with h4 h5
   subst h4; subst h5
   exact ⟨id, ops, rfl, h1, fun h => by cases h⟩
theorem run_seq (h : Run P n m c s (andThen (fun s' => Run P n m c' s' K) K)) : Run P n m (.seq c c') s K := by
 intro code hc I σ M w0 a w hm hs
 obtain ⟨x, y, rfl, hx, hy⟩ := compC_seq hc
 refine wp_seq (wp_mono (h x hx I σ M w0 a w hm hs) ?_)
 rintro e a1 w1 ⟨s1, h1, h2⟩
 cases e with
 | normal => exact h2 y hy I σ M w0 a1 w1 hm h1
 | _ => exact ⟨s1, h1, h2⟩
theorem compLs_length {ops : Array Oper} : ∀ {l : List Oper} {ols : List OpL}, compLs P n ops l = some ols → ols.length = l.length
 | [], ols, h => by injection h with h; subst h; rfl
 | o :: l, ols, h => by
  simp only [compLs, Option.bind_eq_some_iff, Option.map_eq_some_iff] at h
  obtain ⟨x, hx, xs, hxs, rfl⟩ := h
  simp [compLs_length hxs]
theorem compLs_get {ops : Array Oper} : ∀ {l : List Oper} {ols : List OpL}, compLs P n ops l = some ols → ∀ (i : Nat) (x : OpL), ols[i]? = some x → ∃ o, l[i]? = some o ∧ compL P n ops o = some x
 | [], ols, h, i, x, hx => by injection h with h; subst h; simp at hx
 | o :: l, ols, h, i, x, hx => by
  simp only [compLs, Option.bind_eq_some_iff, Option.map_eq_some_iff] at h
  obtain ⟨y, hy, xs, hxs, rfl⟩ := h
  cases i with
  | zero => simp at hx; subst hx; exact ⟨o, rfl, hy⟩
  | succ i => simpa using compLs_get hxs i x (by simpa using hx)
theorem compC_rgx {code : Code} {T : List (List Nat)} {ols : List OpL} (hc : compC P n code = some (.rgx T ols)) : ∃ id ops, code = .region id ops true ∧ compLs P n ops ops.toList = some ols ∧ P.follows .mixedOrders = true ∧ okTab ops T = true := by
 have hk := compC_kind hc
 cases code <;> first | (cases hk; done) | skip
 case region id ops draw =>
  simp only [compC] at hc
  simp only [Option.bind_eq_some_iff] at hc
  obtain ⟨ols', h1, h2⟩ := hc
  cases draw with
  | true =>
   rw [if_pos rfl] at h2
   split at h2
   ·rename_i h3
    split at h2
    ·injection h2 with h2
     cases h2
    ·split at h2
     ·rename_i h6
      injection h2 with h2
      injection h2 with h4 h5
      subst h4; subst h5
      exact ⟨id, ops, rfl, h1, h3, h6⟩
     ·cases h2
   ·cases h2
  | false =>
   rw [if_neg (by simp)] at h2
   injection h2 with h2
   cases h2
theorem run_rgx {T : List (List Nat)} {ols : List OpL} {xs : List XOp} (he : xs.map (·.op) = ols) (hp : pairsX T xs = true) (h : runX P xs s (K .normal)) : Run P n m (.rgx T ols) s K := by
 intro code hc I σ M w0 a w hm hs
 obtain ⟨id, ops, rfl, hls, hmx, hok⟩ := compC_rgx hc
 subst he
 refine wp_region_any hmx ?_
 have hlen : xs.length = ops.size := by have := compLs_length hls; simpa using this
 refine any_soundX (xs := xs) (rem := xs.zipIdx.map fun p => (p.2, p.1)) hm.2 hok (fun i k x y hx hy hki => ?_) (K := K .normal) (fun s a w h1 h2 => ⟨s, h1, h2⟩) ops.size _ s a _ (by simp [hlen]) ?_ ?_ ?_ (by simp) ?_ ?_ hs.drew
 ·exact pairsX_spec hp hx hy hki
 ·intro p hp
  obtain ⟨q, hq, rfl⟩ := List.mem_map.1 hp
  have hq' : xs[q.2]? = some q.1 := List.mem_zipIdx_iff_getElem?.1 (show (q.1, q.2) ∈ xs.zipIdx from hq)
  obtain ⟨o, ho, hco⟩ := compLs_get hls q.2 q.1.op (by rw [List.getElem?_map, hq']; rfl)
  exact ⟨hq', o, by simpa using ho, hco⟩
 ·rw [List.pairwise_map]
  refine List.pairwise_iff_getElem.2 (fun i j hi hj hij => ?_)
  simp only [List.getElem_zipIdx]
  omega
 ·intro i hi
  have h0 : (Array.replicate ops.size false).getD i true = false := by simp [hi]
  refine ⟨fun _ => ?_, fun _ => h0⟩
  have hi' : i < xs.length := by omega
  refine ⟨xs[i], List.mem_map.2 ⟨(xs[i], i), ?_, rfl⟩⟩
  exact List.mem_zipIdx_iff_getElem?.2 (List.getElem?_eq_getElem hi')
 ·intro j o hj hl
  simp at hl
  by_cases h : j < ops.size
  ·simp [h] at hl
  ·simp [h] at hl
 ·have e0 : (xs.zipIdx.map fun p => (p.2, p.1)).map (·.2) = xs := by
   apply List.ext_getElem?
   intro i
   simp [List.getElem?_zipIdx]
   cases xs[i]? <;> rfl
  rw [e0]
  exact h
theorem run_reg {d : Bool} {ols : List OpL} (h : runOps P d ols s (K .normal)) : Run P n m (.reg d ols) s K := by
 intro code hc I σ M w0 a w hm hs
 obtain ⟨id, ops, rfl, hls, hd⟩ := compC_reg hc
 cases d with
 | false =>
  refine wp_region ?_
  have := ops_sound (P := P) (d := false) (ops := ops) (K := K .normal) (Q := fun e a' w' => ∃ s', Sim n I σ M w0 s' a' w' ∧ K e s') hm.2 (fun s a w h1 h2 => ⟨s, h1, h2⟩) ops.toList 0 ols s a w (fun j hj => by simp) hls h hs
  rw [List.range_eq_range']
  simpa using this
 | true =>
  obtain ⟨hmx, hok⟩ := hd rfl
  refine wp_region_any hmx ?_
  have hlen : ols.length = ops.size := by have := compLs_length hls; simpa using this
  refine any_sound (rem := ols.zipIdx.map fun p => (p.2, p.1)) hm.2 hok (K := K .normal) (fun s a w h1 h2 => ⟨s, h1, h2⟩) ops.size _ s a _ (by simp [hlen]) ?_ ?_ ?_ (by simp) ?_ ?_ hs.drew
  ·intro p hp
   obtain ⟨q, hq, rfl⟩ := List.mem_map.1 hp
   have hq' : ols[q.2]? = some q.1 := by
    have := List.mem_zipIdx_iff_getElem?.1 (show (q.1, q.2) ∈ ols.zipIdx from hq)
    exact this
   obtain ⟨o, ho, hco⟩ := compLs_get hls q.2 q.1 hq'
   exact ⟨hq', o, by simpa using ho, hco⟩
  ·rw [List.pairwise_map]
   refine List.pairwise_iff_getElem.2 (fun i j hi hj hij => ?_)
   simp only [List.getElem_zipIdx]
   omega
  ·intro i hi
   have h0 : (Array.replicate ops.size false).getD i true = false := by simp [hi]
   refine ⟨fun _ => ?_, fun _ => h0⟩
   have hi' : i < ols.length := by omega
   refine ⟨ols[i], List.mem_map.2 ⟨(ols[i], i), ?_, rfl⟩⟩
   exact List.mem_zipIdx_iff_getElem?.2 (List.getElem?_eq_getElem hi')
  ·intro j o hj hl
   simp at hl
   by_cases h : j < ops.size
   ·simp [h] at hl
   ·simp [h] at hl
  ·have e0 : (ols.zipIdx.map fun p => (p.2, p.1)).map (·.2) = ols := by
    apply List.ext_getElem?
    intro i
    simp [List.getElem?_zipIdx]
    cases ols[i]? <;> rfl
   rw [e0]
   exact h
theorem run_cond {x : Opd} {t : Bool} (hx : raw s.env x = .p (.one (.c (.v (.bool t))))) (h1 : t = true → Run P n m c s K) (h2 : t = false → Run P n m c' s K) : Run P n m (.cond x c c') s K := by
 intro code hc I σ M w0 a w hm hs
 obtain ⟨o, x1, y1, rfl, ho, hx1, hy1⟩ := compC_cond hc
 have hs' := hs
 obtain ⟨I', σ', hev, he, _⟩ := hs'
 have hv := compX_rel he ho
 rw [hx] at hv
 refine wp_cond_split (t := t) hv.1 (fun ht => h1 ht x1 hx1 I σ M w0 a w hm hs) (fun ht => h2 ht y1 hy1 I σ M w0 a w hm hs)
theorem compC_scope {code : Code} {y : C} (hc : compC P n code = some (.scope y)) : ∃ b, code = .scope b ∧ compC P n b = some y := by
 have hk := compC_kind hc
 cases code <;> first | (cases hk; done) | skip
 case scope b =>
  simp only [compC] at hc
  simp only [Option.map_eq_some_iff] at hc
  obtain ⟨y', hy, he⟩ := hc
  injection he with h2
  exact ⟨b, rfl, by rw [hy, h2]⟩
def inScope (K : Exit → St → Prop) : Exit → St → Prop
 | .goto _, _ => False
 | e, s => K e s
theorem run_scope (h : Run P n m c s (inScope K)) : Run P n m (.scope c) s K := by
 intro code hc I σ M w0 a w hm hs
 obtain ⟨b, rfl, hb⟩ := compC_scope hc
 refine wp_scope_straight (wp_mono (h b hb I σ M w0 a w hm hs) ?_)
 rintro e a1 w1 ⟨s1, h1, h2⟩
 cases e with
 | goto l => exact h2.elim
 | _ => exact ⟨s1, h1, h2⟩
def inBlock (id : Nat) (K : Exit → St → Prop) : Exit → St → Prop
 | .exit id', s => if id' = id then K .normal s else K (.exit id') s
 | e, s => K e s
theorem run_block {id : Nat} (h : Run P n m c s (inBlock id K)) : Run P n m (.block id c) s K := by
 intro code hc I σ M w0 a w hm hs
 obtain ⟨b, rfl, hb⟩ := compC_block hc
 refine wp_block (wp_mono (h b hb I σ M w0 a w hm hs) ?_)
 rintro e a1 w1 ⟨s1, h1, h2⟩
 cases e with
 | exit id' =>
  have h2' : if id' = id then K .normal s1 else K (.exit id') s1 := h2
  show if id' = id then _ else _
  by_cases hh : id' = id
  ·rw [if_pos hh] at h2' ⊢; exact ⟨s1, h1, h2'⟩
  ·rw [if_neg hh] at h2' ⊢; exact ⟨s1, h1, h2'⟩
 | _ => exact ⟨s1, h1, h2⟩
theorem wp_loop_num {P : Program} {c : Code} {Q : Exit → Act → World → Prop} (J : Nat → Act → World → Prop) {a : Act} {w : World} {k0 : Nat} (h0 : J k0 a w) (round : ∀ k a w, J k a w → c.wp P (Exit.then (fun a' w' => ∃ k', k' < k ∧ J k' a' w') Q) a w) : (Code.loop c).wp P Q a w := by
 intro b k cs
 have key : ∀ N a w, J N a w → ∃ e a' w', Q e a' w' ∧ Arrives P (lone (b.at a (.code c :: .inLoop c :: k)) cs w) b k cs e a' w' := by
  intro N
  induction N using Nat.strongRecOn with
  | _ N ih =>
   intro a w hJ
   obtain ⟨e, a₁, w₁, hq, harr⟩ := round N a w hJ b (.inLoop c :: k) cs
   cases e with
   | normal =>
    obtain ⟨k', hlt, hJ₁⟩ := hq
    obtain ⟨e₂, a₂, w₂, hq₂, harr₂⟩ := ih k' hlt a₁ w₁ hJ₁
    exact ⟨e₂, a₂, w₂, hq₂, .of_steps (Steps.trans harr (.one step_inLoop)) harr₂⟩
   | exit id => exact ⟨_, a₁, w₁, hq, .pass (x := .inLoop c) rfl (fun _ _ => .inl (by simp)) harr⟩
   | goto l => exact ⟨_, a₁, w₁, hq, .pass (x := .inLoop c) rfl (fun _ _ => .inl (by simp)) harr⟩
   | ret => exact ⟨_, a₁, w₁, hq, .pass (x := .inLoop c) rfl (fun _ _ => .inl (by simp)) harr⟩
   | panic ch => exact ⟨_, a₁, w₁, hq, .pass (x := .inLoop c) rfl (fun _ _ => .inl (by simp)) harr⟩
   | outgrown => exact ⟨_, a₁, w₁, hq, .pass (x := .inLoop c) rfl (fun _ _ => .inl (by simp)) harr⟩
 obtain ⟨e, a', w', hq, harr⟩ := key _ a w h0
 exact ⟨e, a', w', hq, .of_steps (.one step_loop) harr⟩
theorem run_loop {ι : Type} (inv : ι → St) (μ : ι → Nat) (i0 : ι) (h0 : Gh n m s (inv i0)) (h : ∀ i, Run P n m c (inv i) (andThen (fun s' => ∃ j, Gh n m s' (inv j) ∧ μ j < μ i) K)) : Run P n m (.loop c) s K := by
 intro code hc I σ M w0 a w hm hs
 obtain ⟨b, rfl, hb⟩ := compC_loop hc
 refine wp_loop_num (fun k a w => ∃ i, μ i = k ∧ Sim n I σ M w0 (inv i) a w) ⟨i0, rfl, h0 I σ M w0 a w hm.1 hs⟩ ?_
 rintro k a w ⟨i, rfl, hi⟩
 refine wp_mono (h i b hb I σ M w0 a w hm hi) ?_
 rintro e a1 w1 ⟨s1, h1, h2⟩
 cases e with
 | normal =>
  obtain ⟨j, hj, hlt⟩ := h2
  exact ⟨μ j, hlt, j, rfl, hj I σ M w0 a1 w1 hm.1 h1⟩
 | _ => exact ⟨s1, h1, h2⟩
end
end Go.Proofs.YtpdcpdngckpgbaaGreatAbs
end
section
namespace Go.Proofs.YtpdcpdngckpgbaaGreatAbs
open Go Go.RowKit

def ltA (n : Nat) : AV → Prop
 | .c _ => True
 | .ptr b _ _ _ => b < n
 | .arr _ b _ _ _ => b < n
 | .mp b _ => b < n
 | .arx _ b _ _ _ => b < n
 | .ip _ _ => True
 | .fn _ k caps => ∀ i, i < k → ltA n (caps i)
def ltP (n : Nat) : Pt → Prop
 | .one a => ltA n a
 | .agg l => ∀ a ∈ l, ltA n a
def ltS (n : Nat) : SV → Prop
 | .p q => ltP n q
 | .tup l => ∀ q ∈ l, ltP n q
 | .g _ s => ltS n s
 | .any => True
def ltB (n : Nat) : Blk → Prop
 | .rows _ _ _ l _ => ∀ r ∈ l, ∀ a ∈ r, ltA n a
 | _ => True
theorem take_get {σ : List Plc} {n b : Nat} {p : Plc} (hb : b < n) (h : σ[b]? = some p) : (σ.take n)[b]? = some p := by rw [List.getElem?_take, if_pos hb]; exact h
theorem RelA_take {I : Im} {σ : List Plc} {n : Nat} : ∀ {a : AV} {y : Value}, ltA n a → RelA I σ a y → RelA I (σ.take n) a y := by
 intro a
 induction a with
 | c x => intro y _ h; exact h
 | ptr b ver i j => rintro y hb ⟨h1, p, hp, h⟩; exact ⟨h1, p, take_get hb hp, h⟩
 | arr sz b ver off len => rintro y hb ⟨h1, p, hp, h⟩; exact ⟨h1, p, take_get hb hp, h⟩
 | arx sz b ver off len => rintro y hb ⟨h1, p, hp, h⟩; exact ⟨h1, p, take_get hb hp, h⟩
 | mp b ver => rintro y hb ⟨h1, p, hp, h⟩; exact ⟨h1, p, take_get hb hp, h⟩
 | ip n c => intro y _ h; exact h
 | fn f k caps ih => rintro y hb ⟨cs, e, hs, h⟩; exact ⟨cs, e, hs, fun i x hx => ih i (hb i (by have := (Array.getElem?_eq_some_iff.1 hx).1; omega)) (h i x hx)⟩
theorem RelP_take {I : Im} {σ : List Plc} {n : Nat} {q : Pt} {y : Value} (hq : ltP n q) (h : RelP I σ q y) : RelP I (σ.take n) q y := by
 cases q with
 | one a => exact RelA_take hq h
 | agg l => obtain ⟨cs, e, h1, h2⟩ := h; exact ⟨cs, e, h1, fun k a x ha hx => RelA_take (hq a (List.mem_of_getElem? ha)) (h2 k a x ha hx)⟩
theorem RelS_take {I : Im} {σ : List Plc} {n : Nat} : ∀ {s : SV} {y : Value}, ltS n s → RelS I σ s y → RelS I (σ.take n) s y := by
 intro s
 induction s with
 | p q => intro y hq h; exact RelP_take hq h
 | tup l => rintro y hq ⟨vs, e, hs, h⟩; exact ⟨vs, e, hs, fun k q x hk hx => RelP_take (hq q (List.mem_of_getElem? hk)) (h k q x hk hx)⟩
 | g c s ih => intro y hq h; exact ⟨fun hc => ih hq (h.1 hc), h.2⟩
 | any => intro y _ _; exact trivial
theorem RelB_take {I : Im} {σ : List Plc} {n : Nat} {w : World} {p : Plc} {x : Blk} (hx : ltB n x) (h : RelB I σ w p x) : RelB I (σ.take n) w p x := by
 cases x with
 | dead => trivial
 | sit s pos => exact h
 | mp l => exact h
 | rows t sz ver l f =>
  obtain ⟨h0, h1, h2, h3, h4, h5, h6⟩ := h
  refine ⟨h0, h1, h2, h3, h4, h5, ?_⟩
  cases hb : p.blk with
  | none => rw [hb] at h6; exact h6
  | some g =>
   rw [hb] at h6
   obtain ⟨cs, hh, hs, ho, hc⟩ := h6
   refine ⟨cs, hh, hs, ho, fun i r hr j a ha => ?_⟩
   obtain ⟨x, hx1, hra⟩ := hc i r hr j a ha
   exact ⟨x, hx1, RelA_take (hx r (List.mem_of_getElem? hr) a (List.mem_of_getElem? ha)) hra⟩
def SubS (s s' : SV) : Prop := ∀ I σ y, RelS I σ s y → RelS I σ s' y
theorem SubS.refl (s : SV) : SubS s s := fun _ _ _ h => h
theorem SubS.any (s : SV) : SubS s .any := fun _ _ _ _ => trivial
theorem SubS.nil (sz : Nat) (c : Nat → Nat → CV) : SubS (.p (.one (.c (.v (.slice none 0 0))))) (.p (.one (.c (.imm sz 0 c)))) := by
 rintro I σ y ⟨rfl, _⟩
 exact ⟨none, 0, rfl, Nat.le_refl _, .inl rfl⟩
def envL : List (Nat × SV) → Nat → SV
 | [] => fun _ => .any
 | (i, v) :: l => upd (envL l) i v
section
variable {n m : Nat} {s s' : St}
theorem gh_env {e : Nat → SV} {M : List Blk} {e' : Nat → SV} (h : ∀ i, SubS (e i) (e' i)) : Gh n m ⟨e, M⟩ ⟨e', M⟩ := by
 rintro I0 σ0 M0 w0 a w hm ⟨I, σ, hev, he, h1, h2⟩
 exact ⟨I, σ, hev, fun i => h i _ _ _ (he i), h1, h2⟩
theorem gh_drop {e : Nat → SV} {M M' D : List Blk} {l : List (Nat × SV)} (hM : M = M' ++ D) (hm' : m ≤ M'.length) (hl : ∀ p ∈ l, SubS (e p.1) p.2 ∧ ltS M'.length p.2) (hB : ∀ x ∈ M', ltB M'.length x) : Gh n m ⟨e, M⟩ ⟨envL l, M'⟩ := by
 rintro I0 σ0 M0 w0 a w hm ⟨I, σ, hev, he, h1, h2⟩
 subst hM
 have hlen : σ.length = (M' ++ D).length := hev.mem.len
 have hget : ∀ {b : Nat} {x : Blk} {p : Plc}, M'[b]? = some x → (σ.take M'.length)[b]? = some p → (M' ++ D)[b]? = some x ∧ σ[b]? = some p := by
  intro b x p hx hp
  have hb := getElem?_lt hx
  rw [List.getElem?_take, if_pos hb] at hp
  exact ⟨by rw [List.getElem?_append_left hb]; exact hx, hp⟩
 refine ⟨I, σ.take M'.length, ⟨hev.extI, ?_, ⟨?_, ?_, ?_, ?_, hev.mem.imm⟩, hev.keep, ?_, hev.fresh⟩, ?_, h1, h2⟩
 ·intro b p hp
  obtain ⟨p', hp', hq⟩ := hev.extP b p hp
  have hs0 : b < σ0.length := getElem?_lt hp
  exact ⟨p', take_get (by omega) hp', hq⟩
 ·simp at hlen ⊢; omega
 ·intro b x p hx hp
  obtain ⟨k1, k2⟩ := hget hx hp
  exact RelB_take (hB x (List.mem_of_getElem? hx)) (hev.mem.blk b x p k1 k2)
 ·intro b b' x x' p p' g h1 h2 l1 l2 q1 q2 e1 e2
  obtain ⟨k1, k2⟩ := hget h1 q1
  obtain ⟨k3, k4⟩ := hget h2 q2
  exact hev.mem.inj b b' x x' p p' g k1 k3 l1 l2 k2 k4 e1 e2
 ·intro b x p g h1 l1 q1 e1
  obtain ⟨k1, k2⟩ := hget h1 q1
  exact hev.mem.ap b x p g k1 l1 k2 e1
 ·rintro g ⟨b, x, p, h1, l1, q1, e1⟩
  obtain ⟨k1, k2⟩ := hget h1 q1
  exact hev.own g ⟨b, x, p, k1, l1, k2, e1⟩
 ·intro i
  have key : ∀ {l : List (Nat × SV)}, (∀ p ∈ l, SubS (e p.1) p.2 ∧ ltS M'.length p.2) → RelS I (σ.take M'.length) (envL l i) (a.tmps.getD i undef) := by
   intro l
   induction l with
   | nil => intro _; exact trivial
   | cons q l ih =>
    intro hl
    obtain ⟨j, v⟩ := q
    unfold envL upd
    by_cases hi : i = j
    ·subst hi
     rw [if_pos rfl]
     exact RelS_take (hl (i, v) (by simp)).2 ((hl (i, v) (by simp)).1 _ _ _ (he i))
    ·rw [if_neg hi]
     exact ih (fun p hp => hl p (by simp [hp]))
  exact key hl
def toC : AV → CV
 | .c x => x
 | _ => .v (.tuple #[])
def frzA (b ver : Nat) (l : List (List AV)) : AV → AV
 | .arr sz b' ver' off len => if b' = b ∧ ver' = ver ∧ off + len ≤ l.length then .c (.imm sz len (fun i j => toC ((l.getD (off + i) []).getD j default))) else .arr sz b' ver' off len
 | .ptr b' ver' i j => if b' = b ∧ ver' = ver ∧ i < l.length then .ip ((l.getD i []).length - j) (fun k => toC ((l.getD i []).getD (j + k) default)) else .ptr b' ver' i j
 | .fn f k caps => .fn f k (fun i => frzA b ver l (caps i))
 | a => a
def frzP (b ver : Nat) (l : List (List AV)) : Pt → Pt
 | .one a => .one (frzA b ver l a)
 | .agg as => .agg (as.map (frzA b ver l))
def frzS (b ver : Nat) (l : List (List AV)) : SV → SV
 | .p q => .p (frzP b ver l q)
 | .tup qs => .tup (qs.map (frzP b ver l))
 | .g c s => .g c (frzS b ver l s)
 | .any => .any
def frzB (b ver : Nat) (l : List (List AV)) : Blk → Blk
 | .rows t sz v rs f => .rows t sz v (rs.map (·.map (frzA b ver l))) f
 | x => x
def closedRows (l : List (List AV)) : Prop := ∀ r ∈ l, ∀ a ∈ r, ∃ x, a = .c x
section
variable {I I' : Im} {σ : List Plc} {b t sz ver : Nat} {l : List (List AV)} {fl : Bool} {w : World} {p : Plc}
theorem frzA_rel (hext : ExtI I I') (hp : σ[b]? = some p) (hb : RelB I σ w p (.rows t sz ver l fl)) (hcl : closedRows l) (hI : ∀ g, p.blk = some g → ∀ ad x, ad.block = g → w.cell? ad = some x → I' ad = some x) :
  ∀ {a : AV} {y : Value}, RelA I σ a y → RelA I' σ (frzA b ver l a) y := by
 intro a
 induction a with
 | c x => intro y h; exact RelC_mono hext h
 | ptr b' v i j =>
  intro y h
  unfold frzA
  split
  ·rename_i hc
   obtain ⟨rfl, rfl, hi⟩ := hc
   obtain ⟨h1, p', hp', hv, hq⟩ := h
   obtain rfl : p = p' := by rw [hp] at hp'; injection hp'
   obtain ⟨k0, k1, k2, k3, k4, k5, k6⟩ := hb
   obtain ⟨g, hg, rfl⟩ := hq k2
   rw [hg] at k6
   obtain ⟨cs, hh, hs, ho, hcs⟩ := k6
   refine ⟨_, rfl, fun k hk => ?_⟩
   have hr : l[i]? = some (l.getD i []) := getD_some hi
   have hu : (l.getD i [])[j + k]? = some ((l.getD i []).getD (j + k) default) := getD_some (by omega)
   obtain ⟨x, hx1, hx2⟩ := hcs _ _ hr (j + k) _ hu
   obtain ⟨cv, hcv⟩ := hcl _ (List.mem_of_getElem? hr) _ (List.mem_of_getElem? hu)
   rw [hcv] at hx2
   refine ⟨x, hI g hg _ x (by rw [add_mk]) ?_, ?_⟩
   ·rw [add_mk, cell_of_row w g _ cs t (0, 0) hh, k1, show i * sz + j + k = i * sz + (j + k) by omega]
    exact hx1
   ·show RelC I' (toC ((l.getD i []).getD (j + k) default)) x
    rw [hcv]
    exact RelC_mono hext hx2
  ·exact RelA_mono hext (ExtP.refl _) h
 | ip n c => intro y h; exact RelA_mono hext (ExtP.refl _) h
 | arx sz b ver off len => intro y h; exact RelA_mono hext (ExtP.refl _) h
 | mp b ver => intro y h; exact RelA_mono hext (ExtP.refl _) h
 | fn f k caps ih => rintro y ⟨cs, e, hs, h⟩; exact ⟨cs, e, hs, fun i x hx => ih i (h i x hx)⟩
 | arr sz' b' v off len =>
  intro y h
  unfold frzA
  split
  ·rename_i hc
   obtain ⟨rfl, rfl, hle⟩ := hc
   obtain ⟨h1, p', hp', hv, hq⟩ := h
   obtain rfl : p = p' := by rw [hp] at hp'; injection hp'
   obtain ⟨k0, k1, k2, k3, k4, k5, k6⟩ := hb
   obtain ⟨e1, e2, e3⟩ := hq k2
   have e1' : sz = sz' := by rw [← k1, e1]
   subst e1'
   refine ⟨_, _, e3, by omega, ?_⟩
   by_cases hl0 : len = 0
   ·exact .inl hl0
   ·cases hbk : p.blk with
    | none =>
     rw [hbk] at k6
     have k6 : p.cap = 0 := k6
     omega
    | some g =>
     rw [hbk] at k6
     obtain ⟨cs, hh, hs, ho, hcs⟩ := k6
     refine .inr ⟨⟨g, off * sz, none⟩, rfl, fun i hi j hj => ?_⟩
     have hr : l[off + i]? = some (l.getD (off + i) []) := getD_some (by omega)
     have hrs := k5 _ _ hr
     have hu : (l.getD (off + i) [])[j]? = some ((l.getD (off + i) []).getD j default) := getD_some (by omega)
     obtain ⟨x, hx1, hx2⟩ := hcs _ _ hr j _ hu
     obtain ⟨cv, hcv⟩ := hcl _ (List.mem_of_getElem? hr) _ (List.mem_of_getElem? hu)
     rw [hcv] at hx2
     refine ⟨x, hI g hbk _ x (by rw [add_mk]) ?_, ?_⟩
     ·rw [add_mk, cell_of_row w g _ cs t (0, 0) hh, show off * sz + (i * sz + j) = (off + i) * sz + j by rw [Nat.add_mul]; omega]
      exact hx1
     ·show RelC I' (toC ((l.getD (off + i) []).getD j default)) x
      rw [hcv]
      exact RelC_mono hext hx2
  ·exact RelA_mono hext (ExtP.refl _) h
theorem frzP_rel (hext : ExtI I I') (hp : σ[b]? = some p) (hb : RelB I σ w p (.rows t sz ver l fl)) (hcl : closedRows l) (hI : ∀ g, p.blk = some g → ∀ ad x, ad.block = g → w.cell? ad = some x → I' ad = some x) {q : Pt} {y : Value} (h : RelP I σ q y) : RelP I' σ (frzP b ver l q) y := by
 cases q with
 | one a => exact frzA_rel hext hp hb hcl hI h
 | agg as =>
  obtain ⟨cs, e, h1, h2⟩ := h
  refine ⟨cs, e, by simpa using h1, fun k a x ha hx => ?_⟩
  simp only [List.getElem?_map, Option.map_eq_some_iff] at ha
  obtain ⟨a', ha', rfl⟩ := ha
  exact frzA_rel hext hp hb hcl hI (h2 k a' x ha' hx)
theorem frzS_rel (hext : ExtI I I') (hp : σ[b]? = some p) (hb : RelB I σ w p (.rows t sz ver l fl)) (hcl : closedRows l) (hI : ∀ g, p.blk = some g → ∀ ad x, ad.block = g → w.cell? ad = some x → I' ad = some x) : ∀ {s : SV} {y : Value}, RelS I σ s y → RelS I' σ (frzS b ver l s) y := by
 intro s
 induction s with
 | p q => intro y h; exact frzP_rel hext hp hb hcl hI h
 | tup qs =>
  rintro y ⟨vs, e, hs, h⟩
  refine ⟨vs, e, by simpa using hs, fun k q x hq hx => ?_⟩
  simp only [List.getElem?_map, Option.map_eq_some_iff] at hq
  obtain ⟨q', hq', rfl⟩ := hq
  exact frzP_rel hext hp hb hcl hI (h k q' x hq' hx)
 | g c s ih => intro y h; exact ⟨fun hc => ih (h.1 hc), h.2⟩
 | any => intro y _; exact trivial
end
theorem gh_freeze {e : Nat → SV} {M : List Blk} {b t sz ver : Nat} {l : List (List AV)} {fl : Bool} (hM : M[b]? = some (.rows t sz ver l fl)) (hcl : closedRows l) : Gh n m ⟨e, M⟩ ⟨fun i => frzS b ver l (e i), (M.map (frzB b ver l)).set b .dead⟩ := by
 rintro I0 σ0 M0 w0 a w hm ⟨I, σ, hev, he, h1, h2⟩
 have hmem : Mem I σ M w := hev.mem
 obtain ⟨p, hp, hrest⟩ := mem_rows hmem hM
 have hb : RelB I σ w p (.rows t sz ver l fl) := hmem.blk b _ p hM hp
 have hbl : b < M.length := getElem?_lt hM
 obtain ⟨I', hI'⟩ : ∃ I' : Im, ∀ ad, I' ad = if p.blk = some ad.block then w.cell? ad else I ad := ⟨fun ad => if p.blk = some ad.block then w.cell? ad else I ad, fun _ => rfl⟩
 have hext : ExtI I I' := by
  intro ad x hx
  rw [hI']
  split
  ·rename_i hg
   have := hmem.ap b _ p ad.block hM rfl hp hg ad rfl
   rw [this] at hx
   cases hx
  ·exact hx
 have hIn : ∀ g, p.blk = some g → ∀ ad x, ad.block = g → w.cell? ad = some x → I' ad = some x := by
  intro g hg ad x had hx
  rw [hI', if_pos (by rw [hg, had])]
  exact hx
 have key : ∀ {b' : Nat} {y : Blk}, ((M.map (frzB b ver l)).set b .dead)[b']? = some y → (b' = b ∧ y = .dead) ∨ (b' ≠ b ∧ ∃ x, M[b']? = some x ∧ y = frzB b ver l x) := by
  intro b' y hy
  rw [List.getElem?_set] at hy
  by_cases hbb : b = b'
  ·subst hbb
   rw [if_pos rfl, if_pos (by simpa using hbl)] at hy
   injection hy with hy
   exact .inl ⟨rfl, hy.symm⟩
  ·rw [if_neg hbb, List.getElem?_map, Option.map_eq_some_iff] at hy
   obtain ⟨x, hx, rfl⟩ := hy
   exact .inr ⟨fun e => hbb e.symm, x, hx, rfl⟩
 have hlive : ∀ x, (frzB b ver l x).live = x.live := fun x => by cases x <;> rfl
 have hmem' : Mem I' σ ((M.map (frzB b ver l)).set b .dead) w := by
  refine ⟨by simp [hmem.len], ?_, ?_, ?_, ?_⟩
  ·intro b' y q hy hq
   rcases key hy with ⟨_, rfl⟩ | ⟨hne, x, hx, rfl⟩
   ·trivial
   ·have := hmem.blk b' x q hx hq
    cases x with
    | dead => trivial
    | sit s pos => exact this
    | mp l => exact this
    | rows t' sz' ver' rs f' =>
     obtain ⟨k0, k1, k2, k3, k4, k5, k6⟩ := this
     refine ⟨fun h => by rw [List.length_map]; exact k0 h, k1, k2, by simpa using k3, k4, fun i r hr => ?_, ?_⟩
     ·simp only [List.getElem?_map, Option.map_eq_some_iff] at hr
      obtain ⟨r', hr', rfl⟩ := hr
      rw [List.length_map]
      exact k5 i r' hr'
     ·cases hbk : q.blk with
      | none => rw [hbk] at k6; exact k6
      | some g =>
       rw [hbk] at k6
       obtain ⟨cs, hh, hs, ho, hcs⟩ := k6
       refine ⟨cs, hh, hs, ho, fun i r hr j u hu => ?_⟩
       simp only [List.getElem?_map, Option.map_eq_some_iff] at hr
       obtain ⟨r', hr', rfl⟩ := hr
       simp only [List.getElem?_map, Option.map_eq_some_iff] at hu
       obtain ⟨u', hu', rfl⟩ := hu
       obtain ⟨x, hx1, hx2⟩ := hcs i r' hr' j u' hu'
       exact ⟨x, hx1, frzA_rel hext hp hb hcl hIn hx2⟩
  ·intro b1 b2 x1 x2 p1 p2 g h1 h2 l1 l2 q1 q2 e1 e2
   rcases key h1 with ⟨_, rfl⟩ | ⟨n1, y1, k1, rfl⟩
   ·cases l1
   ·rcases key h2 with ⟨_, rfl⟩ | ⟨n2, y2, k2, rfl⟩
    ·cases l2
    ·rw [hlive] at l1 l2
     exact hmem.inj b1 b2 y1 y2 p1 p2 g k1 k2 l1 l2 q1 q2 e1 e2
  ·intro b1 x1 p1 g h1 l1 q1 e1 ad had
   rcases key h1 with ⟨_, rfl⟩ | ⟨n1, y1, k1, rfl⟩
   ·cases l1
   ·rw [hlive] at l1
    rw [hI']
    split
    ·rename_i hg
     exfalso
     exact n1 (hmem.inj b1 b y1 _ p1 p g k1 hM l1 rfl q1 hp e1 (by rw [hg, had]))
    ·exact hmem.ap b1 y1 p1 g k1 l1 q1 e1 ad had
  ·intro ad x hx
   rw [hI'] at hx
   split at hx
   ·exact hx
   ·exact hmem.imm ad x hx
 refine ⟨I', σ, hev.trans ⟨hext, ExtP.refl _, hmem', Keep.refl _ _, ?_, ?_⟩, fun i => frzS_rel hext hp hb hcl hIn (he i), h1, h2⟩
 ·rintro g ⟨b1, x1, p1, k1, k2, k3, k4⟩
  rcases key k1 with ⟨_, rfl⟩ | ⟨n1, y1, j1, rfl⟩
  ·cases k2
  ·rw [hlive] at k2
   exact .inl ⟨b1, y1, p1, j1, k2, k3, k4⟩
 ·intro ad x hx
  rw [hI'] at hx
  split at hx
  ·rename_i hg
   exact .inr (.inr ⟨b, _, p, hM, rfl, hp, hg⟩)
  ·exact .inl hx
theorem Mem.born {I : Im} {σ : List Plc} {M : List Blk} {w : World} (hm : Mem I σ M w) (t sz : Nat) : Mem I (σ ++ [⟨none, 0, 0, sz⟩]) (M ++ [.rows t sz 0 [] true]) w := by
 have hext := ExtP.append σ [⟨none, 0, 0, sz⟩]
 have old : ∀ {b : Nat} {y : Blk} {q : Plc}, (M ++ [.rows t sz 0 [] true])[b]? = some y → (σ ++ [⟨none, 0, 0, sz⟩])[b]? = some q → (M[b]? = some y ∧ σ[b]? = some q) ∨ (y = .rows t sz 0 [] true ∧ q = ⟨none, 0, 0, sz⟩) := by
  intro b y q hy hq
  by_cases hb : b < M.length
  ·rw [List.getElem?_append_left hb] at hy
   rw [List.getElem?_append_left (by rw [hm.len]; exact hb)] at hq
   exact .inl ⟨hy, hq⟩
  ·have h1 := getElem?_lt hy
   have h1' : b < M.length + 1 := by simpa using h1
   have h2 : b = M.length := by omega
   subst h2
   rw [List.getElem?_append_right (Nat.le_refl _)] at hy
   rw [List.getElem?_append_right (by rw [hm.len]; exact Nat.le_refl _)] at hq
   simp only [Nat.sub_self, List.getElem?_cons_zero, Option.some.injEq, hm.len] at hy hq
   exact .inr ⟨hy.symm, hq.symm⟩
 refine ⟨by simp [hm.len], ?_, ?_, ?_, hm.imm⟩
 ·intro b y q hy hq
  rcases old hy hq with ⟨h1, h2⟩ | ⟨rfl, rfl⟩
  ·exact RelB_mono (ExtI.refl _) hext (fun _ _ _ => rfl) (hm.blk b y q h1 h2)
  ·exact ⟨fun _ => rfl, rfl, rfl, Nat.le_refl _, Nat.zero_le _, fun i r h => by simp at h, rfl⟩
 ·intro b b' x x' p p' g h1 h2 l1 l2 q1 q2 e1 e2
  rcases old h1 q1 with ⟨k1, k2⟩ | ⟨rfl, rfl⟩
  ·rcases old h2 q2 with ⟨k3, k4⟩ | ⟨rfl, rfl⟩
   ·exact hm.inj b b' x x' p p' g k1 k3 l1 l2 k2 k4 e1 e2
   ·cases e2
  ·cases e1
 ·intro b x p g h1 l1 q1 e1
  rcases old h1 q1 with ⟨k1, k2⟩ | ⟨rfl, rfl⟩
  ·exact hm.ap b x p g k1 l1 k2 e1
  ·cases e1
theorem Has.born {σ : List Plc} {M : List Blk} {t sz g : Nat} (hl : σ.length = M.length) (h : Has (σ ++ [⟨none, 0, 0, sz⟩]) (M ++ [.rows t sz 0 [] true]) g) : Has σ M g := by
 obtain ⟨b, y, q, hy, hlv, hq, hg⟩ := h
 by_cases hb : b < M.length
 ·rw [List.getElem?_append_left hb] at hy
  rw [List.getElem?_append_left (by rw [hl]; exact hb)] at hq
  exact ⟨b, y, q, hy, hlv, hq, hg⟩
 ·have h1 := getElem?_lt hy
  have h1' : b < M.length + 1 := by simpa using h1
  have h2 : b = M.length := by omega
  subst h2
  rw [List.getElem?_append_right (by rw [hl]; exact Nat.le_refl _)] at hq
  simp only [hl, Nat.sub_self, List.getElem?_cons_zero, Option.some.injEq] at hq
  subst hq
  cases hg
theorem rel_born {I : Im} {σ : List Plc} {M : List Blk} {sz : Nat} (hl : σ.length = M.length) : RelA I (σ ++ [⟨none, 0, 0, sz⟩]) (.arr sz M.length 0 0 0) (.slice none 0 0) := by
 refine ⟨rfl, ⟨none, 0, 0, sz⟩, ?_, Nat.le_refl _, fun _ => ⟨rfl, Nat.le_refl _, rfl⟩⟩
 rw [List.getElem?_append_right (by rw [hl]; exact Nat.le_refl _)]
 simp [hl]
theorem gh_born {e : Nat → SV} {M : List Blk} (i t sz : Nat) (h : e i = .p (.one (.c (.v (.slice none 0 0))))) : Gh n m ⟨e, M⟩ ⟨upd e i (.p (.one (.arr sz M.length 0 0 0))), M ++ [.rows t sz 0 [] true]⟩ := by
 rintro I0 σ0 M0 w0 a w hm ⟨I, σ, hev, he, h1, h2⟩
 have hext := ExtP.append σ [⟨none, 0, 0, sz⟩]
 have hl : σ.length = M.length := hev.mem.len
 refine ⟨I, σ ++ [⟨none, 0, 0, sz⟩], hev.trans ⟨ExtI.refl _, hext, hev.mem.born t sz, Keep.refl _ _, fun g hg => .inl (Has.born hl hg), fun _ _ h => .inl h⟩, fun j => ?_, h1, h2⟩
 unfold upd
 by_cases hj : j = i
 ·subst hj
  simp only [if_true]
  have := he j
  simp only [h] at this
  obtain ⟨hv, _⟩ := this
  rw [hv]
  exact (rel_born (I := I) (M := M) (sz := sz) hl : RelA I _ _ _)
 ·simp only [if_neg hj]
  exact RelS_mono (ExtI.refl _) hext (he j)
theorem gh_res {e : Nat → SV} {M : List Blk} : ∀ k : Nat, Gh n m ⟨e, M⟩ ⟨e, M ++ List.replicate k (.rows 0 0 0 [] true)⟩
 | 0 => by simpa using Gh.refl (n := n) (m := m) (⟨e, M⟩ : St)
 | k + 1 => by
  refine (gh_res k).trans ?_
  rw [List.replicate_succ', ← List.append_assoc]
  generalize M ++ List.replicate k (Blk.rows 0 0 0 [] true) = M1
  rintro I0 σ0 M0 w0 a w hm ⟨I, σ, hev, he, h1, h2⟩
  have hext := ExtP.append σ [⟨none, 0, 0, 0⟩]
  have hl : σ.length = M1.length := hev.mem.len
  exact ⟨I, σ ++ [⟨none, 0, 0, 0⟩], hev.trans ⟨ExtI.refl _, hext, hev.mem.born 0 0, Keep.refl _ _, fun g hg => .inl (Has.born hl hg), fun _ _ h => .inl h⟩, fun j => RelS_mono (ExtI.refl _) hext (he j), h1, h2⟩
end
end Go.Proofs.YtpdcpdngckpgbaaGreatAbs
end
section
namespace Go.Proofs.YtpdcpdngckpgbaaGreatAbs
open Go Go.RowKit

inductive RV where
 | t (i : Nat)
 | l (g : Bool) (sz i : Nat)
def compRV (P : Program) : ResultVar → Option RV
 | .tmp t => some (.t t)
 | .cell t ty => (aggT P ty).bind fun g => (sizeT P ty).map fun sz => .l g sz t
def compRs (P : Program) : List ResultVar → Option (List RV)
 | [] => some []
 | x :: xs => (compRV P x).bind fun y => (compRs P xs).map (y :: ·)
def resL (e : Nat → SV) (M : List Blk) : List RV → Option (List Pt × Prop)
 | [] => some ([], True)
 | .t i :: l =>
  match e i with
  | .p q => (resL e M l).map fun r => (q :: r.1, r.2)
  | _ => none
 | .l g sz i :: l =>
  match out e M true (.ld g sz (.t i)) with
  | some (.p q, _, c) => (resL e M l).map fun r => (q :: r.1, c ∧ r.2)
  | _ => none
def mkRes : List Pt → SV
 | [q] => .p q
 | qs => .tup qs
structure Fun (P : Program) (f n : Nat) (c : C) (rvs : List RV) : Prop where
 ex : ∃ fn code, P.funcs[f]? = some fn ∧ (fn.name == "runtime.NumGoroutine") = false ∧ fn.body = some code ∧ fn.ntmps = n ∧ compC P n code = some c ∧ compRs P fn.results.toList = some rvs
def envOf (k : Nat) : List Pt → Nat → SV
 | [] => fun _ => .any
 | q :: qs => upd (envOf (k + 1) qs) k (.p q)
def Fin (n m : Nat) (rvs : List RV) (r : SV) (M' : List Blk) (s : St) : Prop :=
 ∃ s1 D qs cnd, Gh n m s s1 ∧ resL s1.env s1.M rvs = some (qs, cnd) ∧ cnd ∧ s1.M = M' ++ D ∧ SubS (mkRes qs) r ∧ m ≤ M'.length ∧ ltS M'.length r ∧ ∀ x ∈ M', ltB M'.length x
def FinK (n m : Nat) (rvs : List RV) (r : SV) (M' : List Blk) : Exit → St → Prop
 | .normal, s => Fin n m rvs r M' s
 | .ret, s => Fin n m rvs r M' s
 | _, _ => False
section
variable {P : Program} {I : Im} {σ : List Plc} {e : Nat → SV} {M M' : List Blk} {w : World} {a : Act} {n m : Nat}
theorem Mem.drop {D : List Blk} (hm : Mem I σ (M' ++ D) w) (hB : ∀ x ∈ M', ltB M'.length x) : Mem I (σ.take M'.length) M' w ∧ ∀ g, Has (σ.take M'.length) M' g → Has σ (M' ++ D) g := by
 have hlen : σ.length = (M' ++ D).length := hm.len
 have hget : ∀ {b : Nat} {x : Blk} {p : Plc}, M'[b]? = some x → (σ.take M'.length)[b]? = some p → (M' ++ D)[b]? = some x ∧ σ[b]? = some p := by
  intro b x p hx hp
  have hb := getElem?_lt hx
  rw [List.getElem?_take, if_pos hb] at hp
  exact ⟨by rw [List.getElem?_append_left hb]; exact hx, hp⟩
 refine ⟨⟨?_, ?_, ?_, ?_, hm.imm⟩, ?_⟩
 ·simp at hlen ⊢; omega
 ·intro b x p hx hp
  obtain ⟨k1, k2⟩ := hget hx hp
  exact RelB_take (hB x (List.mem_of_getElem? hx)) (hm.blk b x p k1 k2)
 ·intro b b' x x' p p' g h1 h2 l1 l2 q1 q2 e1 e2
  obtain ⟨k1, k2⟩ := hget h1 q1
  obtain ⟨k3, k4⟩ := hget h2 q2
  exact hm.inj b b' x x' p p' g k1 k3 l1 l2 k2 k4 e1 e2
 ·intro b x p g h1 l1 q1 e1
  obtain ⟨k1, k2⟩ := hget h1 q1
  exact hm.ap b x p g k1 l1 k2 e1
 ·rintro g ⟨b, x, p, h1, l1, q1, e1⟩
  obtain ⟨k1, k2⟩ := hget h1 q1
  exact ⟨b, x, p, k1, l1, k2, e1⟩
def resF (P : Program) (tmps : Array Value) : ResultVar → Sem Value
 | .tmp t => pure (tmps.getD t undef)
 | .cell b t => do loadVar t (← asAddr (tmps.getD b undef))
theorem resL_run (hm : Mem I σ M w) (he : RelE I σ e a) : ∀ {l : List ResultVar} {rvs : List RV} {qs : List Pt} {c : Prop}, compRs P l = some rvs → resL e M rvs = some (qs, c) → c →
  ∃ vs : List Value, (l.mapM (resF P a.tmps) : Sem (List Value)).run P w = .ok vs w ∧ vs.length = qs.length ∧ ∀ (k : Nat) (q : Pt) (x : Value), qs[k]? = some q → vs[k]? = some x → RelP I σ q x
 | [], rvs, qs, c, h, hr, hc => by
  injection h with h; subst h
  simp only [resL, Option.some.injEq, Prod.mk.injEq] at hr
  obtain ⟨rfl, rfl⟩ := hr
  exact ⟨[], by simp, rfl, fun k q x h => by simp at h⟩
 | x :: l, rvs, qs, c, h, hr, hc => by
  simp only [compRs, Option.bind_eq_some_iff, Option.map_eq_some_iff] at h
  obtain ⟨y, hy, ys, hys, rfl⟩ := h
  cases x with
  | tmp t =>
   injection hy with hy
   subst hy
   simp only [resL] at hr
   split at hr
   ·rename_i q hq
    simp only [Option.map_eq_some_iff, Prod.mk.injEq, Prod.exists] at hr
    obtain ⟨qs', c', hr', rfl, rfl⟩ := hr
    obtain ⟨vs, h1, h2, h3⟩ := resL_run hm he hys hr' hc
    refine ⟨a.tmps.getD t undef :: vs, ?_, by simp [h2], fun k q' x hq' hx => ?_⟩
    ·rw [List.mapM_cons]
     simp only [Sem.run_bind, resF, Sem.run_pure, Result.andThen_ok, h1]
    ·cases k with
     | zero =>
      simp only [List.getElem?_cons_zero, Option.some.injEq] at hq' hx
      subst hq'
      subst hx
      have := he t
      rw [hq] at this
      exact this
     | succ k => exact h3 k q' x (by simpa using hq') (by simpa using hx)
   ·cases hr
  | cell b t =>
   simp only [compRV, Option.bind_eq_some_iff, Option.map_eq_some_iff] at hy
   obtain ⟨g, hg, sz, hz, rfl⟩ := hy
   simp only [resL] at hr
   split at hr
   ·rename_i q M2 c2 hq
    simp only [Option.map_eq_some_iff, Prod.mk.injEq, Prod.exists] at hr
    obtain ⟨qs', c', hr', rfl, rfl⟩ := hr
    obtain ⟨vs, h1, h2, h3⟩ := resL_run hm he hys hr' hc.2
    obtain ⟨_, ad, v, hv, hrun, hrel⟩ := ld_core (P := P) (X := .t b) hm (RelS_strip (he b)) hg hz hq hc.1
    refine ⟨v :: vs, ?_, by simp [h2], fun k q' x hq' hx => ?_⟩
    ·have e0 : (resF P a.tmps (.cell b t)).run P w = .ok v w := by
      show (do loadVar t (← asAddr (a.tmps.getD b undef)) : Sem Value).run P w = _
      rw [hv]
      simp only [Sem.run_bind, asAddr, Sem.run_pure, Result.andThen_ok, hrun]
     rw [List.mapM_cons]
     simp only [Sem.run_bind, e0, Sem.run_pure, Result.andThen_ok, h1]
    ·cases k with
     | zero =>
      simp only [List.getElem?_cons_zero, Option.some.injEq] at hq' hx
      subst hq'
      subst hx
      exact hrel
     | succ k => exact h3 k q' x (by simpa using hq') (by simpa using hx)
   ·cases hr
theorem envOf_get : ∀ (ps : List Pt) (k i : Nat), envOf k ps i = if k ≤ i then (match ps[i - k]? with | some q => .p q | none => .any) else .any
 | [], k, i => by simp [envOf]
 | q :: ps, k, i => by
  unfold envOf upd
  by_cases h : i = k
  ·subst h
   simp
  ·rw [if_neg h, envOf_get ps (k + 1) i]
   by_cases h1 : k + 1 ≤ i
   ·rw [if_pos h1, if_pos (by omega), show i - k = (i - (k + 1)) + 1 by omega, List.getElem?_cons_succ]
   ·rw [if_neg h1, if_neg (by omega)]
theorem callR_intro {f : Nat} {c : C} {rvs : List RV} {ps : List Pt} {r : SV} (hF : Fun P f n c rvs) (hl : ps.length ≤ n) (h : Run P n M.length c ⟨envOf 0 ps, M⟩ (FinK n M.length rvs r M')) : CallR P M f ps r M' := by
 obtain ⟨fn, code, hf, hname, hb, rfl, hc, hrs⟩ := hF.ex
 intro I σ w vals hG hm hvl hvr
 refine .inl ⟨⟨fn, hf, hname, by rw [hb]; rfl⟩, calls_of_wp hf hb ?_⟩
 have hsim : Sim fn.ntmps I σ M w ⟨envOf 0 ps, M⟩ { tmps := vals ++ Array.replicate (fn.ntmps - vals.size) undef, defers := [] } w := by
  refine ⟨I, σ, Evo.refl hm, fun i => ?_, rfl, by simp; omega⟩
  show RelS I σ (envOf 0 ps i) _
  rw [envOf_get, if_pos (Nat.zero_le _), Nat.sub_zero]
  cases hq : ps[i]? with
  | none => exact trivial
  | some q =>
   have hi : i < vals.size := by rw [hvl]; exact getElem?_lt hq
   have : (vals ++ Array.replicate (fn.ntmps - vals.size) undef).getD i undef = vals[i] := by
    rw [Array.getD_eq_getD_getElem?, Array.getElem?_append_left hi, Array.getElem?_eq_getElem hi]
    rfl
   show RelP I σ q _
   rw [this]
   exact hvr i q _ hq (Array.getElem?_eq_getElem hi)
 refine wp_mono (h code hc I σ M w _ w ⟨hm.len, hG⟩ hsim) ?_
 rintro ex a1 w1 ⟨s1, h1, h2⟩
 have key : ∀ s, Sim fn.ntmps I σ M w s a1 w1 → Fin fn.ntmps M.length rvs r M' s → a1.defers = [] ∧ ∃ v, (results fn a1.tmps).run P w1 = .ok v w1 ∧ ∃ v', Ending.returned v = .returned v' ∧ ∃ I' σ', RelS I' σ' r v' ∧ Evo I σ M w I' σ' M' w1 := by
  rintro s hs ⟨s1, D, qs, cnd, hg, hres, hcnd, hM, hsub, hmm, hlt, hB⟩
  obtain ⟨I1, σ1, hev, he1, hd1, _⟩ := hg I σ M w a1 w1 hm.len hs
  obtain ⟨vs, hrun, hvs, hrel⟩ := resL_run hev.mem he1 hrs hres hcnd
  rw [hM] at hev
  obtain ⟨hm2, hh2⟩ := Mem.drop hev.mem hB
  refine ⟨hd1, (if h : vs.toArray.size = 1 then vs.toArray[0] else .tuple vs.toArray), ?_, _, rfl, I1, σ1.take M'.length, RelS_take hlt (hsub _ _ _ ?_), ⟨hev.extI, ?_, hm2, hev.keep, fun g hg => hev.own g (hh2 g hg), hev.fresh⟩⟩
  ·have e1 : results fn a1.tmps = (do let vs ← fn.results.mapM (resF P a1.tmps); pure (if h : vs.size = 1 then vs[0] else .tuple vs)) := by
    unfold results
    have e2 : ∀ (f g : ResultVar → Sem Value) (k : Array Value → Sem Value), (∀ x, f x = g x) → (Array.mapM f fn.results >>= k) = (Array.mapM g fn.results >>= k) := fun f g k h => by rw [show f = g from funext h]
    refine e2 _ _ _ (fun x => ?_)
    cases x <;> rfl
   rw [e1, Array.mapM_eq_mapM_toList]
   simp only [Sem.run_bind, Sem.run_map, hrun, Result.andThen_ok, Sem.run_pure]
  ·match qs, vs, hvs, hrel with
   | [q], [v], _, hrel => exact hrel 0 q v rfl rfl
   | [], [], _, _ => exact ⟨#[], rfl, rfl, fun k q x h => by simp at h⟩
   | q1 :: q2 :: qs, v1 :: v2 :: vs, hvs, hrel =>
    rw [dif_neg (by simp)]
    exact ⟨_, rfl, by simpa using hvs, fun k q x hq hx => hrel k q x hq (by simpa using hx)⟩
  ·intro b p hp
   obtain ⟨p', hp', hq⟩ := hev.extP b p hp
   have hb : b < σ.length := getElem?_lt hp
   have := hm.len
   exact ⟨p', take_get (by omega) hp', hq⟩
 cases ex with
 | normal => exact key s1 h1 h2
 | ret => exact key s1 h1 h2
 | exit id => exact h2.elim
 | goto l => exact h2.elim
 | panic ch => exact h2.elim
 | outgrown => exact h2.elim
theorem callR_pure {f : Nat} {ps : List Pt} {r : SV} (h : CallR P [] f ps r []) (hl : ∀ q ∈ ps, ltP 0 q) (M : List Blk) : CallR P M f ps r M := by
 intro I σ w vals hG hm hvl hvr
 have hm0 : Mem I [] [] w := ⟨rfl, fun b x p h => by simp at h, fun b b' x x' p p' g h => by simp at h, fun b x p g h => by simp at h, hm.imm⟩
 have hno : ∀ g, ¬ Has ([] : List Plc) [] g := by rintro g ⟨b, x, p, h, _⟩; simp at h
 refine Comes.mono (h I [] w vals hG hm0 hvl (fun k q x hq hx => ?_)) ?_
 ·have := RelP_take (n := 0) (hl q (List.mem_of_getElem? hq)) (hvr k q x hq hx)
  simpa using this
 ·rintro v w' ⟨I', σ', hr, hev⟩
  have hσ : σ' = [] := List.eq_nil_of_length_eq_zero (by have := hev.mem.len; simpa using this)
  subst hσ
  have hk : Keep (fun _ => False) w w' := hev.keep.mono (fun k _ h => hno k h)
  have hm1 := hm.keep hk (fun _ _ h => h) (fun _ _ _ h => h)
  have hfr : ∀ ad x, I' ad = some x → I ad = some x ∨ w.heap.size ≤ ad.block := by
   intro ad x hx
   rcases hev.fresh ad x hx with h | h | h
   ·exact .inl h
   ·exact .inr h
   ·exact absurd h (hno _)
  refine ⟨I', σ, RelS_mono (ExtI.refl _) (fun b p h => by simp at h) hr, ⟨hev.extI, ExtP.refl _, ⟨hm.len, fun b x p hx hp => RelB_mono hev.extI (ExtP.refl _) (fun _ _ _ => rfl) (hm1.blk b x p hx hp), hm.inj, ?_, hev.mem.imm⟩, hk.mono (fun k _ h => h.elim), fun g h => .inl h, fun ad x hx => ?_⟩⟩
  ·intro b x p g hx hlv hp hg ad had
   cases hI : I' ad with
   | none => rfl
   | some y =>
    exfalso
    rcases hfr ad y hI with h1 | h1
    ·rw [hm.ap b x p g hx hlv hp hg ad had] at h1
     cases h1
    ·have := RelB_lt (hm.blk b x p hx hp) hlv hg
     omega
  ·rcases hfr ad x hx with h1 | h1
   ·exact .inl h1
   ·exact .inr (.inl h1)
end
section
variable {P : Program} {d : Bool} {dst : Option Nat} {op : O} {os : List OpL} {s : St} {K : St → Prop} {g : Nat} {want : Bool}
theorem stp0_out {ctx : Bool} {e : Nat → SV} {M M' : List Blk} {r : SV} (hop : isCall op = false) : Stp0 P d ctx op e M r M' ↔ ∃ c, out e M ctx op = some (r, M', c) ∧ c := by
 cases op <;> first | exact Iff.rfl | cases hop
theorem ev_callg {e : Nat → SV} {M : List Blk} {f : Opd} {args : List Opd} {k : Nat} {caps ps : List Pt} {r : SV} {c : Bool} (hg : gcond (e g) want = some c) (hc : callee (strip c (raw e f)) = some (k, caps)) (ha : ptsOf (fun x => strip c (raw e x)) args = some ps) (h : c = true → CallR P M k (ps ++ caps) r M)
  (hK : runOps P d os ⟨put e dst (.g c r), M⟩ K) : runOps P d (⟨dst, .call f args, some (g, want)⟩ :: os) ⟨e, M⟩ K := ⟨.g c r, M, ⟨c, r, hg, rfl, fun h0 => ⟨⟨k, caps, ps, hc, ha, h h0⟩, fun _ => rfl⟩, fun _ => rfl⟩, hK⟩
end
abbrev ki (n : Int) : Opd := .k (.one (.c (.v (.int .i64 n))))
abbrev kb (b : Bool) : Opd := .k (.one (.c (.v (.bool b))))
abbrev kf (f : Nat) : Opd := .k (.one (.fn f 0 fun _ => default))
abbrev SV.i (n : Int) : SV := .p (.one (.c (.v (.int .i64 n))))
abbrev SV.b (b : Bool) : SV := .p (.one (.c (.v (.bool b))))
abbrev SV.s (s : ByteArray) : SV := .p (.one (.c (.v (.string s))))
abbrev Pt.i (n : Int) : Pt := .one (.c (.v (.int .i64 n)))
abbrev Pt.b (b : Bool) : Pt := .one (.c (.v (.bool b)))
abbrev Pt.s (s : ByteArray) : Pt := .one (.c (.v (.string s)))
end Go.Proofs.YtpdcpdngckpgbaaGreatAbs
end
section
namespace Go.Proofs.YtpdcpdngckpgbaaGreatAbs
open Go Go.RowKit
section
variable {P : Program} {d : Bool} {dst : Option Nat} {op : O} {os : List OpL} {s : St} {K : St → Prop} {g : Nat} {want : Bool}
def evs (P : Program) (d : Bool) : List OpL → (Nat → SV) → List Blk → (St → Prop) → Prop
 | [], e, M, K => K ⟨e, M⟩
 | ⟨dst, op, gd⟩ :: os, e, M, K =>
  bif isCall op then runOps P d (⟨dst, op, gd⟩ :: os) ⟨e, M⟩ K else
  match gd with
  | none =>
   match out e M true op with
   | some (r, M', c) => c ∧ evs P d os (put e dst r) M' K
   | none => False
  | some (g, want) =>
   match gcond (e g) want with
   | some c =>
    match out e M c op with
    | some (r, M', cnd) => (c = true → cnd) ∧ (c = false → M' = M) ∧ evs P d os (put e dst (.g c r)) M' K
    | none => False
   | none => False
end
section
variable {P : Program} {n m : Nat} {K : Exit → St → Prop}
def W (P : Program) (n m : Nat) : C → (Nat → SV) → List Blk → (Exit → St → Prop) → Prop
 | .skip, e, M, K => K .normal ⟨e, M⟩
 | .ret, e, M, K => K .ret ⟨e, M⟩
 | .exit id, e, M, K => K (.exit id) ⟨e, M⟩
 | .reg d ops, e, M, K => evs P d ops e M (K .normal)
 | .seq a b, e, M, K => W P n m a e M (andThen (fun s => W P n m b s.env s.M K) K)
 | .block id c, e, M, K => W P n m c e M (inBlock id K)
 | .scope c, e, M, K => W P n m c e M (inScope K)
 | .cond x a b, e, M, K =>
  match raw e x with
  | .p (.one (.c (.v (.bool t)))) => (t = true → W P n m a e M K) ∧ (t = false → W P n m b e M K)
  | _ => False
 | .loop c, e, M, K => Run P n m (.loop c) ⟨e, M⟩ K
 | .rgx T ops, e, M, K => Run P n m (.rgx T ops) ⟨e, M⟩ K
end
@[go_sem] theorem strip_p (c : Bool) (q : Pt) : strip c (.p q) = .p q := rfl
@[go_sem] theorem strip_any (c : Bool) : strip c .any = .any := rfl
@[go_sem] theorem strip_tup (c : Bool) (l : List Pt) : strip c (.tup l) = .tup l := rfl
@[go_sem] theorem strip_g (c : Bool) (s : SV) : strip c (.g c s) = strip c s := by
 show (if (!c || c) = true then strip c s else .g c s) = _
 rw [if_pos (by cases c <;> rfl)]
@[go_sem] theorem strip_g1 (a b : Bool) (s : SV) : strip (a && b) (.g a s) = strip (a && b) s := by
 show (if (!(a && b) || a) = true then strip (a && b) s else .g a s) = _
 rw [if_pos (by cases a <;> cases b <;> rfl)]
@[go_sem] theorem strip_g2 (a b : Bool) (s : SV) : strip (a && b) (.g b s) = strip (a && b) s := by
 show (if (!(a && b) || b) = true then strip (a && b) s else .g b s) = _
 rw [if_pos (by cases a <;> cases b <;> rfl)]
@[go_sem] theorem strip_g3 (a b c : Bool) (s : SV) : strip (a && b && c) (.g a s) = strip (a && b && c) s := by
 show (if (!(a && b && c) || a) = true then strip (a && b && c) s else .g a s) = _
 rw [if_pos (by cases a <;> cases b <;> cases c <;> rfl)]
@[go_sem] theorem strip_gt (c : Bool) (s : SV) : strip c (.g true s) = strip c s := by
 show (if (!c || true) = true then strip c s else .g true s) = _
 rw [if_pos (by cases c <;> rfl)]
@[go_sem] theorem strip_gp (c : Bool) (q : Pt) (h : c = true) : strip true (.g c (.p q)) = .p q := by subst h; rfl
@[go_sem] theorem bcond_t (t y : Bool) : bcond t true y = (t || y) := by cases t <;> rfl
@[go_sem] theorem bcond_f (t x : Bool) : bcond t x false = (t && x) := by cases t <;> rfl
@[go_sem] theorem upd_get (e : Nat → SV) (i j : Nat) (v : SV) : upd e i v j = if j = i then v else e j := rfl
@[go_sem] theorem put_some (e : Nat → SV) (i : Nat) (v : SV) : put e (some i) v = upd e i v := rfl
@[go_sem] theorem put_none (e : Nat → SV) (v : SV) : put e none v = e := rfl
@[go_sem] theorem raw_t (e : Nat → SV) (i : Nat) : raw e (.t i) = e i := rfl
@[go_sem] theorem raw_k (e : Nat → SV) (x : Pt) : raw e (.k x) = .p x := rfl
@[go_sem] theorem envOf_nil (k : Nat) : envOf k [] = fun _ => .any := rfl
@[go_sem] theorem envOf_cons (k : Nat) (q : Pt) (qs : List Pt) : envOf k (q :: qs) = upd (envOf (k + 1) qs) k (.p q) := rfl
@[go_sem] theorem bits_i8 : IntKind.i8.bits = 8 := rfl
@[go_sem] theorem bits_i16 : IntKind.i16.bits = 16 := rfl
@[go_sem] theorem bits_i32 : IntKind.i32.bits = 32 := rfl
@[go_sem] theorem bits_i64 : IntKind.i64.bits = 64 := rfl
@[go_sem] theorem bits_u8 : IntKind.u8.bits = 8 := rfl
@[go_sem] theorem bits_u16 : IntKind.u16.bits = 16 := rfl
@[go_sem] theorem bits_u32 : IntKind.u32.bits = 32 := rfl
@[go_sem] theorem bits_u64 : IntKind.u64.bits = 64 := rfl
section
variable (k : IntKind) (a b : Int) (s t : ByteArray)
@[go_sem] theorem binV_add : binV .add (.int k a) (.int k b) = some (.int k (k.wrap (a + b)), True) := by simp [binV]
@[go_sem] theorem binV_sub : binV .sub (.int k a) (.int k b) = some (.int k (k.wrap (a - b)), True) := by simp [binV]
@[go_sem] theorem binV_mul : binV .mul (.int k a) (.int k b) = some (.int k (k.wrap (a * b)), True) := by simp [binV]
@[go_sem] theorem binV_quo : binV .quo (.int k a) (.int k b) = some (.int k (k.wrap (a.tdiv b)), b ≠ 0) := by simp [binV]
@[go_sem] theorem binV_rem : binV .rem (.int k a) (.int k b) = some (.int k (a.tmod b), b ≠ 0) := by simp [binV]
@[go_sem] theorem binV_eql : binV .eql (.int k a) (.int k b) = some (.bool (a == b), True) := by simp [binV]
@[go_sem] theorem binV_neq : binV .neq (.int k a) (.int k b) = some (.bool (a != b), True) := by simp [binV]
@[go_sem] theorem binV_lss : binV .lss (.int k a) (.int k b) = some (.bool (decide (a < b)), True) := by simp [binV]
@[go_sem] theorem binV_leq : binV .leq (.int k a) (.int k b) = some (.bool (decide (a ≤ b)), True) := by simp [binV]
@[go_sem] theorem binV_gtr : binV .gtr (.int k a) (.int k b) = some (.bool (decide (a > b)), True) := by simp [binV]
@[go_sem] theorem binV_geq : binV .geq (.int k a) (.int k b) = some (.bool (decide (a ≥ b)), True) := by simp [binV]
@[go_sem] theorem binV_and : binV .and (.int k a) (.int k b) = some (.int k (k.wrap ((BitVec.ofInt k.bits a &&& BitVec.ofInt k.bits b).toNat : Nat)), True) := by simp [binV]
@[go_sem] theorem binV_or : binV .or (.int k a) (.int k b) = some (.int k (k.wrap ((BitVec.ofInt k.bits a ||| BitVec.ofInt k.bits b).toNat : Nat)), True) := by simp [binV]
@[go_sem] theorem binV_xor : binV .xor (.int k a) (.int k b) = some (.int k (k.wrap ((BitVec.ofInt k.bits a ^^^ BitVec.ofInt k.bits b).toNat : Nat)), True) := by simp [binV]
@[go_sem] theorem binV_andNot : binV .andNot (.int k a) (.int k b) = some (.int k (k.wrap ((BitVec.ofInt k.bits a &&& ~~~BitVec.ofInt k.bits b).toNat : Nat)), True) := by simp [binV]
@[go_sem] theorem binV_shl (k' : IntKind) : binV .shl (.int k a) (.int k' b) = some (.int k (k.wrap (a * 2 ^ (min b.toNat k.bits))), 0 ≤ b) := rfl
@[go_sem] theorem binV_shr (k' : IntKind) : binV .shr (.int k a) (.int k' b) = some (.int k (a.fdiv (2 ^ (min b.toNat k.bits))), 0 ≤ b) := rfl
@[go_sem] theorem min_8 (n : Nat) : min n 8 = if n ≤ 8 then n else 8 := Nat.min_def
@[go_sem] theorem min_16 (n : Nat) : min n 16 = if n ≤ 16 then n else 16 := Nat.min_def
@[go_sem] theorem min_32 (n : Nat) : min n 32 = if n ≤ 32 then n else 32 := Nat.min_def
@[go_sem] theorem min_64 (n : Nat) : min n 64 = if n ≤ 64 then n else 64 := Nat.min_def
@[go_sem] theorem binV_sadd : binV .add (.string s) (.string t) = some (.string (s ++ t), s.size + t.size ≤ 9223372036854775807) := rfl
@[go_sem] theorem binV_seql : binV .eql (.string s) (.string t) = some (.bool (s.toList == t.toList), True) := rfl
@[go_sem] theorem binV_sneq : binV .neq (.string s) (.string t) = some (.bool (!(s.toList == t.toList)), True) := rfl
@[go_sem] theorem binV_slss : binV .lss (.string s) (.string t) = some (.bool (Op.bytesLess s.toList t.toList), True) := rfl
@[go_sem] theorem binV_sleq : binV .leq (.string s) (.string t) = some (.bool (Op.bytesLess s.toList t.toList || s.toList == t.toList), True) := rfl
@[go_sem] theorem binV_sgtr : binV .gtr (.string s) (.string t) = some (.bool (!(Op.bytesLess s.toList t.toList || s.toList == t.toList)), True) := rfl
@[go_sem] theorem binV_sgeq : binV .geq (.string s) (.string t) = some (.bool (!(Op.bytesLess s.toList t.toList)), True) := rfl
end
attribute [go_sem] W evs isCall out isNilK gcond unV intOfS rowsAt andThen inBlock inScope Pt.cells zc fillL fillParts fillRows capsOf bnd cellsUp
end Go.Proofs.YtpdcpdngckpgbaaGreatAbs
end
section
namespace Go.Proofs.YtpdcpdngckpgbaaGreatAbs
open Go Go.RowKit
def lePt : Pt → Pt → Prop
 | .one (.c (.imm sz n c)), .one (.c (.imm sz' n' c')) => n = n' ∧ (n = 0 ∨ (sz = sz' ∧ ∀ i, i < n → ∀ j, j < sz → c i j = c' i j))
 | .one (.c (.v (.slice none 0 0))), .one (.c (.imm _ n _)) => n = 0
 | q, q' => q = q'
def leS : SV → SV → Prop
 | _, .any => True
 | .p q, .p q' => lePt q q'
 | s, s' => s = s'
theorem lePt.sound {I : Im} {σ : List Plc} {q q' : Pt} {y : Value} (h : lePt q q') (hr : RelP I σ q y) : RelP I σ q' y := by
 unfold lePt at h
 split at h
 ·obtain ⟨rfl, h⟩ := h
  obtain ⟨A, cap, e, h1, h2⟩ := hr
  refine ⟨A, cap, e, h1, ?_⟩
  rcases h with h | ⟨rfl, h⟩
  ·exact .inl h
  ·refine h2.imp id ?_
   rintro ⟨ad, ha, hc⟩
   refine ⟨ad, ha, fun i hi j hj => ?_⟩
   obtain ⟨x, hx, hrx⟩ := hc i hi j hj
   exact ⟨x, hx, by rw [← h i hi j hj]; exact hrx⟩
 ·subst h
  obtain ⟨rfl, _⟩ := hr
  exact ⟨none, 0, rfl, Nat.le_refl _, .inl rfl⟩
 ·subst h; exact hr
theorem leS.sub {s s' : SV} (h : leS s s') : SubS s s' := by
 intro I σ y hr
 unfold leS at h
 split at h
 ·exact trivial
 ·exact h.sound hr
 ·subst h; exact hr
@[go_sem] theorem leS_any (s : SV) : leS s .any = True := by cases s <;> rfl
@[go_sem] theorem leS_p (q q' : Pt) : leS (.p q) (.p q') = lePt q q' := rfl
@[go_sem] theorem leS_tup (l : List Pt) (s : SV) : leS s (.tup l) = (s = .tup l) := by cases s <;> rfl
@[go_sem] theorem leS_g (c : Bool) (s s' : SV) : leS s (.g c s') = (s = .g c s') := by cases s <;> rfl
@[go_sem] theorem lePt_imm (sz n sz' n' : Nat) (c c' : Nat → Nat → CV) : lePt (.one (.c (.imm sz n c))) (.one (.c (.imm sz' n' c'))) = (n = n' ∧ (n = 0 ∨ (sz = sz' ∧ ∀ i, i < n → ∀ j, j < sz → c i j = c' i j))) := rfl
@[go_sem] theorem lePt_nil (sz n : Nat) (c : Nat → Nat → CV) : lePt (.one (.c (.v (.slice none 0 0)))) (.one (.c (.imm sz n c))) = (n = 0) := rfl
@[go_sem] theorem lePt_v (q : Pt) (x : Value) : lePt q (.one (.c (.v x))) = (q = .one (.c (.v x))) := by
 unfold lePt; split <;> simp_all
@[go_sem] theorem lePt_ptr (q : Pt) (b ver i j : Nat) : lePt q (.one (.ptr b ver i j)) = (q = .one (.ptr b ver i j)) := by
 unfold lePt; split <;> simp_all
@[go_sem] theorem lePt_arr (q : Pt) (sz b ver i j : Nat) : lePt q (.one (.arr sz b ver i j)) = (q = .one (.arr sz b ver i j)) := by
 unfold lePt; split <;> simp_all
@[go_sem] theorem lePt_arx (q : Pt) (sz b ver i j : Nat) : lePt q (.one (.arx sz b ver i j)) = (q = .one (.arx sz b ver i j)) := by
 unfold lePt; split <;> simp_all
@[go_sem] theorem lePt_mp (q : Pt) (b ver : Nat) : lePt q (.one (.mp b ver)) = (q = .one (.mp b ver)) := by
 unfold lePt; split <;> simp_all
@[go_sem] theorem lePt_ip (q : Pt) (n : Nat) (c : Nat → CV) : lePt q (.one (.ip n c)) = (q = .one (.ip n c)) := by
 unfold lePt; split <;> simp_all
@[go_sem] theorem lePt_fn (q : Pt) (f n : Nat) (c : Nat → AV) : lePt q (.one (.fn f n c)) = (q = .one (.fn f n c)) := by
 unfold lePt; split <;> simp_all
@[go_sem] theorem lePt_agg (q : Pt) (l : List AV) : lePt q (.agg l) = (q = .agg l) := by
 unfold lePt; split <;> simp_all
@[go_sem] theorem lePt_self (q : Pt) : lePt q q = True := by
 match q with
 | .one (.c (.imm sz n c)) => simp [lePt]
 | .one (.c (.v x)) => simp [lePt_v]
 | .one (.ptr _ _ _ _) => simp [lePt_ptr]
 | .one (.arr _ _ _ _ _) => simp [lePt_arr]
 | .one (.mp _ _) => simp [lePt_mp]
 | .one (.arx _ _ _ _ _) => simp [lePt_arx]
 | .one (.ip _ _) => simp [lePt_ip]
 | .one (.fn _ _ _) => simp [lePt_fn]
 | .agg l => simp [lePt_agg]
@[go_sem] theorem leS_self (s : SV) : leS s s = True := by
 cases s with
 | p q => exact lePt_self q
 | any => rfl
 | tup l => simp [leS]
 | g c s => simp [leS]
@[go_sem] theorem ltP_one (n : Nat) (a : AV) : ltP n (.one a) = ltA n a := rfl
@[go_sem] theorem ltP_agg (n : Nat) (l : List AV) : ltP n (.agg l) = ∀ a ∈ l, ltA n a := rfl
@[go_sem] theorem ltS_p (n : Nat) (q : Pt) : ltS n (.p q) = ltP n q := rfl
@[go_sem] theorem ltS_tup (n : Nat) (l : List Pt) : ltS n (.tup l) = ∀ q ∈ l, ltP n q := rfl
@[go_sem] theorem ltS_any (n : Nat) : ltS n .any = True := rfl
@[go_sem] theorem ltS_g (n : Nat) (c : Bool) (s : SV) : ltS n (.g c s) = ltS n s := rfl
@[go_sem] theorem ltA_c (n : Nat) (x : CV) : ltA n (.c x) = True := rfl
@[go_sem] theorem ltA_ip (n m : Nat) (c : Nat → CV) : ltA n (.ip m c) = True := rfl
@[go_sem] theorem ltA_ptr (n b v i j : Nat) : ltA n (.ptr b v i j) = (b < n) := rfl
@[go_sem] theorem ltA_arr (n sz b v i j : Nat) : ltA n (.arr sz b v i j) = (b < n) := rfl
@[go_sem] theorem ltA_fn (n f k : Nat) (caps : Nat → AV) : ltA n (.fn f k caps) = ∀ i, i < k → ltA n (caps i) := rfl
@[go_sem] theorem lt_cellsUp (n : Nat) (c : Nat → CV) : ∀ (m k : Nat), (∀ a ∈ cellsUp c k m, ltA n a) = True
 | 0, k => by simp [cellsUp]
 | m + 1, k => by
  have := lt_cellsUp n c m (k + 1)
  simp only [eq_iff_iff, iff_true] at this ⊢
  intro a ha
  rcases List.mem_cons.1 ha with rfl | ha
  ·exact trivial
  ·exact this a ha
def leL : List Pt → List Pt → Prop
 | [], [] => True
 | q :: qs, q' :: qs' => lePt q q' ∧ leL qs qs'
 | _, _ => False
theorem leL.length : ∀ {l l' : List Pt}, leL l l' → l.length = l'.length
 | [], [], _ => rfl
 | q :: qs, q' :: qs', h => by simp [leL.length h.2]
theorem leL.get : ∀ {l l' : List Pt}, leL l l' → ∀ (k : Nat) (q q' : Pt), l[k]? = some q → l'[k]? = some q' → lePt q q'
 | q :: qs, q' :: qs', h, 0, x, x', e, e' => by
  injection e with e; injection e' with e'; subst e; subst e'; exact h.1
 | q :: qs, q' :: qs', h, k + 1, x, x', e, e' => leL.get h.2 k x x' e e'
theorem CallR.le {P : Program} {M M' : List Blk} {f : Nat} {ps ps' : List Pt} {r : SV} (h : CallR P M f ps' r M') (hl : leL ps ps') : CallR P M f ps r M' := by
 refine fun I σ w vals hG hm hv hr => h I σ w vals hG hm (by rw [hv, hl.length]) (fun k q x hq hx => ?_)
 have hk : k < ps'.length := getElem?_lt hq
 have hk2 : k < ps.length := by rw [hl.length]; exact hk
 exact (hl.get k _ q (List.getElem?_eq_getElem hk2) hq).sound (hr k _ x (List.getElem?_eq_getElem hk2) hx)
attribute [go_sem] leL
def Call1 (P : Program) (M : List Blk) (f : Nat) (ps : List Pt) (d : Bool) (dst : Option Nat) (os : List OpL) (e : Nat → SV) (K : St → Prop) : Prop :=
 ∃ r M', CallR P M f ps r M' ∧ (d = true → M' = M) ∧ runOps P d os ⟨put e dst r, M'⟩ K
def CallG (P : Program) (M : List Blk) (c : Bool) (f : Nat) (ps : List Pt) (d : Bool) (dst : Option Nat) (os : List OpL) (e : Nat → SV) (K : St → Prop) : Prop :=
 ∃ r, (c = true → CallR P M f ps r M) ∧ runOps P d os ⟨put e dst (.g c r), M⟩ K
def callK (P : Program) (d : Bool) (dst : Option Nat) (os : List OpL) (e : Nat → SV) (M : List Blk) (K : St → Prop) : Option (Nat × List Pt) → Option (List Pt) → Prop
 | some (f, caps), some ps => Call1 P M f (ps ++ caps) d dst os e K
 | _, _ => False
def callGK (P : Program) (d : Bool) (dst : Option Nat) (os : List OpL) (e : Nat → SV) (M : List Blk) (K : St → Prop) (c : Bool) : Option (Nat × List Pt) → Option (List Pt) → Prop
 | some (f, caps), some ps => CallG P M c f (ps ++ caps) d dst os e K
 | _, _ => False
section
variable {P : Program} {d : Bool} {dst : Option Nat} {op : O} {os : List OpL} {s : St} {K : St → Prop} {g : Nat} {want : Bool}
@[go_sem] theorem runOps_call {e : Nat → SV} {M : List Blk} {f : Opd} {args : List Opd} : runOps P d (⟨dst, .call f args, none⟩ :: os) ⟨e, M⟩ K = callK P d dst os e M K (callee (strip true (raw e f))) (ptsOf (fun x => strip true (raw e x)) args) := by
 refine propext ⟨?_, fun h => ?_⟩
 ·rintro ⟨r, M', ⟨⟨k, caps, ps, hc, ha, hr⟩, hd⟩, hk⟩
  rw [hc, ha]
  exact ⟨r, M', hr, hd, hk⟩
 ·cases hc : callee (strip true (raw e f)) with
  | none => rw [hc] at h; exact h.elim
  | some x =>
   obtain ⟨k, caps⟩ := x
   cases ha : ptsOf (fun x => strip true (raw e x)) args with
   | none => rw [hc, ha] at h; exact h.elim
   | some ps =>
    rw [hc, ha] at h
    obtain ⟨r, M', hr, hd, hk⟩ := h
    exact ⟨r, M', ⟨⟨k, caps, ps, hc, ha, hr⟩, hd⟩, hk⟩
def callGK' (P : Program) (d : Bool) (dst : Option Nat) (os : List OpL) (e : Nat → SV) (M : List Blk) (K : St → Prop) (f : Opd) (args : List Opd) : Option Bool → Prop
 | some c => callGK P d dst os e M K c (callee (strip c (raw e f))) (ptsOf (fun x => strip c (raw e x)) args)
 | none => False
def Ops (P : Program) (d : Bool) (ops : List OpL) (e : Nat → SV) (M : List Blk) (K : St → Prop) : Prop := runOps P d ops ⟨e, M⟩ K
def isWr : O → Bool
 | .mv _ | .eqa .. | .eqb .. | .pick .. | .bld .. | .bin .. | .un .. | .cvi .. | .mkf .. | .sls .. | .lens _ | .ix .. | .ex .. | .mn .. | .mx .. | .fld .. => false
 | .lku .. | .s3f .. | .cap _ | .s3 .. | .b2s _ | .ld .. | .ia .. | .fa .. | .nilck _ | .len _ | .slc .. | .call .. => false
 | .alloc .. | .box .. | .bsl .. | .st .. | .app .. | .cpy .. | .clr .. | .apz .. | .aps .. | .rng _ | .nxt _ | .mks .. | .mkm | .mup .. => true
def ev (P : Program) (d : Bool) : List OpL → (Nat → SV) → List Blk → (St → Prop) → Prop
 | [], e, M, K => K ⟨e, M⟩
 | ⟨dst, .call f args, none⟩ :: os, e, M, K => callK P d dst os e M K (callee (strip true (raw e f))) (ptsOf (fun x => strip true (raw e x)) args)
 | ⟨dst, .call f args, some (g, want)⟩ :: os, e, M, K =>
   match gcond (e g) want with
   | some c =>
    match callee (strip c (raw e f)), ptsOf (fun x => strip c (raw e x)) args with
    | some (k, caps), some ps => CallG P M c k (ps ++ caps) d dst os e K
    | _, _ => c = false ∧ Ops P d os (put e dst (.g c .any)) M K
   | none => False
 | ⟨dst, op, none⟩ :: os, e, M, K =>
   match out e M true op with
   | some (r, M', c) => c ∧ ev P d os (put e dst r) M' K
   | none => False
 | ⟨dst, op, some (g, want)⟩ :: os, e, M, K =>
   match gcond (e g) want with
   | some c =>
    match isWr op with
    | true => (c = true → match out e M c op with | some (r, M', cnd) => cnd ∧ ev P d os (put e dst (.g c r)) M' K | none => False) ∧ (c = false → ev P d os (put e dst (.g c .any)) M K)
    | false => match out e M c op with
    | some (r, M', cnd) => (c = true → cnd) ∧ (c = false → M' = M) ∧ ev P d os (put e dst (.g c r)) M' K
    | none => c = false ∧ Ops P d os (put e dst (.g c .any)) M K
   | none => False
theorem ev_sound : ∀ {os : List OpL} {e : Nat → SV} {M : List Blk}, ev P d os e M K → runOps P d os ⟨e, M⟩ K
 | [], e, M, h => h
 | ⟨dst, op, gd⟩ :: os, e, M, h => by
  cases hc : isCall op with
  | true =>
   cases op <;> first | (cases hc; done) | skip
   case call f args =>
    cases gd with
    | none => rw [runOps_call]; exact h
    | some gw =>
     obtain ⟨g, want⟩ := gw
     have h : match gcond (e g) want with
      | some c =>
       match callee (strip c (raw e f)), ptsOf (fun x => strip c (raw e x)) args with
       | some (k, caps), some ps => CallG P M c k (ps ++ caps) d dst os e K
       | _, _ => c = false ∧ Ops P d os (put e dst (.g c .any)) M K
      | none => False := h
     cases hg : gcond (e g) want with
     | none => rw [hg] at h; exact h.elim
     | some c =>
      rw [hg] at h
      have h : match callee (strip c (raw e f)), ptsOf (fun x => strip c (raw e x)) args with
       | some (k, caps), some ps => CallG P M c k (ps ++ caps) d dst os e K
       | _, _ => c = false ∧ Ops P d os (put e dst (.g c .any)) M K := h
      have hno : (c = false ∧ Ops P d os (put e dst (.g c .any)) M K) → runOps P d (⟨dst, .call f args, some (g, want)⟩ :: os) ⟨e, M⟩ K := fun h => ⟨.g c .any, M, ⟨c, .any, hg, rfl, fun h0 => (Bool.noConfusion (h.1.symm.trans h0)), fun _ => rfl⟩, h.2⟩
      cases hcl : callee (strip c (raw e f)) with
      | none => rw [hcl] at h; exact hno h
      | some x =>
       obtain ⟨k, caps⟩ := x
       cases ha : ptsOf (fun x => strip c (raw e x)) args with
       | none => rw [hcl, ha] at h; exact hno h
       | some ps =>
        rw [hcl, ha] at h
        obtain ⟨r, hr, hk⟩ := h
        exact ev_callg hg hcl ha hr hk
  | false =>
   cases gd with
   | none =>
    have h : match out e M true op with
     | some (r, M', c) => c ∧ ev P d os (put e dst r) M' K
     | none => False := by cases op <;> first | (cases hc; done) | exact h
    cases ho : out e M true op with
    | none => rw [ho] at h; exact h.elim
    | some x =>
     obtain ⟨r, M', c⟩ := x
     rw [ho] at h
     exact ⟨r, M', (stp0_out hc).2 ⟨c, ho, h.1⟩, ev_sound h.2⟩
   | some gw =>
    obtain ⟨g, want⟩ := gw
    have h : match gcond (e g) want with
     | some c =>
      match isWr op with
      | true => (c = true → match out e M c op with | some (r, M', cnd) => cnd ∧ ev P d os (put e dst (.g c r)) M' K | none => False) ∧ (c = false → ev P d os (put e dst (.g c .any)) M K)
      | false => match out e M c op with
      | some (r, M', cnd) => (c = true → cnd) ∧ (c = false → M' = M) ∧ ev P d os (put e dst (.g c r)) M' K
      | none => c = false ∧ Ops P d os (put e dst (.g c .any)) M K
     | none => False := by cases op <;> first | (cases hc; done) | exact h
    cases hg : gcond (e g) want with
    | none => rw [hg] at h; exact h.elim
    | some c =>
     rw [hg] at h
     cases hw : isWr op with
     | true =>
      have h : (c = true → match out e M c op with | some (r, M', cnd) => cnd ∧ ev P d os (put e dst (.g c r)) M' K | none => False) ∧ (c = false → ev P d os (put e dst (.g c .any)) M K) := by
       have h' := h
       simp only [hw] at h'
       exact h'
      cases c with
      | false => exact ⟨.g false .any, M, ⟨false, .any, hg, rfl, fun h0 => Bool.noConfusion h0, fun _ => rfl⟩, ev_sound (h.2 rfl)⟩
      | true =>
       have h := h.1 rfl
       cases ho : out e M true op with
       | none => rw [ho] at h; exact h.elim
       | some x =>
        obtain ⟨r, M', cnd⟩ := x
        rw [ho] at h
        exact ⟨.g true r, M', ⟨true, r, hg, rfl, fun _ => (stp0_out hc).2 ⟨cnd, ho, h.1⟩, fun h0 => Bool.noConfusion h0⟩, ev_sound h.2⟩
     | false =>
     have h : match out e M c op with
      | some (r, M', cnd) => (c = true → cnd) ∧ (c = false → M' = M) ∧ ev P d os (put e dst (.g c r)) M' K
      | none => c = false ∧ Ops P d os (put e dst (.g c .any)) M K := by
      have h' := h
      simp only [hw] at h'
      exact h'
     cases ho : out e M c op with
     | none =>
      rw [ho] at h
      exact ⟨.g c .any, M, ⟨c, .any, hg, rfl, fun h0 => (Bool.noConfusion (h.1.symm.trans h0)), fun _ => rfl⟩, h.2⟩
     | some x =>
      obtain ⟨r, M', cnd⟩ := x
      rw [ho] at h
      exact ⟨.g c r, M', ⟨c, r, hg, rfl, fun hc' => (stp0_out hc).2 ⟨cnd, ho, h.1 hc'⟩, h.2.1⟩, ev_sound h.2.2⟩
theorem call1 {M M' : List Blk} {f : Nat} {ps ps' : List Pt} {r : SV} {e : Nat → SV} (h : CallR P M f ps' r M') (hl : leL ps ps') (hd : d = true → M' = M) (hK : ev P d os (put e dst r) M' K) : Call1 P M f ps d dst os e K := ⟨r, M', h.le hl, hd, ev_sound hK⟩
theorem call0 {M : List Blk} {f : Nat} {ps : List Pt} {r : SV} {e : Nat → SV} (h : ∀ M, CallR P M f ps r M) (hK : ev P d os (put e dst r) M K) : Call1 P M f ps d dst os e K := ⟨r, M, h M, fun _ => rfl, ev_sound hK⟩
theorem callg0 {M : List Blk} {c : Bool} {f : Nat} {ps : List Pt} {r : SV} {e : Nat → SV} (h : c = true → ∀ M, CallR P M f ps r M) (hK : ev P d os (put e dst (.g c r)) M K) : CallG P M c f ps d dst os e K := ⟨r, fun hc => h hc M, ev_sound hK⟩
end
def RX (P : Program) (T : List (List Nat)) (os : List OpL) (acc : List XOp) (s : St) (K : St → Prop) : Prop := ∃ xs : List XOp, xs.map (·.op) = os ∧ runX P xs s (fun s' => pairsX T (acc ++ xs) = true ∧ K s')
def CallX (P : Program) (T : List (List Nat)) (M : List Blk) (f : Nat) (ps : List Pt) (x : XOp) (os : List OpL) (acc : List XOp) (e : Nat → SV) (K : St → Prop) : Prop :=
 (∃ r, (∀ N, CallR P N f ps r N) ∧ RX P T os (acc ++ [x]) ⟨put e x.op.dst r, M⟩ K) ∨
 (∃ r F fs, (∀ q ∈ fs, q.1 ∈ F) ∧ (∀ N : List Blk, (∀ b ∈ F, N[b]? = M[b]?) → CallR P N f ps r (apL fs N)) ∧ RX P T os (acc ++ [⟨x.op, F, !fs.isEmpty, x.n⟩]) ⟨put e x.op.dst r, apL fs M⟩ K)
def CallXG (P : Program) (T : List (List Nat)) (M : List Blk) (c : Bool) (f : Nat) (ps : List Pt) (x : XOp) (os : List OpL) (acc : List XOp) (e : Nat → SV) (K : St → Prop) : Prop :=
 ∃ r, (c = true → ∀ N, CallR P N f ps r N) ∧ RX P T os (acc ++ [x]) ⟨put e x.op.dst (.g c r), M⟩ K
def callXK (P : Program) (T : List (List Nat)) (x : XOp) (os : List OpL) (acc : List XOp) (e : Nat → SV) (M : List Blk) (K : St → Prop) : Option (Nat × List Pt) → Option (List Pt) → Prop
 | some (f, caps), some ps => CallX P T M f (ps ++ caps) x os acc e K
 | _, _ => False
def callXGK (P : Program) (T : List (List Nat)) (x : XOp) (os : List OpL) (acc : List XOp) (e : Nat → SV) (M : List Blk) (K : St → Prop) (c : Bool) : Option (Nat × List Pt) → Option (List Pt) → Prop
 | some (f, caps), some ps => CallXG P T M c f (ps ++ caps) x os acc e K
 | _, _ => False
def callXGK' (P : Program) (T : List (List Nat)) (x : XOp) (os : List OpL) (acc : List XOp) (e : Nat → SV) (M : List Blk) (K : St → Prop) (f : Opd) (args : List Opd) : Option Bool → Prop
 | some c => callXGK P T x os acc e M K c (callee (strip c (raw e f))) (ptsOf (fun y => strip c (raw e y)) args)
 | none => False
def evX (P : Program) (T : List (List Nat)) : List OpL → Nat → List XOp → (Nat → SV) → List Blk → (St → Prop) → Prop
 | [], n, acc, e, M, K => pairsX T acc = true ∧ K ⟨e, M⟩
 | ⟨dst, .call f args, none⟩ :: os, n, acc, e, M, K => callXK P T ⟨⟨dst, .call f args, none⟩, [], false, n⟩ os acc e M K (callee (strip true (raw e f))) (ptsOf (fun x => strip true (raw e x)) args)
 | ⟨dst, .call f args, some (g, want)⟩ :: os, n, acc, e, M, K => callXGK' P T ⟨⟨dst, .call f args, some (g, want)⟩, [], false, n⟩ os acc e M K f args (gcond (e g) want)
 | ⟨dst, op, none⟩ :: os, n, acc, e, M, K =>
   match outX n e M true op with
   | some (r, M', c) => c ∧ evX P T os (bif isAl op then n + 1 else n) (acc ++ [⟨⟨dst, op, none⟩, foot e true n op, isW op, n⟩]) (put e dst r) M' K
   | none => False
 | ⟨dst, op, some (g, want)⟩ :: os, n, acc, e, M, K =>
   match gcond (e g) want with
   | some c =>
    match outX n e M c op with
    | some (r, M', cnd) => (c = true → cnd) ∧ (c = false → M' = M) ∧ evX P T os (bif isAl op then n + 1 else n) (acc ++ [⟨⟨dst, op, some (g, want)⟩, foot e c n op, isW op, n⟩]) (put e dst (.g c r)) M' K
    | none => False
   | none => False
theorem runX_mono {P : Program} : ∀ {xs : List XOp} {s : St} {K K' : St → Prop}, (∀ s, K s → K' s) → runX P xs s K → runX P xs s K'
 | [], s, K, K', h, hr => h _ hr
 | x :: xs, s, K, K', h, ⟨r, M', h1, h2⟩ => ⟨r, M', h1, runX_mono h h2⟩
theorem runX_pure {P : Program} {p : Prop} : ∀ {xs : List XOp} {s : St} {K : St → Prop}, runX P xs s (fun s => p ∧ K s) → p ∧ runX P xs s K
 | [], s, K, h => h
 | x :: xs, s, K, ⟨r, M', h1, h2⟩ => ⟨(runX_pure h2).1, r, M', h1, (runX_pure h2).2⟩
theorem RX_cons {P : Program} {T : List (List Nat)} {x : XOp} {os : List OpL} {acc : List XOp} {e : Nat → SV} {M M' : List Blk} {r : SV} {K : St → Prop} (h : StpX P x e M r M') (hr : RX P T os (acc ++ [x]) ⟨put e x.op.dst r, M'⟩ K) : RX P T (x.op :: os) acc ⟨e, M⟩ K := by
 obtain ⟨xs, h1, h2⟩ := hr
 refine ⟨x :: xs, by simp [h1], r, M', h, runX_mono (fun s hs => ⟨?_, hs.2⟩) h2⟩
 have := hs.1
 simpa using this
theorem stpX0_out {P : Program} {x : XOp} {ctx : Bool} {e : Nat → SV} {M M' : List Blk} {r : SV} (hop : isCall x.op.op = false) (hF : ∀ b ∈ foot e ctx x.n x.op.op, b ∈ x.F) (hw : isW x.op.op = true → x.w = true) {c : Prop} (h : outX x.n e M ctx x.op.op = some (r, M', c)) (hc : c) : StpX0 P x ctx e M r M' := by
 unfold StpX0
 split
 ·rename_i f args ho
  rw [ho] at hop
  cases hop
 ·exact ⟨hF, hw, c, h, hc⟩
theorem isEmpty_of {α : Type} : ∀ {fs : List α}, (!fs.isEmpty) = false → fs = []
 | [], _ => rfl
 | _ :: _, h => Bool.noConfusion h
theorem evX_sound {P : Program} {T : List (List Nat)} {K : St → Prop} : ∀ {os : List OpL} {n : Nat} {acc : List XOp} {e : Nat → SV} {M : List Blk}, evX P T os n acc e M K → RX P T os acc ⟨e, M⟩ K
 | [], n, acc, e, M, h => ⟨[], rfl, by simpa [runX, evX] using h⟩
 | ⟨dst, op, gd⟩ :: os, n, acc, e, M, h => by
  cases hc : isCall op with
  | true =>
   cases op <;> first | (cases hc; done) | skip
   case call f args =>
    cases gd with
    | none =>
     have h : callXK P T ⟨⟨dst, .call f args, none⟩, [], false, n⟩ os acc e M K (callee (strip true (raw e f))) (ptsOf (fun x => strip true (raw e x)) args) := h
     cases hcl : callee (strip true (raw e f)) with
     | none => rw [hcl] at h; exact h.elim
     | some x =>
      obtain ⟨k, caps⟩ := x
      cases ha : ptsOf (fun x => strip true (raw e x)) args with
      | none => rw [hcl, ha] at h; exact h.elim
      | some ps =>
       rw [hcl, ha] at h
       rcases h with ⟨r, hr, hk⟩ | ⟨r, F, fs, hF, hr, hk⟩
       ·exact RX_cons (x := ⟨⟨dst, .call f args, none⟩, [], false, n⟩) (show StpX P ⟨⟨dst, .call f args, none⟩, [], false, n⟩ e M r M from ⟨k, caps, ps, hcl, ha, .inl ⟨hr, rfl⟩⟩) hk
       ·exact RX_cons (x := ⟨⟨dst, .call f args, none⟩, F, !fs.isEmpty, n⟩) (show StpX P ⟨⟨dst, .call f args, none⟩, F, !fs.isEmpty, n⟩ e M r (apL fs M) from ⟨k, caps, ps, hcl, ha, .inr ⟨fs, rfl, fun h => (isEmpty_of h), hF, hr⟩⟩) hk
    | some gw =>
     obtain ⟨g, want⟩ := gw
     have h : callXGK' P T ⟨⟨dst, .call f args, some (g, want)⟩, [], false, n⟩ os acc e M K f args (gcond (e g) want) := h
     cases hg : gcond (e g) want with
     | none => rw [hg] at h; exact h.elim
     | some c =>
      rw [hg] at h
      have h : callXGK P T ⟨⟨dst, .call f args, some (g, want)⟩, [], false, n⟩ os acc e M K c (callee (strip c (raw e f))) (ptsOf (fun x => strip c (raw e x)) args) := h
      cases hcl : callee (strip c (raw e f)) with
      | none => rw [hcl] at h; exact h.elim
      | some x =>
       obtain ⟨k, caps⟩ := x
       cases ha : ptsOf (fun x => strip c (raw e x)) args with
       | none => rw [hcl, ha] at h; exact h.elim
       | some ps =>
        rw [hcl, ha] at h
        obtain ⟨r, hr, hk⟩ := h
        exact RX_cons (x := ⟨⟨dst, .call f args, some (g, want)⟩, [], false, n⟩) (show StpX P ⟨⟨dst, .call f args, some (g, want)⟩, [], false, n⟩ e M (.g c r) M from ⟨c, r, hg, rfl, fun h0 => ⟨k, caps, ps, hcl, ha, .inl ⟨hr h0, rfl⟩⟩, fun _ => rfl⟩) hk
  | false =>
   cases gd with
   | none =>
    have h : match outX n e M true op with
     | some (r, M', c) => c ∧ evX P T os (bif isAl op then n + 1 else n) (acc ++ [⟨⟨dst, op, none⟩, foot e true n op, isW op, n⟩]) (put e dst r) M' K
     | none => False := by cases op <;> first | (cases hc; done) | exact h
    cases ho : outX n e M true op with
    | none => rw [ho] at h; exact h.elim
    | some x =>
     obtain ⟨r, M', c⟩ := x
     rw [ho] at h
     exact RX_cons (x := ⟨⟨dst, op, none⟩, foot e true n op, isW op, n⟩) (show StpX P ⟨⟨dst, op, none⟩, foot e true n op, isW op, n⟩ e M r M' from stpX0_out hc (fun _ hb => hb) (fun hw => hw) ho h.1) (evX_sound h.2)
   | some gw =>
    obtain ⟨g, want⟩ := gw
    have h : match gcond (e g) want with
     | some c =>
      match outX n e M c op with
      | some (r, M', cnd) => (c = true → cnd) ∧ (c = false → M' = M) ∧ evX P T os (bif isAl op then n + 1 else n) (acc ++ [⟨⟨dst, op, some (g, want)⟩, foot e c n op, isW op, n⟩]) (put e dst (.g c r)) M' K
      | none => False
     | none => False := by cases op <;> first | (cases hc; done) | exact h
    cases hg : gcond (e g) want with
    | none => rw [hg] at h; exact h.elim
    | some c =>
     rw [hg] at h
     have h : match outX n e M c op with
      | some (r, M', cnd) => (c = true → cnd) ∧ (c = false → M' = M) ∧ evX P T os (bif isAl op then n + 1 else n) (acc ++ [⟨⟨dst, op, some (g, want)⟩, foot e c n op, isW op, n⟩]) (put e dst (.g c r)) M' K
      | none => False := h
     cases ho : outX n e M c op with
     | none => rw [ho] at h; exact h.elim
     | some x =>
      obtain ⟨r, M', cnd⟩ := x
      rw [ho] at h
      exact RX_cons (x := ⟨⟨dst, op, some (g, want)⟩, foot e c n op, isW op, n⟩) (show StpX P ⟨⟨dst, op, some (g, want)⟩, foot e c n op, isW op, n⟩ e M (.g c r) M' from ⟨c, r, hg, rfl, fun h0 => stpX0_out hc (fun _ hb => hb) (fun hw => hw) ho (h.1 h0), fun h0 => h.2.1 h0⟩) (evX_sound h.2.2)
theorem callx0 {P : Program} {T : List (List Nat)} {M : List Blk} {f : Nat} {ps : List Pt} {x : XOp} {os : List OpL} {acc : List XOp} {e : Nat → SV} {K : St → Prop} {r : SV} (h : ∀ N, CallR P N f ps r N) (hK : evX P T os x.n (acc ++ [x]) (put e x.op.dst r) M K) : CallX P T M f ps x os acc e K := .inl ⟨r, h, evX_sound hK⟩
def nAl : List OpL → Nat
 | [] => 0
 | o :: os => bif isAl o.op then nAl os + 1 else nAl os
def Into (m : Nat) (s : St) (l : List (Nat × SV)) (M' : List Blk) : Prop :=
 ∃ D, s.M = M' ++ D ∧ m ≤ M'.length ∧ (∀ p ∈ l, leS (s.env p.1) p.2 ∧ ltS M'.length p.2) ∧ ∀ x ∈ M', ltB M'.length x
section
variable {P : Program} {n m : Nat} {K : Exit → St → Prop} {e : Nat → SV} {M : List Blk}
theorem Into.gh {s : St} {l : List (Nat × SV)} {M' : List Blk} (h : Into m s l M') : Gh n m s ⟨envL l, M'⟩ := by
 obtain ⟨D, h1, h2, h3, h4⟩ := h
 obtain ⟨e, M⟩ := s
 exact gh_drop h1 h2 (fun p hp => ⟨(h3 p hp).1.sub, (h3 p hp).2⟩) h4
def V (P : Program) (n m : Nat) : C → (Nat → SV) → List Blk → (Exit → St → Prop) → Prop
 | .skip, e, M, K => K .normal ⟨e, M⟩
 | .ret, e, M, K => K .ret ⟨e, M⟩
 | .exit id, e, M, K => K (.exit id) ⟨e, M⟩
 | .reg d ops, e, M, K => ev P d ops e M (K .normal)
 | .seq a b, e, M, K => V P n m a e M (andThen (fun s => V P n m b s.env s.M K) K)
 | .block id c, e, M, K => V P n m c e M (inBlock id K)
 | .scope c, e, M, K => V P n m c e M (inScope K)
 | .cond x a b, e, M, K =>
  match raw e x with
  | .p (.one (.c (.v (.bool t)))) => (t = true → V P n m a e M K) ∧ (t = false → V P n m b e M K)
  | _ => False
 | .loop c, e, M, K => Run P n m (.loop c) ⟨e, M⟩ K
 | .rgx T ops, e, M, K => evX P T ops M.length [] e (M ++ List.replicate (nAl ops) (.rows 0 0 0 [] true)) (K .normal)
theorem V_sound : ∀ {c : C} {e : Nat → SV} {M : List Blk} {K : Exit → St → Prop}, V P n m c e M K → Run P n m c ⟨e, M⟩ K
 | .skip, e, M, K, h => run_skip h
 | .ret, e, M, K, h => run_ret h
 | .exit id, e, M, K, h => run_exit h
 | .reg d ops, e, M, K, h => run_reg (ev_sound h)
 | .seq a b, e, M, K, h => run_seq (run_mono (fun ex s hs => by cases ex <;> first | exact V_sound (c := b) hs | exact hs) (V_sound (c := a) h))
 | .block id c, e, M, K, h => run_block (V_sound (c := c) h)
 | .scope c, e, M, K, h => run_scope (V_sound (c := c) h)
 | .cond x a b, e, M, K, h => by
  unfold V at h
  split at h
  ·rename_i t hx
   exact run_cond hx (fun ht => V_sound (h.1 ht)) (fun ht => V_sound (h.2 ht))
  ·exact h.elim
 | .loop c, e, M, K, h => h
 | .rgx T ops, e, M, K, h => by
  obtain ⟨xs, h1, h2⟩ := evX_sound h
  obtain ⟨h3, h4⟩ := runX_pure h2
  exact run_gh (gh_res _) (run_rgx h1 (by simpa using h3) h4)
theorem V_loop {ι : Type} (J : ι → Prop) (env : ι → List (Nat × SV)) (mem : ι → List Blk) (μ : ι → Nat) {c : C} (i0 : ι) (h0 : J i0) (hs : Into m ⟨e, M⟩ (env i0) (mem i0))
  (h : ∀ i, J i → V P n m c (envL (env i)) (mem i) (andThen (fun s' => ∃ j, J j ∧ μ j < μ i ∧ Into m s' (env j) (mem j)) K)) : Run P n m (.loop c) ⟨e, M⟩ K := by
 refine run_loop (ι := { i // J i }) (fun i => ⟨envL (env i.1), mem i.1⟩) (fun i => μ i.1) ⟨i0, h0⟩ hs.gh (fun i => run_mono (fun ex s' hx => ?_) (V_sound (h i.1 i.2)))
 cases ex with
 | normal =>
  obtain ⟨j, h1, h2, h3⟩ := hx
  exact ⟨⟨j, h1⟩, h3.gh, h2⟩
 | _ => exact hx
def FinP (rvs : List RV) (Q : SV → Prop) : Exit → St → Prop
 | .normal, s => match resL s.env s.M rvs with
  | some (qs, c) => c ∧ Q (mkRes qs)
  | none => False
 | .ret, s => match resL s.env s.M rvs with
  | some (qs, c) => c ∧ Q (mkRes qs)
  | none => False
 | _, _ => False
theorem callP {f : Nat} {c : C} {rvs : List RV} {ps : List Pt} {r : SV} (hF : Fun P f n c rvs) (hl : ps.length ≤ n) (hps : ∀ q ∈ ps, ltP 0 q) (hr : ltS 0 r) (h : V P n 0 c (envOf 0 ps) [] (FinP rvs (leS · r))) (M : List Blk) : CallR P M f ps r M := by
 refine callR_pure (callR_intro (M' := []) hF hl (run_mono (fun ex s hs => ?_) (V_sound h))) hps M
 have key : (match resL s.env s.M rvs with
  | some (qs, c) => c ∧ leS (mkRes qs) r
  | none => False) → Fin n 0 rvs r [] s := by
  intro h
  cases hq : resL s.env s.M rvs with
  | none => rw [hq] at h; exact h.elim
  | some x =>
   obtain ⟨qs, c⟩ := x
   rw [hq] at h
   exact ⟨s, s.M, qs, c, Gh.refl s, hq, h.1, rfl, h.2.sub, Nat.le_refl _, hr, fun x hx => by simp at hx⟩
 cases ex with
 | normal => exact key hs
 | ret => exact key hs
 | _ => exact hs.elim
end
@[go_sem] theorem mkRes_one (q : Pt) : mkRes [q] = .p q := rfl
@[go_sem] theorem mkRes_nil : mkRes [] = .tup [] := rfl
@[go_sem] theorem mkRes_two (q q' : Pt) (qs : List Pt) : mkRes (q :: q' :: qs) = .tup (q :: q' :: qs) := rfl
attribute [go_sem] isWr V ev callK callGK callGK' callee ptsOf capsL envL resL FinP evX callXK callXGK callXGK' nAl isAl isW foot blkOf outX mkP mkA
attribute [go_sem] cond_false cond_true if_true if_false Nat.reduceEqDiff Nat.reduceAdd true_and and_true implies_true imp_self List.length_cons List.length_nil Bool.not_false Bool.not_true Bool.not_not Option.map_some Option.map_none Bool.not_or Bool.not_and forall_const
attribute [go_sem] SV.p.injEq Pt.one.injEq AV.c.injEq CV.v.injEq Value.int.injEq Value.bool.injEq Value.string.injEq SV.tup.injEq Pt.agg.injEq List.cons.injEq AV.ip.injEq AV.ptr.injEq AV.arr.injEq AV.fn.injEq reduceCtorEq
end Go.Proofs.YtpdcpdngckpgbaaGreatAbs
end
section
namespace Go.Proofs.YtpdcpdngckpgbaaGreatAbs
open Go Go.RowKit
inductive Snap (M : List Blk) : AV → AV → Prop
 | same (a : AV) : ltA 0 a → Snap M a a
 | arr (sz b ver off len t : Nat) (l : List (List AV)) (fl : Bool) (c : Nat → Nat → CV) : M[b]? = some (.rows t sz ver l fl) → off + len ≤ l.length → (∀ i, i < len → ∀ j, j < sz → Snap M ((l.getD (off + i) []).getD j default) (.c (c i j))) → Snap M (.arr sz b ver off len) (.c (.imm sz len c))
 | ptr (b ver i j n t sz : Nat) (l : List (List AV)) (fl : Bool) (c : Nat → CV) : M[b]? = some (.rows t sz ver l fl) → i < l.length → j + n ≤ (l.getD i []).length → 0 < n → (∀ k, k < n → Snap M ((l.getD i []).getD (j + k) default) (.c (c k))) → Snap M (.ptr b ver i j) (.ip n c)
 | fn (f n : Nat) (caps caps' : Nat → AV) : (∀ k, k < n → Snap M (caps k) (caps' k)) → Snap M (.fn f n caps) (.fn f n caps')
theorem Snap.rel {I : Im} {σ : List Plc} {M : List Blk} {w : World} (hm : Mem I σ M w) {a a' : AV} (h : Snap M a a') : ∀ {y : Value}, RelA I σ a y → RelA (fun ad => w.cell? ad) [] a' y := by
 have hx : ExtI I (fun ad => w.cell? ad) := hm.imm
 induction h with
 | same a ha =>
  intro y hr
  have := RelA_take (n := 0) ha hr
  exact RelA_mono hx (by simpa using ExtP.refl []) (by simpa using this)
 | fn f n caps caps' _ ih =>
  rintro y ⟨cs, e, hs, hr⟩
  refine ⟨cs, e, hs, fun k x hk => ih k ?_ (hr k x hk)⟩
  have := (Array.getElem?_eq_some_iff.1 hk).1
  omega
 | arr sz b ver off len t l fl c hM hle _ ih =>
  rintro y ⟨h1, p, hp, hv, hq⟩
  obtain ⟨k0, k1, k2, k3, k4, k5, k6⟩ := hm.blk b _ p hM hp
  obtain ⟨e1, e2, e3⟩ := hq k2
  refine ⟨_, _, e3, by omega, ?_⟩
  by_cases hl0 : len = 0
  ·exact .inl hl0
  ·cases hbk : p.blk with
   | none =>
    rw [hbk] at k6
    have k6 : p.cap = 0 := k6
    omega
   | some g =>
    rw [hbk] at k6
    obtain ⟨cs, hh, hs, ho, hcs⟩ := k6
    refine .inr ⟨⟨g, off * sz, none⟩, rfl, fun i hi j hj => ?_⟩
    have hr : l[off + i]? = some (l.getD (off + i) []) := getD_some (by omega)
    have hrs := k5 _ _ hr
    have hu : (l.getD (off + i) [])[j]? = some ((l.getD (off + i) []).getD j default) := getD_some (by omega)
    obtain ⟨x, hx1, hx2⟩ := hcs _ _ hr j _ hu
    refine ⟨x, ?_, ih i hi j hj hx2⟩
    show w.cell? _ = _
    rw [add_mk, cell_of_row w g _ cs t (0, 0) hh, show off * sz + (i * sz + j) = (off + i) * sz + j by rw [Nat.add_mul]; omega]
    exact hx1
 | ptr b ver i j n t sz l fl c hM hi hle hn _ ih =>
  rintro y ⟨h1, p, hp, hv, hq⟩
  obtain ⟨k0, k1, k2, k3, k4, k5, k6⟩ := hm.blk b _ p hM hp
  obtain ⟨g, hg, rfl⟩ := hq k2
  rw [hg] at k6
  obtain ⟨cs, hh, hs, ho, hcs⟩ := k6
  refine ⟨_, rfl, fun k hk => ?_⟩
  have hr : l[i]? = some (l.getD i []) := getD_some (by omega)
  have hu : (l.getD i [])[j + k]? = some ((l.getD i []).getD (j + k) default) := getD_some (by omega)
  obtain ⟨x, hx1, hx2⟩ := hcs _ _ hr (j + k) _ hu
  refine ⟨x, ?_, ih k hk hx2⟩
  show w.cell? _ = _
  rw [add_mk, cell_of_row w g _ cs t (0, 0) hh, k1, show i * sz + j + k = i * sz + (j + k) by omega]
  exact hx1
def SnapP (M : List Blk) : Pt → Pt → Prop
 | .one a, .one a' => Snap M a a'
 | .agg l, .agg l' => l.length = l'.length ∧ ∀ (k : Nat) (a a' : AV), l[k]? = some a → l'[k]? = some a' → Snap M a a'
 | _, _ => False
theorem SnapP.rel {I : Im} {σ : List Plc} {M : List Blk} {w : World} (hm : Mem I σ M w) {q q' : Pt} (h : SnapP M q q') {y : Value} (hr : RelP I σ q y) : RelP (fun ad => w.cell? ad) [] q' y := by
 cases q with
 | one a =>
  cases q' with
  | one a' => exact Snap.rel hm h hr
  | agg l' => exact h.elim
 | agg l =>
  cases q' with
  | one a' => exact h.elim
  | agg l' =>
   obtain ⟨cs, e, h1, h2⟩ := hr
   refine ⟨cs, e, by rw [h1, h.1], fun k a x ha hx => ?_⟩
   have hk : k < l.length := by have := getElem?_lt ha; have := h.1; omega
   exact Snap.rel hm (h.2 k _ a (List.getElem?_eq_getElem hk) ha) (h2 k _ x (List.getElem?_eq_getElem hk) hx)
def SnapL (M : List Blk) : List Pt → List Pt → Prop
 | [], [] => True
 | q :: qs, q' :: qs' => SnapP M q q' ∧ SnapL M qs qs'
 | _, _ => False
theorem SnapL.length {M : List Blk} : ∀ {l l' : List Pt}, SnapL M l l' → l.length = l'.length
 | [], [], _ => rfl
 | q :: qs, q' :: qs', h => by simp [SnapL.length h.2]
theorem SnapL.get {M : List Blk} : ∀ {l l' : List Pt}, SnapL M l l' → ∀ (k : Nat) (q q' : Pt), l[k]? = some q → l'[k]? = some q' → SnapP M q q'
 | q :: qs, q' :: qs', h, 0, x, x', e, e' => by
  injection e with e; injection e' with e'; subst e; subst e'; exact h.1
 | q :: qs, q' :: qs', h, k + 1, x, x', e, e' => SnapL.get h.2 k x x' e e'
def plainA : AV → Prop
 | .c (.v _) => True
 | _ => False
def plainP : Pt → Prop
 | .one a => plainA a
 | .agg l => ∀ a ∈ l, plainA a
def plainS : SV → Prop
 | .p q => plainP q
 | .tup l => ∀ q ∈ l, plainP q
 | _ => False
theorem plainA.rel {I I' : Im} {σ σ' : List Plc} {a : AV} {y : Value} (h : plainA a) (hr : RelA I σ a y) : RelA I' σ' a y := by
 cases a with
 | c x => cases x with
  | v x => exact hr
  | imm _ _ _ => exact h.elim
 | _ => exact h.elim
theorem plainP.rel {I I' : Im} {σ σ' : List Plc} {q : Pt} {y : Value} (h : plainP q) (hr : RelP I σ q y) : RelP I' σ' q y := by
 cases q with
 | one a => exact plainA.rel h hr
 | agg l =>
  obtain ⟨cs, e, h1, h2⟩ := hr
  exact ⟨cs, e, h1, fun k a x ha hx => plainA.rel (h a (List.mem_of_getElem? ha)) (h2 k a x ha hx)⟩
theorem plainS.rel {I I' : Im} {σ σ' : List Plc} {s : SV} {y : Value} (h : plainS s) (hr : RelS I σ s y) : RelS I' σ' s y := by
 cases s with
 | p q => exact plainP.rel h hr
 | tup l =>
  obtain ⟨vs, e, h1, h2⟩ := hr
  exact ⟨vs, e, h1, fun k q x hq hx => plainP.rel (h q (List.mem_of_getElem? hq)) (h2 k q x hq hx)⟩
 | g _ _ => exact h.elim
 | any => exact h.elim
theorem callR_lend {P : Program} {M : List Blk} {f : Nat} {ps ps' : List Pt} {r : SV} (h : CallR P [] f ps' r []) (hs : SnapL M ps ps') (hr : plainS r) : CallR P M f ps r M := by
 intro I σ w vals hG hm hvl hvr
 have hm0 : Mem (fun ad => w.cell? ad) [] [] w := ⟨rfl, fun b x p h => by simp at h, fun b b' x x' p p' g h => by simp at h, fun b x p g h => by simp at h, fun a x h => h⟩
 have hno : ∀ g, ¬ Has ([] : List Plc) [] g := by rintro g ⟨b, x, p, h, _⟩; simp at h
 refine Comes.mono (h _ [] w vals (hG.ext hm.imm) hm0 (by rw [hvl, hs.length]) (fun k q x hq hx => ?_)) ?_
 ·have hk : k < ps.length := by have := getElem?_lt hq; have := hs.length; omega
  exact (hs.get k _ q (List.getElem?_eq_getElem hk) hq).rel hm (hvr k _ x (List.getElem?_eq_getElem hk) hx)
 ·rintro v w' ⟨I', σ', hrel, hev⟩
  have hk : Keep (fun _ => False) w w' := hev.keep.mono (fun k _ h => hno k h)
  have hm1 := hm.keep hk (fun _ _ h => h) (fun _ _ _ h => h)
  exact ⟨I, σ, hr.rel hrel, ⟨ExtI.refl _, ExtP.refl _, hm1, hk.mono (fun k _ h => h.elim), fun g h => .inl h, fun a x h => .inl h⟩⟩
attribute [go_sem] List.nil_append List.cons_append List.append_nil List.getElem?_cons_zero List.getElem?_cons_succ List.getElem?_nil List.set_cons_zero List.set_cons_succ List.getD_cons_zero List.getD_cons_succ List.map_cons List.map_nil Int.toNat_natCast List.take_succ_cons List.take_zero List.take_nil List.drop_succ_cons List.drop_zero List.drop_nil List.take_length List.replicate_zero List.replicate_succ eq_self and_self Nat.reduceLeDiff Nat.reduceLT Nat.lt_irrefl Nat.le_refl Nat.reduceSub Nat.sub_zero Nat.zero_add Nat.add_zero Nat.lt_add_one Nat.zero_lt_one Int.toNat_zero Int.zero_sub Int.toNat_one Int.reduceToNat Int.natCast_zero Bool.and_true Bool.true_and Bool.or_false Bool.false_or decide_true decide_false decide_eq_true_eq decide_eq_false_iff_not Bool.true_eq_false Bool.false_eq_true not_true_eq_false not_false_eq_true Bool.not_eq_true Bool.not_eq_false Nat.succ_eq_add_one Int.reducePow Nat.reducePow Int.ofNat_lt Int.ofNat_le Int.ofNat_inj srcRows Int.natCast_one beq_self_eq_true Int.reduceBEq Nat.reduceBEq beq_iff_eq beq_eq_false_iff_ne ne_eq List.drop_length bne_iff_ne Nat.sub_self immRows false_implies true_implies gt_iff_lt ge_iff_le Nat.not_lt_zero Int.le_refl Int.reduceLE Int.reduceLT Int.reduceNeg false_and and_false or_true true_or or_false false_or
attribute [go_sem] SnapL SnapP plainS plainP plainA List.mem_cons forall_eq_or_imp List.not_mem_nil false_imp_iff forall_eq
end Go.Proofs.YtpdcpdngckpgbaaGreatAbs
end
section
namespace Go.Proofs.YtpdcpdngckpgbaaGreatAbs
open Go Go.RowKit
attribute [go_sem] Bool.xor_false Bool.false_xor Bool.true_xor Bool.xor_true Bool.xor_self Int.cast_ofNat_Int
attribute [go_sem] eqCells eq1
@[go_sem] theorem bcond_1 (x y : Bool) : bcond true x y = x := rfl
@[go_sem] theorem bcond_0 (x y : Bool) : bcond false x y = y := rfl
theorem w64 {n : Int} (h0 : -9223372036854775808 ≤ n) (h1 : n ≤ 9223372036854775807) : IntKind.i64.wrap n = n := by rw [IntKind.wrap_i64]; omega
theorem w64s {k : Nat} (h1 : k < 9223372036854775807) : IntKind.i64.wrap ((k : Int) + 1) = ((k + 1 : Nat) : Int) := by rw [w64 (by omega) (by omega)]; rfl
theorem w64p {k : Nat} (h0 : 0 < k) (h1 : k < 9223372036854775807) : IntKind.i64.wrap ((k : Int) - 1) = ((k - 1 : Nat) : Int) := by rw [w64 (by omega) (by omega)]; omega
theorem into0 {s : St} {l : List (Nat × SV)} (h : ∀ p ∈ l, leS (s.env p.1) p.2 ∧ ltS 0 p.2) : Into 0 s l [] := ⟨s.M, rfl, Nat.le_refl _, h, fun x hx => by cases hx⟩
end Go.Proofs.YtpdcpdngckpgbaaGreatAbs
end
section
namespace Go.Proofs.YtpdcpdngckpgbaaGreatAbs
open Go Go.RowKit
section
variable {P : Program} {n m : Nat} {K : Exit → St → Prop} {e : Nat → SV} {M : List Blk} {c : C}
theorem Mem.retell {I : Im} {σ : List Plc} {w : World} (hm : Mem I σ M w) {b : Nat} {x x' : Blk} {p : Plc} (hx : M[b]? = some x) (hp : σ[b]? = some p) (hl : x'.live = true → x.live = true) (hr : RelB I σ w p x') : Mem I σ (M.set b x') w ∧ ∀ g, Has σ (M.set b x') g → Has σ M g := by
 have key : ∀ {b' : Nat} {y : Blk}, (M.set b x')[b']? = some y → (b' = b ∧ y = x') ∨ (b' ≠ b ∧ M[b']? = some y) := by
  intro b' y hy
  rw [List.getElem?_set] at hy
  by_cases hb : b = b'
  ·subst hb
   rw [if_pos rfl, if_pos (getElem?_lt hx)] at hy
   injection hy with hy
   exact .inl ⟨rfl, hy.symm⟩
  ·rw [if_neg hb] at hy
   exact .inr ⟨fun e => hb e.symm, hy⟩
 have back : ∀ {b' : Nat} {y : Blk}, (M.set b x')[b']? = some y → y.live = true → ∃ z, M[b']? = some z ∧ z.live = true := by
  intro b' y hy hlv
  rcases key hy with ⟨rfl, rfl⟩ | ⟨_, h⟩
  ·exact ⟨x, hx, hl hlv⟩
  ·exact ⟨y, h, hlv⟩
 refine ⟨⟨by simp [hm.len], fun b' y q hy hq => ?_, fun b1 b2 y1 y2 p1 p2 g h1 h2 l1 l2 q1 q2 e1 e2 => ?_, fun b1 y1 p1 g h1 l1 q1 e1 ad had => ?_, hm.imm⟩, ?_⟩
 ·rcases key hy with ⟨rfl, rfl⟩ | ⟨_, h⟩
  ·obtain rfl : p = q := by rw [hp] at hq; injection hq
   exact hr
  ·exact hm.blk b' y q h hq
 ·obtain ⟨z1, k1, v1⟩ := back h1 l1
  obtain ⟨z2, k2, v2⟩ := back h2 l2
  exact hm.inj b1 b2 z1 z2 p1 p2 g k1 k2 v1 v2 q1 q2 e1 e2
 ·obtain ⟨z1, k1, v1⟩ := back h1 l1
  exact hm.ap b1 z1 p1 g k1 v1 q1 e1 ad had
 ·rintro g ⟨b1, y1, p1, h1, l1, q1, e1⟩
  obtain ⟨z1, k1, v1⟩ := back h1 l1
  exact ⟨b1, z1, p1, k1, v1, q1, e1⟩
theorem Evo.retell {I0 I : Im} {σ0 σ : List Plc} {M0 : List Blk} {w0 w : World} (h : Evo I0 σ0 M0 w0 I σ M w) {M' : List Blk} (hm : Mem I σ M' w) (hh : ∀ g, Has σ M' g → Has σ M g) : Evo I0 σ0 M0 w0 I σ M' w := ⟨h.extI, h.extP, hm, h.keep, fun g hg => h.own g (hh g hg), h.fresh⟩
def plainRows (sz : Nat) (l : List (List AV)) : Prop := ∀ r ∈ l, r.length = sz ∧ ∀ a ∈ r, ∃ x, a = .c (.v x)
theorem run_open {b t sz ver : Nat} {l : List (List AV)} {f : Bool} (hM : M[b]? = some (.rows t sz ver l f)) (h : ∀ l', plainRows sz l' → l.length + l'.length ≤ maxLen → Run P n m c ⟨e, M.set b (.rows t sz ver (l ++ l') true)⟩ K) : Run P n m c ⟨e, M⟩ K := by
 intro code hc I0 σ0 M0 w0 a w hm0 hs
 obtain ⟨I, σ, hev, he, h1, h2⟩ := hs
 have hm := hev.mem
 have hbl : b < σ.length := by rw [hm.len]; exact getElem?_lt hM
 obtain ⟨k0, k1, k2, k3, k4, k5, k6⟩ := hm.blk b _ _ hM (List.getElem?_eq_getElem hbl)
 generalize hp : σ[b] = p at k0 k1 k2 k3 k4 k5 k6
 have hp : σ[b]? = some p := by rw [List.getElem?_eq_getElem hbl, hp]
 obtain ⟨l', hl1, hl2, hrel⟩ : ∃ l', plainRows sz l' ∧ l.length + l'.length = p.cap ∧ RelB I σ w p (.rows t sz ver (l ++ l') true) := by
  cases hb : p.blk with
  | none =>
   rw [hb] at k6
   have k6 : p.cap = 0 := k6
   refine ⟨[], fun r hr => by simp at hr, by simp; omega, ?_⟩
   refine ⟨fun _ => by simp; omega, k1, k2, by simpa using k3, k4, by simpa using k5, ?_⟩
   rw [hb]; exact k6
  | some g =>
   rw [hb] at k6
   obtain ⟨cs, hh, hs, ho, hcs⟩ := k6
   have hin : ∀ i j, i < p.cap - l.length → j < sz → (l.length + i) * sz + j < cs.size := by
    intro i j hi hj
    have h3 : (l.length + i + 1) * sz ≤ p.cap * sz := Nat.mul_le_mul_right _ (by omega)
    rw [Nat.add_mul, Nat.one_mul] at h3
    omega
   refine ⟨(List.range (p.cap - l.length)).map fun i => (List.range sz).map fun j => .c (.v (cs.getD ((l.length + i) * sz + j) undef)), fun r hr => ?_, by simp; omega, ?_⟩
   ·obtain ⟨i, hi, rfl⟩ := List.mem_map.1 hr
    refine ⟨by simp, fun a ha => ?_⟩
    obtain ⟨j, _, rfl⟩ := List.mem_map.1 ha
    exact ⟨_, rfl⟩
   ·refine ⟨fun _ => by simp; omega, k1, k2, by simp; omega, k4, fun i r hr => ?_, ?_⟩
    ·by_cases hi : i < l.length
     ·rw [List.getElem?_append_left hi] at hr; exact k5 i r hr
     ·rw [List.getElem?_append_right (by omega), List.getElem?_map, Option.map_eq_some_iff] at hr
      obtain ⟨_, _, rfl⟩ := hr
      simp
    ·rw [hb]
     refine ⟨cs, hh, hs, ho, fun i r hr j u hu => ?_⟩
     by_cases hi : i < l.length
     ·rw [List.getElem?_append_left hi] at hr; exact hcs i r hr j u hu
     ·rw [List.getElem?_append_right (by omega), List.getElem?_map, Option.map_eq_some_iff] at hr
      obtain ⟨i', hi', rfl⟩ := hr
      have hlt := getElem?_lt hi'
      rw [List.length_range] at hlt
      rw [List.getElem?_range hlt] at hi'
      injection hi' with hi'
      subst hi'
      rw [List.getElem?_map, Option.map_eq_some_iff] at hu
      obtain ⟨j', hj', rfl⟩ := hu
      have hlj := getElem?_lt hj'
      rw [List.length_range] at hlj
      rw [List.getElem?_range hlj] at hj'
      injection hj' with hj'
      subst hj'
      have hb2 := hin _ _ hlt hlj
      have e1 : l.length + (i - l.length) = i := by omega
      rw [e1] at hb2 ⊢
      have e2 : cs[i * sz + j]? = some (cs.getD (i * sz + j) undef) := by
       rw [Array.getD_eq_getD_getElem?, Array.getElem?_eq_getElem hb2]
       rfl
      exact ⟨_, e2, rfl, ho _ _ e2⟩
 obtain ⟨m1, m2⟩ := hm.retell hM hp (x' := .rows t sz ver (l ++ l') true) (fun _ => rfl) hrel
 exact h l' hl1 (by omega) code hc I0 σ0 M0 w0 a w hm0 ⟨I, σ, hev.retell m1 m2, he, h1, h2⟩
theorem gh_trunc {b t sz ver : Nat} {l : List (List AV)} {f : Bool} (k : Nat) (hM : M[b]? = some (.rows t sz ver l f)) : Gh n m ⟨e, M⟩ ⟨e, M.set b (.rows t sz ver (l.take k) false)⟩ := by
 rintro I0 σ0 M0 w0 a w hm0 ⟨I, σ, hev, he, h1, h2⟩
 have hm := hev.mem
 have hbl : b < σ.length := by rw [hm.len]; exact getElem?_lt hM
 have hp : σ[b]? = some σ[b] := List.getElem?_eq_getElem hbl
 obtain ⟨k0, k1, k2, k3, k4, k5, k6⟩ := hm.blk b _ _ hM hp
 have hget : ∀ {i : Nat} {r : List AV}, (l.take k)[i]? = some r → l[i]? = some r := by
  intro i r h
  rw [List.getElem?_take] at h
  split at h
  ·exact h
  ·cases h
 obtain ⟨m1, m2⟩ := hm.retell hM hp (x' := .rows t sz ver (l.take k) false) (fun _ => rfl) ⟨fun h => (by cases h), k1, k2, by rw [List.length_take]; omega, k4, fun i r hr => k5 i r (hget hr), by
  cases hb : σ[b].blk with
  | none => rw [hb] at k6; exact k6
  | some g =>
   rw [hb] at k6
   obtain ⟨cs, hh, hs, ho, hcs⟩ := k6
   exact ⟨cs, hh, hs, ho, fun i r hr j u hu => hcs i r (hget hr) j u hu⟩⟩
 exact ⟨I, σ, hev.retell m1 m2, he, h1, h2⟩
theorem gh_move {b c t sz vc t0 sz0 vb : Nat} {l l0 : List (List AV)} {f f0 : Bool} (i off len : Nat) (hb : M[b]? = some (.rows t0 sz0 vb l0 f0)) (hc : M[c]? = some (.rows t sz vc l f)) (hi : e i = .p (.one (.arr sz c vc off len))) :
  Gh n m ⟨e, M⟩ ⟨upd e i (.p (.one (.arr sz b (vb + 1) off len))), (M.set c .dead).set b (.rows t sz (vb + 1) l f)⟩ := by
 rintro I0 σ0 M0 w0 a w hm0 ⟨I, σ, hev, he, h1, h2⟩
 have hm := hev.mem
 have hbl : b < σ.length := by rw [hm.len]; exact getElem?_lt hb
 have hcl : c < σ.length := by rw [hm.len]; exact getElem?_lt hc
 have hpb : σ[b]? = some σ[b] := List.getElem?_eq_getElem hbl
 have hpc : σ[c]? = some σ[c] := List.getElem?_eq_getElem hcl
 obtain ⟨j0, j1, j2, j3, j4, j5, j6⟩ := hm.blk b _ _ hb hpb
 obtain ⟨k0, k1, k2, k3, k4, k5, k6⟩ := hm.blk c _ _ hc hpc
 generalize σ[c] = pc at hpc k0 k1 k2 k3 k4 k5 k6
 generalize σ[b] = pb at hpb j0 j1 j2 j3 j4 j5 j6
 obtain ⟨p', hp'⟩ : ∃ p' : Plc, p' = ⟨pc.blk, pc.cap, vb + 1, pc.sz⟩ := ⟨_, rfl⟩
 have hext : ExtP σ (σ.set b p') := by
  intro b' q hq
  rw [List.getElem?_set]
  by_cases hbb : b = b'
  ·subst hbb
   obtain rfl : pb = q := by rw [hpb] at hq; injection hq
   rw [if_pos rfl, if_pos hbl]
   exact ⟨p', rfl, by rw [hp']; simp only []; omega, fun h => by rw [hp'] at h; simp only [] at h; omega⟩
  ·rw [if_neg hbb]
   exact ⟨q, hq, Nat.le_refl _, fun _ => rfl⟩
 have hbm : b < M.length := getElem?_lt hb
 have key : ∀ {b' : Nat} {y : Blk} {q : Plc}, ((M.set c .dead).set b (.rows t sz (vb + 1) l f))[b']? = some y → (σ.set b p')[b']? = some q → (b' = b ∧ y = .rows t sz (vb + 1) l f ∧ q = p') ∨ (b' ≠ b ∧ y = .dead) ∨ (b' ≠ b ∧ b' ≠ c ∧ M[b']? = some y ∧ σ[b']? = some q) := by
  intro b' y q hy hq
  rw [List.getElem?_set] at hy hq
  by_cases hbb : b = b'
  ·subst hbb
   rw [if_pos rfl, if_pos (by simpa using hbm)] at hy
   rw [if_pos rfl, if_pos hbl] at hq
   injection hy with hy; injection hq with hq
   exact .inl ⟨rfl, hy.symm, hq.symm⟩
  ·rw [if_neg hbb] at hy hq
   rw [List.getElem?_set] at hy
   by_cases hcc : c = b'
   ·subst hcc
    rw [if_pos rfl, if_pos (getElem?_lt hc)] at hy
    injection hy with hy
    exact .inr (.inl ⟨fun e => hbb e.symm, hy.symm⟩)
   ·rw [if_neg hcc] at hy
    exact .inr (.inr ⟨fun e => hbb e.symm, fun e => hcc e.symm, hy, hq⟩)
 have hmem : Mem I (σ.set b p') ((M.set c .dead).set b (.rows t sz (vb + 1) l f)) w := by
  refine ⟨by simp [hm.len], fun b' y q hy hq => ?_, fun b1 b2 y1 y2 p1 p2 g h1 h2 l1 l2 q1 q2 e1 e2 => ?_, fun b1 y1 p1 g h1 l1 q1 e1 ad had => ?_, hm.imm⟩
  ·rcases key hy hq with ⟨rfl, rfl, rfl⟩ | ⟨_, rfl⟩ | ⟨_, _, h3, h4⟩
   ·have := RelB_mono (w' := w) (ExtI.refl I) hext (fun g _ _ => rfl) (hm.blk c _ _ hc hpc)
    obtain ⟨n0, n1, n2, n3, n4, n5, n6⟩ := this
    subst hp'
    exact ⟨n0, n1, rfl, n3, n4, n5, n6⟩
   ·trivial
   ·exact RelB_mono (ExtI.refl _) hext (fun g _ _ => rfl) (hm.blk b' y q h3 h4)
  ·rcases key h1 q1 with ⟨rfl, rfl, rfl⟩ | ⟨_, rfl⟩ | ⟨n1, n2, h3, h4⟩
   ·rcases key h2 q2 with ⟨rfl, rfl, rfl⟩ | ⟨_, rfl⟩ | ⟨n3, n4, h5, h6⟩
    ·rfl
    ·cases l2
    ·rw [hp'] at e1
     exact absurd (hm.inj c b2 _ y2 pc p2 g hc h5 rfl l2 hpc h6 e1 e2).symm n4
   ·cases l1
   ·rcases key h2 q2 with ⟨rfl, rfl, rfl⟩ | ⟨_, rfl⟩ | ⟨n3, n4, h5, h6⟩
    ·rw [hp'] at e2
     exact absurd (hm.inj b1 c y1 _ p1 pc g h3 hc l1 rfl h4 hpc e1 e2) n2
    ·cases l2
    ·exact hm.inj b1 b2 y1 y2 p1 p2 g h3 h5 l1 l2 h4 h6 e1 e2
  ·rcases key h1 q1 with ⟨rfl, rfl, rfl⟩ | ⟨_, rfl⟩ | ⟨n1, n2, h3, h4⟩
   ·rw [hp'] at e1
    exact hm.ap c _ pc g hc rfl hpc e1 ad had
   ·cases l1
   ·exact hm.ap b1 y1 p1 g h3 l1 h4 e1 ad had
 have hhas : ∀ g, Has (σ.set b p') ((M.set c .dead).set b (.rows t sz (vb + 1) l f)) g → Has σ M g := by
  rintro g ⟨b1, y1, p1, h1, l1, q1, e1⟩
  rcases key h1 q1 with ⟨rfl, rfl, rfl⟩ | ⟨_, rfl⟩ | ⟨n1, n2, h3, h4⟩
  ·rw [hp'] at e1
   exact ⟨c, _, pc, hc, rfl, hpc, e1⟩
  ·cases l1
  ·exact ⟨b1, y1, p1, h3, l1, h4, e1⟩
 refine ⟨I, σ.set b p', ⟨hev.extI, hev.extP.trans hext, hmem, hev.keep, fun g hg => hev.own g (hhas g hg), hev.fresh⟩, fun j => ?_, h1, h2⟩
 show RelS I _ (if j = i then _ else e j) _
 by_cases hj : j = i
 ·subst hj
  rw [if_pos rfl]
  have hr : RelS I σ (e j) _ := he j
  rw [hi] at hr
  obtain ⟨r1, q, hq, hv, hy⟩ := hr
  obtain rfl : pc = q := by rw [hpc] at hq; injection hq
  refine ⟨r1, p', by rw [List.getElem?_set, if_pos rfl, if_pos hbl], by rw [hp']; exact Nat.le_refl _, fun _ => ?_⟩
  obtain ⟨y1, y2, y3⟩ := hy k2
  rw [hp']
  exact ⟨y1, y2, y3⟩
 ·rw [if_neg hj]
  exact RelS_mono (ExtI.refl _) hext (he j)
end
section
variable {P : Program} {n m : Nat} {K : Exit → St → Prop} {e : Nat → SV} {M : List Blk}
theorem run_seqV {a b : C} (h : V P n m a e M (andThen (fun s => Run P n m b s K) K)) : Run P n m (.seq a b) ⟨e, M⟩ K := run_seq (V_sound h)
end
attribute [go_sem] frzS frzP frzA frzB toC
end Go.Proofs.YtpdcpdngckpgbaaGreatAbs
end
section
namespace Go.Proofs.YtpdcpdngckpgbaaGreatAbs
open Go Go.RowKit
def bsC (sz : Nat) : C :=
 (.seq (.reg false [oo 6 (.mv (ki 0)), oo 7 (.mv (kb false))])
 (.seq (.reg false [om 12 0, oo 13 (.len (.t 12)), om 8 13])
 (.seq (.reg false [om 14 8, oo 9 (.mv (ki 0)), om 10 14])
 (.seq (.block 0 (.loop (.seq (.seq (.reg false [om 15 9, om 16 10, oo 17 (.bin .lss (.t 15) (.t 16))])
 (.cond (.t 17)
 .skip
 (.exit 0)))
 (.block 1 (.seq (.reg false [om 18 9, om 19 10, oo 20 (.bin .add (.t 18) (.t 19)), oo 21 (.cvi .u64 (.t 20)), oo 22 (.bin .shr (.t 21) (.k (.one (.c (.v (.int .u64 1)))))), oo 23 (.cvi .i64 (.t 22)), om 11 23])
 (.seq (.reg false [om 24 2, om 25 0, om 26 11, oo 27 (.ia sz (.t 25) (.t 26)), oo 28 (.ld true sz (.t 27)), om 29 1, oo 30 (.call (.t 24) [(.t 28), (.t 29)]), oo 31 (.bin .lss (.t 30) (ki 0))])
 (.cond (.t 31)
 (.reg false [om 32 11, oo 33 (.bin .add (.t 32) (ki 1)), om 9 33])
 (.reg false [om 34 11, om 10 34]))))))))
 (.seq (.reg false [om 35 9, om 36 9, om 37 8, oo 38 (.bin .lss (.t 36) (.t 37)), om 39 38, og 40 39 true (.mv (.t 2)), og 41 39 true (.mv (.t 0)), og 42 39 true (.mv (.t 9)), og 43 39 true (.ia sz (.t 41) (.t 42)), og 44 39 true (.ld true sz (.t 43)), og 45 39 true (.mv (.t 1)), og 46 39 true (.call (.t 40) [(.t 44), (.t 45)]), og 47 39 true (.bin .eql (.t 46) (ki 0)), oo 48 (.pick (.t 39) (.t 47) (kb false)), om 6 35, om 7 48])
 .ret)))))
def bsF (lt : Nat → Bool) (i j : Nat) : Nat := if i < j then (if lt ((i + j) / 2) then bsF lt ((i + j) / 2 + 1) j else bsF lt i ((i + j) / 2)) else i
termination_by j - i
theorem bsF_le {lt : Nat → Bool} : ∀ (d i j : Nat), j - i ≤ d → i ≤ j → i ≤ bsF lt i j ∧ bsF lt i j ≤ j
 | 0, i, j, hd, h => by
  rw [bsF, if_neg (by omega)]; omega
 | d + 1, i, j, hd, h => by
  rw [bsF]
  by_cases hij : i < j
  ·rw [if_pos hij]
   split
   ·have := bsF_le (lt := lt) d ((i + j) / 2 + 1) j (by omega) (by omega); omega
   ·have := bsF_le (lt := lt) d i ((i + j) / 2) (by omega) (by omega); omega
  ·rw [if_neg hij]; omega
theorem bsF_lt {lt : Nat → Bool} : ∀ (d i j : Nat), j - i ≤ d → i ≤ j → (∀ a b, i ≤ a → a ≤ b → b < j → lt b = true → lt a = true) → (∀ a, i ≤ a → a < bsF lt i j → lt a = true) ∧ ∀ a, bsF lt i j ≤ a → a < j → lt a = false
 | 0, i, j, hd, h, hs => by
  rw [bsF, if_neg (by omega)]
  exact ⟨fun a h1 h2 => by omega, fun a h1 h2 => by omega⟩
 | d + 1, i, j, hd, h, hs => by
  by_cases hij : i < j
  ·rw [bsF, if_pos hij]
   cases hm : lt ((i + j) / 2) with
   | true =>
    rw [if_pos rfl]
    obtain ⟨h1, h2⟩ := bsF_lt (lt := lt) d ((i + j) / 2 + 1) j (by omega) (by omega) (fun a b ha hb hc => hs a b (by omega) hb hc)
    refine ⟨fun a ha hb => ?_, h2⟩
    by_cases hc : a ≤ (i + j) / 2
    ·exact hs a _ ha hc (by omega) hm
    ·exact h1 a (by omega) hb
   | false =>
    rw [if_neg (by simp)]
    obtain ⟨h1, h2⟩ := bsF_lt (lt := lt) d i ((i + j) / 2) (by omega) (by omega) (fun a b ha hb hc => hs a b ha hb (by omega))
    refine ⟨h1, fun a ha hb => ?_⟩
    by_cases hc : a < (i + j) / 2
    ·exact h2 a ha hc
    ·cases hl : lt a with
     | false => rfl
     | true =>
      have := hs ((i + j) / 2) a (by omega) (by omega) hb hl
      rw [hm] at this
      cases this
  ·rw [bsF, if_neg hij]
   exact ⟨fun a h1 h2 => by omega, fun a h1 h2 => by omega⟩
theorem mid64 {i j : Nat} (h : i + j < 9223372036854775807) : IntKind.i64.wrap ((IntKind.u64.wrap (IntKind.i64.wrap ((i : Int) + (j : Int)))).fdiv 2) = (((i + j) / 2 : Nat) : Int) := by
 have h1 : IntKind.i64.wrap ((i : Int) + (j : Int)) = ((i + j : Nat) : Int) := by rw [w64 (by omega) (by omega)]; omega
 have h2 : IntKind.u64.wrap (((i + j : Nat) : Int)) = ((i + j : Nat) : Int) := by
  rw [IntKind.wrap_u64]; omega
 rw [h1, h2, w64]
 ·rw [Int.fdiv_eq_ediv_of_nonneg _ (by omega)]; omega
 ·rw [Int.fdiv_eq_ediv_of_nonneg _ (by omega)]; omega
 ·rw [Int.fdiv_eq_ediv_of_nonneg _ (by omega)]; omega
theorem bs_rc {P : Program} {f sz : Nat} (hF : Fun P f 49 (bsC sz) [.t 6, .t 7]) (n : Nat) (hn : n < 4611686018427387904) (c : Nat → Nat → CV) (key : Pt) (fn k : Nat) (caps : Nat → AV) (cmp : Nat → Int) (hkey : ltP 0 key) (hcaps : ∀ i, i < k → ltA 0 (caps i))
  (h : ∀ i, i < n → ∀ M, CallR P M fn ([.agg (cellsUp (c i) 0 sz), key] ++ capsL caps 0 k) (.i (cmp i)) M) (M : List Blk) :
  CallR P M f [.one (.c (.imm sz n c)), key, .one (.fn fn k caps)] (.tup [.i (bsF (fun i => decide (cmp i < 0)) 0 n : Nat), .b (decide (bsF (fun i => decide (cmp i < 0)) 0 n < n) && (cmp (bsF (fun i => decide (cmp i < 0)) 0 n) == 0))]) M := by
 refine callP hF (Nat.le_of_ble_eq_true rfl) (by simp only [go_sem]; exact ⟨hkey, hcaps⟩) (by simp only [go_sem]) ?_ M
 simp only [bsC, go_sem]
 refine V_loop (ι := Nat × Nat) (J := fun p => p.1 ≤ p.2 ∧ p.2 ≤ n ∧ bsF (fun i => decide (cmp i < 0)) p.1 p.2 = bsF (fun i => decide (cmp i < 0)) 0 n) (env := fun p => [(0, .p (.one (.c (.imm sz n c)))), (1, .p key), (2, .p (.one (.fn fn k caps))), (8, .i n), (9, .i p.1), (10, .i p.2)]) (mem := fun _ => []) (μ := fun p => p.2 - p.1) (0, n) ⟨by simp, by simp, rfl⟩ (into0 (by simp only [go_sem]; exact ⟨hkey, hcaps⟩)) ?_
 rintro ⟨i, j⟩ ⟨hij, hjn, hb⟩
 simp only [go_sem] at hij hjn hb ⊢
 rw [bsF] at hb
 refine ⟨fun hlt => ?_, fun hlt => ?_⟩
 ·have hlt' : i < j := by omega
  rw [if_pos hlt'] at hb
  rw [mid64 (by omega), Int.toNat_natCast]
  refine ⟨by omega, call0 (h ((i + j) / 2) (by omega)) ?_⟩
  simp only [go_sem]
  refine ⟨fun hc => ⟨((i + j) / 2 + 1, j), ⟨by simp; omega, by simp; omega, ?_⟩, by simp; omega, into0 ?_⟩, fun hc => ⟨(i, (i + j) / 2), ⟨by simp; omega, by simp; omega, ?_⟩, by simp; omega, into0 ?_⟩⟩
  ·rw [if_pos (by simpa using hc)] at hb
   exact hb
  ·rw [w64s (by omega)]
   simp only [go_sem]
   exact ⟨hkey, hcaps⟩
  ·rw [if_neg (by simpa using hc)] at hb
   exact hb
  ·simp only [go_sem]
   exact ⟨hkey, hcaps⟩
 ·rw [if_neg (by omega)] at hb
  subst hb
  refine ⟨fun hc => by omega, callg0 (fun hc => h (bsF (fun i => decide (cmp i < 0)) 0 n) (by simpa using hc)) ?_⟩
  simp only [go_sem]
end Go.Proofs.YtpdcpdngckpgbaaGreatAbs
end
section
namespace Go.Proofs.YtpdcpdngckpgbaaGreatAbs
open Go Go.RowKit
structure Ovl (P : Program) (f sz : Nat) : Prop where
 ex : ∃ fn tS tR el, P.funcs[f]? = some fn ∧ (fn.name == "runtime.NumGoroutine") = false ∧ fn.body.isNone = true ∧ Extern.findNext fn = none ∧ Extern.find fn = some (Extern.SlicesOverlaps.overlaps #[tS, tS] #[tR]) ∧ elemT P tS = some el ∧ sizeT P el = some sz
theorem ovl_rc {P : Program} {f sz : Nat} (h : Ovl P f sz) {M : List Blk} {b c tb tc vb vc lb lc ob oc : Nat} {l l' : List (List AV)} {fb fc : Bool} (hsz : 0 < sz) (hl : 0 < l'.length) (hbc : b ≠ c) (hb : M[b]? = some (.rows tb sz vb l fb)) (hc : M[c]? = some (.rows tc sz vc l' fc)) :
  CallR P M f [.one (.arr sz b vb ob lb), .one (.arr sz c vc oc lc)] (.b false) M := by
 obtain ⟨fn, tS, tR, el, hf, hname, hbody, hn, he, ht, hz⟩ := h.ex
 intro I σ w vals hG hm hvl hvr
 refine .inr ⟨.bool false, w, ?_, I, σ, ⟨rfl, rfl⟩, Evo.refl hm⟩
 obtain ⟨x, y, rfl⟩ : ∃ x y, vals = #[x, y] := by
  match vals, hvl with
  | ⟨[x, y]⟩, _ => exact ⟨x, y, rfl⟩
 obtain ⟨_, p, hp, hpv, hq⟩ := hvr 0 _ x rfl rfl
 obtain ⟨_, q, hq1, hqv, hqq⟩ := hvr 1 _ y rfl rfl
 obtain ⟨p0, hp0, a1, a2, a3, a4, a5, a6⟩ := mem_rows hm hb
 obtain rfl : p = p0 := by rw [hp] at hp0; injection hp0
 obtain ⟨q0, hq0, b1, b2, b3, b4, b5, b6⟩ := mem_rows hm hc
 obtain rfl : q = q0 := by rw [hq1] at hq0; injection hq0
 obtain ⟨e1, e2, e3⟩ := hq a2
 obtain ⟨g1, g2, g3⟩ := hqq b2
 rw [run_callFunc_extern hf hname hbody hn he, e3, g3]
 have key : (Extern.SlicesOverlaps.overlaps #[tS, tS] #[tR] #[.slice (p.blk.map fun g => ⟨g, ob * sz, none⟩) lb (p.cap - ob), .slice (q.blk.map fun g => ⟨g, oc * sz, none⟩) lc (q.cap - oc)]).run P w = .ok (.bool false) w := by
  cases hpb : p.blk with
  | none =>
   show (do let some t := (#[tS, tS] : Array TypeId)[0]? | stuck "slices.overlaps: no parameter types"
            let .slice elem ← underlying t | stuck "slices.overlaps: slice type expected"
            let size ← sizeOf elem
            pure (Value.bool false) : Sem Value).run P w = _
   simp [run_under (elemT_spec ht), run_size hz]
  | some gp =>
   cases hqb : q.blk with
   | none =>
    rw [hqb] at b6
    have b6 : q.cap = 0 := b6
    omega
   | some gq =>
    rw [hpb] at a6
    rw [hqb] at b6
    obtain ⟨cs, hh, hs, _, _⟩ := a6
    obtain ⟨ds, kh, ks, _, _⟩ := b6
    have hne : gp ≠ gq := fun e => hbc (hm.inj b c _ _ p q gp hb hc rfl rfl hp hq1 hpb (by rw [hqb, e]))
    have hk : ds.size ≠ 0 := by
     rw [ks]
     have := Nat.mul_pos (show 0 < q.cap by omega) hsz
     omega
    exact Lib.run_overlaps_apart w tS tR el (elemT_spec ht) sz (fun w => run_size hz) ⟨gp, ob * sz, none⟩ ⟨gq, oc * sz, none⟩ lb (p.cap - ob) lc (q.cap - oc) hne tb tc cs.size ds.size (by simp [World.shape?, hh]) (by simp [World.shape?, kh]) hk (by simp [World.frozen?, hh]) (by simp [World.frozen?, hh])
 rw [key]
 rfl
def insC (t sz by_ : Nat) (z : List Value) (fo fr : Nat) : C :=
 (.seq (.reg false [oo 6 (.mv (.k (.one (.c (.v (.slice none 0 0))))))])
 (.seq (.reg false [om 10 0, om 11 1, oo 12 (.slc sz (.t 10) (some (.t 11)) none)])
 (.seq (.reg false [om 13 2, oo 14 (.len (.t 13)), om 7 14])
 (.seq (.seq (.reg false [om 15 7, oo 16 (.bin .eql (.t 15) (ki 0))])
 (.cond (.t 16)
 (.seq (.reg false [om 17 0, om 6 17])
 .ret)
 .skip))
 (.seq (.reg false [om 18 0, oo 19 (.len (.t 18)), om 8 19])
 (.seq (.seq (.reg false [om 20 1, om 21 8, oo 22 (.bin .eql (.t 20) (.t 21))])
 (.cond (.t 22)
 (.seq (.reg false [om 23 0, om 24 2, oo 25 (.app t sz by_ z (.t 23) (.t 24)), om 6 25])
 .ret)
 .skip))
 (.seq (.seq (.reg false [om 26 8, om 27 7, oo 28 (.bin .add (.t 26) (.t 27)), om 29 0, oo 30 (.cap (.t 29)), oo 31 (.bin .gtr (.t 28) (.t 30))])
 (.cond (.t 31)
 (.seq (.reg false [om 32 0, om 33 1, oo 34 (.slc sz (.t 32) none (some (.t 33))), om 35 8, om 36 7, oo 37 (.bin .add (.t 35) (.t 36)), om 38 1, oo 39 (.bin .sub (.t 37) (.t 38)), oo 40 (.apz t sz by_ z (.t 34) (.t 39)), om 9 40])
 (.seq (.reg false [om 41 9, om 42 1, oo 43 (.slc sz (.t 41) (some (.t 42)) none), om 44 2, oo 45 (.cpy sz (.t 43) (.t 44))])
 (.seq (.reg true [om 46 9, om 47 1, om 48 7, oo 49 (.bin .add (.t 47) (.t 48)), oo 50 (.slc sz (.t 46) (some (.t 49)) none), om 51 0, om 52 1, oo 53 (.slc sz (.t 51) (some (.t 52)) none), oo 54 (.cpy sz (.t 50) (.t 53))])
 (.seq (.reg false [om 55 9, om 6 55])
 .ret))))
 .skip))
 (.seq (.reg false [om 56 0, om 57 8, om 58 7, oo 59 (.bin .add (.t 57) (.t 58)), oo 60 (.slc sz (.t 56) none (some (.t 59))), om 0 60])
 (.seq (.seq (.reg false [om 61 2, om 62 0, om 63 1, om 64 7, oo 65 (.bin .add (.t 63) (.t 64)), oo 66 (.slc sz (.t 62) (some (.t 65)) none), oo 67 (.call (kf fo) [(.t 61), (.t 66)]), oo 68 (.un .not (.t 67))])
 (.cond (.t 68)
 (.seq (.reg true [om 69 0, om 70 1, om 71 7, oo 72 (.bin .add (.t 70) (.t 71)), oo 73 (.slc sz (.t 69) (some (.t 72)) none), om 74 0, om 75 1, oo 76 (.slc sz (.t 74) (some (.t 75)) none), oo 77 (.cpy sz (.t 73) (.t 76))])
 (.seq (.reg false [om 78 0, om 79 1, oo 80 (.slc sz (.t 78) (some (.t 79)) none), om 81 2, oo 82 (.cpy sz (.t 80) (.t 81))])
 (.seq (.reg false [om 83 0, om 6 83])
 .ret)))
 .skip))
 (.seq (.reg false [om 84 0, om 85 8, oo 86 (.slc sz (.t 84) (some (.t 85)) none), om 87 2, oo 88 (.cpy sz (.t 86) (.t 87))])
 (.seq (.reg false [om 89 0, om 90 1, oo 91 (.slc sz (.t 89) (some (.t 90)) none), om 92 7, oo 93 (.call (kf fr) [(.t 91), (.t 92)])])
 (.seq (.reg false [om 94 0, om 6 94])
 .ret))))))))))))

theorem insA {α : Type} {l Z : List α} {row : α} {i : Nat} (h : i < l.length) (hz : Z.length = l.length + 1 - i) :
  List.take (i + 1) (List.take i (List.take i l ++ Z) ++ [row] ++ List.drop (i + 1) (List.take i l ++ Z)) ++ List.take (l.length + 1 - (i + 1)) (List.take (l.length - i) (List.drop i l)) ++ List.drop (i + 1 + (l.length - i)) (List.take i (List.take i l ++ Z) ++ [row] ++ List.drop (i + 1) (List.take i l ++ Z)) = List.take i l ++ row :: List.drop i l ∧
  (List.take i (List.take i l ++ Z) ++ [row] ++ List.drop (i + 1) (List.take i l ++ Z)).length = l.length + 1 ∧ (List.take i l ++ Z).length = l.length + 1 := by
 have hl1 : (List.take i l).length = i := by rw [List.length_take]; omega
 have e1 : List.take i (List.take i l ++ Z) = List.take i l := List.take_left' hl1
 have hlen : (List.take i l ++ [row] ++ List.drop (i + 1) (List.take i l ++ Z)).length = l.length + 1 := by
  simp only [List.length_append, hl1, List.length_drop, List.length_cons, List.length_nil, hz]; omega
 refine ⟨?_, by rw [e1]; exact hlen, by rw [List.length_append, hl1, hz]; omega⟩
 have e2 : List.take (l.length + 1 - (i + 1)) (List.take (l.length - i) (List.drop i l)) = List.drop i l := by
  rw [List.take_take, List.take_of_length_le]
  rw [List.length_drop]
  omega
 have e3 : List.drop (i + 1 + (l.length - i)) (List.take i l ++ [row] ++ List.drop (i + 1) (List.take i l ++ Z)) = [] := List.drop_of_length_le (by rw [hlen]; omega)
 have e4 : List.take (i + 1) (List.take i l ++ [row] ++ List.drop (i + 1) (List.take i l ++ Z)) = List.take i l ++ [row] := List.take_left' (by rw [List.length_append, hl1]; rfl)
 rw [e1, e2, e3, e4]
 simp
theorem insB {α : Type} {l l' : List α} {row : α} {i : Nat} (h : i < l.length) (hl' : 0 < l'.length) :
  List.take (l.length + 1) (List.take i (List.take (i + 1) (l ++ l') ++ List.take (l.length + 1 - (i + 1)) (List.take (l.length + 1 - i) (List.drop i (l ++ l'))) ++ List.drop (i + 1 + min (l.length + 1 - i) (l.length + 1 - (i + 1))) (l ++ l')) ++ [row] ++ List.drop (i + 1) (List.take (i + 1) (l ++ l') ++ List.take (l.length + 1 - (i + 1)) (List.take (l.length + 1 - i) (List.drop i (l ++ l'))) ++ List.drop (i + 1 + min (l.length + 1 - i) (l.length + 1 - (i + 1))) (l ++ l'))) = List.take i l ++ row :: List.drop i l ∧
  i + 1 ≤ (List.take (i + 1) (l ++ l') ++ List.take (l.length + 1 - (i + 1)) (List.take (l.length + 1 - i) (List.drop i (l ++ l'))) ++ List.drop (i + 1 + min (l.length + 1 - i) (l.length + 1 - (i + 1))) (l ++ l')).length := by
 have hmin : min (l.length + 1 - i) (l.length + 1 - (i + 1)) = l.length - i := by omega
 have e1 : List.take (l.length + 1 - (i + 1)) (List.take (l.length + 1 - i) (List.drop i (l ++ l'))) = List.drop i l := by
  rw [List.take_take, Nat.min_eq_left (by omega), List.drop_append_of_le_length (by omega)]
  exact List.take_left' (by rw [List.length_drop]; omega)
 have e2 : (List.take (i + 1) (l ++ l')).length = i + 1 := by rw [List.length_take, List.length_append]; omega
 rw [hmin, e1]
 have e3 : List.take i (List.take (i + 1) (l ++ l') ++ List.drop i l ++ List.drop (i + 1 + (l.length - i)) (l ++ l')) = List.take i l := by
  rw [List.append_assoc, List.take_append_of_le_length (by omega), List.take_take, Nat.min_eq_left (by omega), List.take_append_of_le_length (by omega)]
 have e4 : List.drop (i + 1) (List.take (i + 1) (l ++ l') ++ List.drop i l ++ List.drop (i + 1 + (l.length - i)) (l ++ l')) = List.drop i l ++ List.drop (i + 1 + (l.length - i)) (l ++ l') := by
  rw [List.append_assoc]
  exact List.drop_left' e2
 rw [e3, e4]
 refine ⟨?_, by simp only [List.length_append] at e2 ⊢; omega⟩
 rw [← List.append_assoc, List.take_left' (by simp only [List.length_append, List.length_take, List.length_drop, List.length_cons, List.length_nil]; omega)]
 simp
section
variable {P : Program} {f t sz by_ fo fr : Nat} {z : List Value}
theorem fin_own {n m : Nat} {rvs : List RV} {r : SV} {M' : List Blk} {s s1 : St} {ex : Exit} (hex : ex = .normal ∨ ex = .ret) (h : Gh n m s s1) (D : List Blk) {qs : List Pt} {cnd : Prop} (h1 : resL s1.env s1.M rvs = some (qs, cnd)) (h2 : cnd) (h3 : s1.M = M' ++ D) (h4 : leS (mkRes qs) r) (h5 : m ≤ M'.length) (h6 : ltS M'.length r) (h7 : ∀ x ∈ M', ltB M'.length x) : FinK n m rvs r M' ex s := by
 rcases hex with rfl | rfl <;> exact ⟨s1, D, qs, cnd, h, h1, h2, h3, h4.sub, h5, h6, h7⟩
set_option maxRecDepth 20000 in
set_option maxHeartbeats 2000000 in
theorem ins_rc (hF : Fun P f 95 (insC t sz by_ z fo fr) [.t 6]) (ho : Ovl P fo sz) (hsz : 0 < sz) {M : List Blk} {b c vb vc tc i : Nat} {l : List (List AV)} {row : List AV} {fb fc : Bool} (hbc : b ≠ c) (hb : M[b]? = some (.rows t sz vb l fb)) (hc : M[c]? = some (.rows tc sz vc [row] fc)) (hi : i ≤ l.length) (hn : l.length < 140737488355328) (hbig : (l.length + 1) * by_ ≤ 140737488355328) (hMB : ∀ x ∈ M, ltB M.length x) :
  CallR P M f [.one (.arr sz b vb 0 l.length), .i i, .one (.arr sz c vc 0 1)] (.p (.one (.arr sz b (vb + 1) 0 (l.length + 1)))) (M.set b (.rows t sz (vb + 1) (l.take i ++ row :: l.drop i) false)) := by
 have hbl : b < M.length := getElem?_lt hb
 have hcl : c < M.length := getElem?_lt hc
 have hB : ∀ r ∈ l, ∀ a ∈ r, ltA M.length a := hMB _ (List.mem_of_getElem? hb)
 have hR : ∀ a ∈ row, ltA M.length a := hMB _ (List.mem_of_getElem? hc) row (by simp)
 have hfin : ∀ x ∈ M.set b (.rows t sz (vb + 1) (l.take i ++ row :: l.drop i) false), ltB (M.set b (.rows t sz (vb + 1) (l.take i ++ row :: l.drop i) false)).length x := by
  intro x hx
  rw [List.length_set]
  rcases List.mem_or_eq_of_mem_set hx with hx | rfl
  ·exact hMB x hx
  ·intro r hr
   rcases List.mem_append.1 hr with hr | hr
   ·exact hB r (List.mem_of_mem_take hr)
   ·rcases List.mem_cons.1 hr with rfl | hr
    ·exact hR
    ·exact hB r (List.mem_of_mem_drop hr)
 refine callR_intro hF (by simp) ?_
 by_cases hin : i = l.length
 ·subst hin
  refine V_sound ?_
  simp only [insC, go_sem, hb, hc]
  refine ⟨by omega, hbig, fin_own (.inr rfl) (Gh.refl _) [] (qs := [.one (.arr sz b (vb + 1) 0 (l.length + 1))]) (cnd := True) (by simp only [go_sem]) trivial (by simp only [go_sem]) (by simp only [go_sem]) (by simp only [List.length_set]; exact Nat.le_refl _) (by simp only [go_sem, List.length_set]; exact hbl) (by simpa only [go_sem] using hfin)⟩
 have hlt : i < l.length := by omega
 refine run_open hb (fun l' hl' hlm => ?_)
 obtain ⟨M1, hM1⟩ : ∃ M1, M1 = M.set b (.rows t sz vb (l ++ l') true) := ⟨_, rfl⟩
 have hlen : M1.length = M.length := by rw [hM1, List.length_set]
 have hb1 : M1[b]? = some (.rows t sz vb (l ++ l') true) := by rw [hM1, List.getElem?_set, if_pos rfl, if_pos hbl]
 have hc1 : M1[c]? = some (.rows tc sz vc [row] fc) := by rw [hM1, List.getElem?_set, if_neg hbc, hc]
 have hset : ∀ x, M1.set b x = M.set b x := fun x => by rw [hM1, List.set_set]
 rw [← hM1]
 refine V_sound ?_
 have hin' : ((i : Int) = (l.length : Int)) = False := by simp; omega
 have hlz : ¬ ((i : Int) = (l.length : Int) ∧ ¬ (i : Int) = 0) := by omega
 have hw : IntKind.i64.wrap ((l.length : Int) + 1) = ((l.length + 1 : Nat) : Int) := w64s (by omega)
 have hw2 : IntKind.i64.wrap ((i : Int) + 1) = ((i + 1 : Nat) : Int) := w64s (by omega)
 have hw3 : IntKind.i64.wrap (((l.length + 1 : Nat) : Int) - i) = ((l.length + 1 - i : Nat) : Int) := by rw [w64 (by omega) (by omega)]; omega
 have hin0 : (i = l.length) = False := by simp; omega
 have hin1 : (i = l.length + 1) = False := by simp; omega
 have hadd : i + (l.length + 1 - i) = l.length + 1 := by omega
 have hgA : ∀ x, (M1 ++ [x])[M1.length]? = some x := fun x => by simp
 have hbA : ∀ x, (M1 ++ [x])[b]? = some (.rows t sz vb (l ++ l') true) := fun x => by rw [List.getElem?_append_left (by omega)]; exact hb1
 have hcA : ∀ x, (M1 ++ [x])[c]? = some (.rows tc sz vc [row] fc) := fun x => by rw [List.getElem?_append_left (by omega)]; exact hc1
 have hsA : ∀ x y, (M1 ++ [x]).set M1.length y = M1 ++ [y] := fun x y => by simp
 have htk : [row].take (l.length + 1 - i) = [row] := List.take_of_length_le (by simp; omega)
 have hmin : min 1 (l.length + 1 - i) = 1 := by omega
 have hmin2 : min (l.length - i) (l.length + 1 - (i + 1)) = l.length - i := by omega
 by_cases hl0 : l' = []
 ·subst hl0
  simp only [List.append_nil] at hb1 hbA hM1 hlm
  simp only [insC, go_sem, hb1, hc1, hin', hlz, hw, hw2, hw3, hin0, hin1, hadd, hgA, hbA, hcA, hsA, htk, hmin, hmin2]
  obtain ⟨q1, q2, q3⟩ := insA (row := row) (Z := List.replicate (l.length + 1 - i) (List.map (fun v => AV.c (CV.v v)) z)) hlt (by simp)
  rw [q1, q2, q3]
  refine ⟨by omega, by omega, ⟨by omega, by omega, hbig⟩, by omega, by omega, by omega, by omega, by omega, ?_⟩
  refine fin_own (.inr rfl) (gh_move (b := b) (c := M1.length) 6 0 (l.length + 1) (hbA _) (hgA _) (by simp only [go_sem])) [.dead] (qs := [.one (.arr sz b (vb + 1) 0 (l.length + 1))]) (cnd := True) (by simp only [go_sem]) trivial ?_ (by simp only [go_sem]) (by simp only [List.length_set]; exact Nat.le_refl _) (by simp only [go_sem, List.length_set]; exact hbl) hfin
  show ((M1 ++ [_]).set M1.length .dead).set b _ = _
  rw [hsA, List.set_append_left _ _ (by omega), hset]
 ·have hll : 0 < l'.length := List.length_pos_iff.2 hl0
  have hroom : ((l ++ l').length < l.length + 1) = False := by simp only [List.length_append, eq_iff_iff, iff_false]; omega
  simp only [insC, go_sem, hb1, hc1, hin', hlz, hw, hw2, hw3, hin0, hin1, hadd, htk, hmin, hmin2, hroom]
  have hgS : ∀ x, (M1.set b x)[b]? = some x := fun x => by rw [List.getElem?_set, if_pos rfl, if_pos (by omega)]
  have hcS : ∀ x, (M1.set b x)[c]? = some (.rows tc sz vc [row] fc) := fun x => by rw [List.getElem?_set, if_neg hbc]; exact hc1
  have hsS : ∀ x y, (M1.set b x).set b y = M1.set b y := fun x y => List.set_set ..
  refine ⟨by omega, ⟨by omega, .inr (by rw [List.length_append]; omega)⟩, by omega, call1 (ovl_rc (ob := 0) (lb := 1) (oc := i + 1) (lc := l.length + 1 - (i + 1)) ho hsz (by rw [List.length_append]; omega) (fun e => hbc e.symm) hc1 hb1) (by simp only [go_sem]) (fun _ => rfl) ?_⟩
  simp only [go_sem, hb1, hc1, hin', hlz, hw, hw2, hw3, hin0, hin1, hadd, htk, hmin, hmin2, hroom, hgS, hcS, hsS]
  obtain ⟨q1, q2⟩ := insB (row := row) hlt hll
  refine ⟨by omega, by omega, ⟨by rw [List.length_append]; omega, by rw [List.length_append]; omega⟩, by omega, q2, ?_⟩
  have hg := fun (e : Nat → SV) => gh_trunc (e := e) (n := 95) (m := M.length) (l.length + 1) (hgS (.rows t sz vb (List.take i (List.take (i + 1) (l ++ l') ++ List.take (l.length + 1 - (i + 1)) (List.take (l.length + 1 - i) (List.drop i (l ++ l'))) ++ List.drop (i + 1 + min (l.length + 1 - i) (l.length + 1 - (i + 1))) (l ++ l')) ++ [row] ++ List.drop (i + 1) (List.take (i + 1) (l ++ l') ++ List.take (l.length + 1 - (i + 1)) (List.take (l.length + 1 - i) (List.drop i (l ++ l'))) ++ List.drop (i + 1 + min (l.length + 1 - i) (l.length + 1 - (i + 1))) (l ++ l'))) true))
  simp only [q1, hsS] at hg
  refine fin_own (.inr rfl) ((hg _).trans (gh_move (b := b) (c := b) 6 0 (l.length + 1) (hgS _) (hgS _) (by simp only [go_sem]))) [] (qs := [.one (.arr sz b (vb + 1) 0 (l.length + 1))]) (cnd := True) (by simp only [go_sem]) trivial ?_ (by simp only [go_sem]) (by simp only [List.length_set]; exact Nat.le_refl _) (by simp only [go_sem, List.length_set]; exact hbl) hfin
  show ((M1.set b _).set b .dead).set b _ = _
  rw [hsS, hsS, hset, List.append_nil]
end
end Go.Proofs.YtpdcpdngckpgbaaGreatAbs
end
section
namespace Go.Proofs.YtpdcpdngckpgbaaGreatAbs
open Go Go.RowKit
theorem callR_frame {P : Program} {f : Nat} {ps : List Pt} {r : SV} {M M' : List Blk} (h : CallR P M f ps r M') (hl : M'.length = M.length) (hps : ∀ q ∈ ps, ltP M.length q) (hB : ∀ x ∈ M, ltB M.length x) (D : List Blk) : CallR P (M ++ D) f ps r (M' ++ D) := by
 intro I σ w vals hG hm hvl hvr
 have hlen : σ.length = M.length + D.length := by have := hm.len; simpa using this
 obtain ⟨hm1, hh1⟩ := Mem.drop hm hB
 refine Comes.mono (h I (σ.take M.length) w vals hG hm1 hvl (fun k q x hq hx => RelP_take (hps q (List.mem_of_getElem? hq)) (hvr k q x hq hx))) ?_
 rintro v w' ⟨I', σ', hr, hev⟩
 have hl1 : (σ.take M.length).length = M.length := by simp; omega
 have hl2 : σ'.length = M.length := by have := hev.mem.len; omega
 have hD : ∀ (b : Nat) (x : Blk) (p : Plc), D[b]? = some x → (σ.drop M.length)[b]? = some p → (M ++ D)[M.length + b]? = some x ∧ σ[M.length + b]? = some p := by
  intro b x p hx hp
  rw [List.getElem?_drop] at hp
  exact ⟨by rw [List.getElem?_append_right (by omega)]; simpa using hx, hp⟩
 have hM : ∀ (b : Nat) (x : Blk) (p : Plc), M[b]? = some x → (σ.take M.length)[b]? = some p → (M ++ D)[b]? = some x ∧ σ[b]? = some p := by
  intro b x p hx hp
  have hb := getElem?_lt hx
  rw [List.getElem?_take, if_pos hb] at hp
  exact ⟨by rw [List.getElem?_append_left hb]; exact hx, hp⟩
 -- a further block is none of those that are told
 have hno : ∀ (b : Nat) (x : Blk) (p : Plc) (g : Nat), D[b]? = some x → x.live = true → (σ.drop M.length)[b]? = some p → p.blk = some g → ¬ Has (σ.take M.length) M g := by
  rintro b x p g hx hlv hp hg ⟨b', x', p', hx', hlv', hp', hg'⟩
  obtain ⟨k1, k2⟩ := hD b x p hx hp
  obtain ⟨k3, k4⟩ := hM b' x' p' hx' hp'
  have := hm.inj _ _ x x' p p' g k1 k3 hlv hlv' k2 k4 hg hg'
  have hb' := getElem?_lt hx'
  omega
 have hlt : ∀ (b : Nat) (x : Blk) (p : Plc) (g : Nat), D[b]? = some x → x.live = true → (σ.drop M.length)[b]? = some p → p.blk = some g → g < w.heap.size := by
  intro b x p g hx hlv hp hg
  obtain ⟨k1, k2⟩ := hD b x p hx hp
  exact RelB_lt (hm.blk _ x p k1 k2) hlv hg
 have hext : ExtP σ (σ' ++ σ.drop M.length) := by
  intro b p hp
  by_cases hb : b < M.length
  ·obtain ⟨p', hp', hq⟩ := hev.extP b p (by rw [List.getElem?_take, if_pos hb]; exact hp)
   exact ⟨p', by rw [List.getElem?_append_left (by omega)]; exact hp', hq⟩
  ·refine ⟨p, ?_, Nat.le_refl _, fun _ => rfl⟩
   rw [List.getElem?_append_right (by omega), List.getElem?_drop, hl2, show M.length + (b - M.length) = b by omega]
   exact hp
 have hsplit : ∀ (b : Nat) (x : Blk) (p : Plc), (M' ++ D)[b]? = some x → (σ' ++ σ.drop M.length)[b]? = some p → (M'[b]? = some x ∧ σ'[b]? = some p) ∨ (M.length ≤ b ∧ D[b - M.length]? = some x ∧ (σ.drop M.length)[b - M.length]? = some p) := by
  intro b x p hx hp
  by_cases hb : b < M.length
  ·rw [List.getElem?_append_left (by omega)] at hx hp
   exact .inl ⟨hx, hp⟩
  ·rw [List.getElem?_append_right (by omega)] at hx hp
   rw [hl] at hx
   rw [hl2] at hp
   exact .inr ⟨by omega, hx, hp⟩
 have hown : ∀ g, Has σ' M' g → ∀ (b : Nat) (x : Blk) (p : Plc), D[b]? = some x → x.live = true → (σ.drop M.length)[b]? = some p → p.blk = some g → False := by
  intro g hg b x p hx hlv hp hpg
  rcases hev.own g hg with h1 | h1
  ·exact hno b x p g hx hlv hp hpg h1
  ·have := hlt b x p g hx hlv hp hpg
   omega
 refine ⟨I', σ' ++ σ.drop M.length, RelS_mono (ExtI.refl _) (ExtP.append _ _) hr, ⟨hev.extI, hext, ⟨?_, ?_, ?_, ?_, hev.mem.imm⟩, ?_, ?_, ?_⟩⟩
 ·simp; omega
 ·intro b x p hx hp
  rcases hsplit b x p hx hp with ⟨h1, h2⟩ | ⟨h0, h1, h2⟩
  ·exact RelB_mono (ExtI.refl _) (ExtP.append _ _) (fun _ _ _ => rfl) (hev.mem.blk b x p h1 h2)
  ·obtain ⟨k1, k2⟩ := hD _ x p h1 h2
   refine RelB_mono hev.extI hext (fun g hlv hg => ?_) (hm.blk _ x p k1 k2)
   exact hev.keep.block g (hlt _ x p g h1 hlv h2 hg) (hno _ x p g h1 hlv h2 hg)
 ·intro b b' x x' p p' g hx hx' lx lx' hp hp' hg hg'
  rcases hsplit b x p hx hp with ⟨h1, h2⟩ | ⟨h0, h1, h2⟩ <;> rcases hsplit b' x' p' hx' hp' with ⟨h1', h2'⟩ | ⟨h0', h1', h2'⟩
  ·exact hev.mem.inj b b' x x' p p' g h1 h1' lx lx' h2 h2' hg hg'
  ·exact (hown g ⟨b, x, p, h1, lx, h2, hg⟩ _ x' p' h1' lx' h2' hg').elim
  ·exact (hown g ⟨b', x', p', h1', lx', h2', hg'⟩ _ x p h1 lx h2 hg).elim
  ·obtain ⟨k1, k2⟩ := hD _ x p h1 h2
   obtain ⟨k3, k4⟩ := hD _ x' p' h1' h2'
   have := hm.inj _ _ x x' p p' g k1 k3 lx lx' k2 k4 hg hg'
   omega
 ·intro b x p g hx lx hp hg ad had
  rcases hsplit b x p hx hp with ⟨h1, h2⟩ | ⟨h0, h1, h2⟩
  ·exact hev.mem.ap b x p g h1 lx h2 hg ad had
  ·obtain ⟨k1, k2⟩ := hD _ x p h1 h2
   cases hI : I' ad with
   | none => rfl
   | some y =>
    exfalso
    rcases hev.fresh ad y hI with h3 | h3 | h3
    ·rw [hm.ap _ x p g k1 lx k2 hg ad had] at h3
     cases h3
    ·have := hlt _ x p g h1 lx h2 hg
     omega
    ·rw [had] at h3
     exact hno _ x p g h1 lx h2 hg h3
 ·exact hev.keep.mono (fun k _ h => hh1 k h)
 ·rintro g ⟨b, x, p, hx, lx, hp, hg⟩
  rcases hsplit b x p hx hp with ⟨h1, h2⟩ | ⟨h0, h1, h2⟩
  ·rcases hev.own g ⟨b, x, p, h1, lx, h2, hg⟩ with h3 | h3
   ·exact .inl (hh1 g h3)
   ·exact .inr h3
  ·obtain ⟨k1, k2⟩ := hD _ x p h1 h2
   exact .inl ⟨_, x, p, k1, lx, k2, hg⟩
 ·intro ad x hx
  rcases hev.fresh ad x hx with h1 | h1 | h1
  ·exact .inl h1
  ·exact .inr (.inl h1)
  ·exact .inr (.inr (hh1 _ h1))
end Go.Proofs.YtpdcpdngckpgbaaGreatAbs
end
section
namespace Go.Proofs.YtpdcpdngckpgbaaGreatAbs
open Go Go.RowKit Go.ChangeShapes
structure OpensC (P : Program) (t : TypeId) {α : Type} (sz : Nat) (c : α → Nat → CV) (wf : α → Prop) : Prop where mk ::
 out : ∀ {H : Type} (enc : TypeId × Value → H) (w : World) (base : Nat) (spare : Nat → Bool) (held : Bool) (fuel : Nat) (cs : List Value) (x : DataW H × List MemPlace),
  DataW.trod enc P w base spare held fuel t cs = some x → (∀ n ∈ x.1.weights P t, n ≤ reachBytes) → ∃ y : α, wf y ∧ cs.length = sz ∧ ∀ (k : Nat) (u : Value), cs[k]? = some u → RelC (fun ad => w.cell? ad) (c y k) u
def CInt (k : IntKind) (n : Int) (_ : Nat) : CV := .v (.int k n)
def CStr (s : ByteArray) (_ : Nat) : CV := .v (.string s)
def CSl {α : Type} [Inhabited α] (sz : Nat) (c : α → Nat → CV) (l : List α) (_ : Nat) : CV := .imm sz l.length fun i j => c (l.getD i default) j
def CPair {α β : Type} (sz : Nat) (a : α → Nat → CV) (b : β → Nat → CV) (y : α × β) (k : Nat) : CV := bif decide (k < sz) then a y.1 k else b y.2 (k - sz)
def WInt (k : IntKind) (n : Int) : Prop := (Lit.int k n).wf = true
def WStr (s : ByteArray) : Prop := s.size ≤ 140737488351232
def WSlice (bytes : Nat) {α : Type} (wf : α → Prop) (xs : List α) : Prop := xs.length * bytes ≤ 140737488351232 ∧ ∀ x ∈ xs, wf x
def WPair {α β : Type} (a : α → Prop) (b : β → Prop) (y : α × β) : Prop := a y.1 ∧ b y.2
theorem opens_int {P : Program} {t : TypeId} {k : IntKind} (ht : P.underlying t = some (.int k)) : OpensC P t 1 (CInt k) (WInt k) := by
 refine ⟨?_⟩
 intro H enc w base spare held fuel cs x h _
 obtain ⟨n, rfl, _, hw⟩ := DataW.trod_int ht h
 refine ⟨n, hw, rfl, fun k u hu => ?_⟩
 match k, hu with
 | 0, hu => simp at hu; subst hu; exact ⟨rfl, rfl⟩
theorem opens_string {P : Program} {t : TypeId} (ht : P.underlying t = some .string) : OpensC P t 1 CStr WStr := by
 refine ⟨?_⟩
 intro H enc w base spare held fuel cs x h hw
 obtain ⟨n, rfl, rfl, _⟩ := DataW.trod_string ht h
 refine ⟨n, ?_, rfl, fun k u hu => ?_⟩
 ·have := hw n.data.toList.length (by simp [DataW.weights])
  have e : n.data.toList.length = n.size := Array.length_toList
  rw [e] at this
  exact this
 match k, hu with
 | 0, hu => simp at hu; subst hu; exact ⟨rfl, rfl⟩
theorem weightsAll_mem {H : Type} {P : Program} {e : TypeId} : ∀ {l : List (DataW H)} {d : DataW H}, d ∈ l → ∀ n ∈ d.weights P e, n ∈ DataW.weightsAll P e l
 | d0 :: l, d, hd, n, hn => by
  simp only [DataW.weightsAll, List.mem_append]
  rcases List.mem_cons.1 hd with rfl | hd
  ·exact .inl hn
  ·exact .inr (weightsAll_mem hd n hn)
 | [], d, hd, _, _ => by simp at hd
theorem opens_slice {P : Program} {t e : TypeId} {α : Type} [Inhabited α] {sz : Nat} {c : α → Nat → CV} {wf : α → Prop} (ht : P.underlying t = some (.slice e)) (bytes : Nat) (hby : P.bytesOf e = bytes) (hsz : P.cellsOf e = sz) (he : OpensC P e sz c wf) :
  OpensC P t 1 (CSl sz c) (WSlice bytes wf) := by
 refine ⟨?_⟩
 intro H enc w base spare held fuel cs x h hw
 rcases DataW.trod_slice ht h with ⟨rfl, rfl⟩ | ⟨a, len, cap, elems, rest, n, _, rfl, rfl, hb, hl, hm, hlen, hel, hsp, hns⟩
 ·refine ⟨[], ⟨by simp, by simp⟩, rfl, fun k u hu => ?_⟩
  match k, hu with
  | 0, hu => simp at hu; subst hu; exact ⟨none, 0, rfl, Nat.le_refl _, .inl rfl⟩
 ·have hwt : ∀ m ∈ (DataW.slice (elems.map (·.1)) (rest.map (·.1))).weights P t, m ≤ reachBytes := hw
  have key : ∀ i, i < len → ∃ y, wf y ∧ ∃ c0 : List Value, c0.length = sz ∧ (∀ j u, c0[j]? = some u → RelC (fun ad => w.cell? ad) (c y j) u) ∧ ∀ j u, c0[j]? = some u → w.cell? (a.add (i * sz + j)) = some u := by
   intro i hi
   have h1 := hel i hi
   have hi' : i < elems.length := by omega
   rw [List.getElem?_eq_getElem hi', Option.bind_eq_some_iff] at h1
   obtain ⟨c0, hc, h2⟩ := h1
   obtain ⟨hbb, hcl, hcell⟩ := World.cells?_some hc
   have hwt2 : ∀ m ∈ (elems[i].1).weights P e, m ≤ reachBytes := by
    intro m hmm
    refine hwt m ?_
    simp only [DataW.weights, ht]
    refine List.mem_cons_of_mem _ (List.mem_append_left _ (weightsAll_mem (d := elems[i].1) ?_ m hmm))
    exact List.mem_map.2 ⟨elems[i], List.getElem_mem hi', rfl⟩
   obtain ⟨y, hy, hcs, hk⟩ := he.out enc w base spare held n c0 elems[i] h2 hwt2
   refine ⟨y, hy, c0, hcs, hk, fun j u hu => ?_⟩
   have hj : j < P.cellsOf e := by have := (List.getElem?_eq_some_iff.1 hu).1; omega
   rw [← hsz, ← Addr.add_add, hcell j hj, hu]
  obtain ⟨ys, hyl, hys⟩ := choose_list len key
  refine ⟨ys, ⟨?_, ?_⟩, rfl, fun k u hu => ?_⟩
  ·have := hwt ((elems.length + rest.length) * P.bytesOf e) (by simp [DataW.weights, ht])
   rw [hby] at this
   have h3 : ys.length * bytes ≤ (elems.length + rest.length) * bytes := Nat.mul_le_mul_right _ (by omega)
   have h4 : reachBytes = 140737488351232 := rfl
   omega
  ·intro y hy
   obtain ⟨i, hi⟩ := List.getElem?_of_mem hy
   exact (hys i y hi).1
  ·match k, hu with
   | 0, hu =>
    simp at hu
    subst hu
    refine ⟨some a, cap, by rw [hyl], by omega, .inr ⟨a, rfl, fun i hi j hj => ?_⟩⟩
    have hi2 : i < ys.length := hi
    obtain ⟨_, c0, hcs, hk, hcell⟩ := hys i ys[i] (List.getElem?_eq_getElem hi2)
    have hj2 : j < c0.length := by omega
    refine ⟨c0[j], hcell j _ (List.getElem?_eq_getElem hj2), ?_⟩
    have : ys.getD i default = ys[i] := by simp [List.getD_eq_getElem?_getD, hi2]
    show RelC _ (c (ys.getD i default) j) _
    rw [this]
    exact hk j _ (List.getElem?_eq_getElem hj2)
structure OpensF (P : Program) (fs : List Field) (off : Nat) {α : Type} (sz : Nat) (c : α → Nat → CV) (wf : α → Prop) : Prop where mk ::
 out : ∀ {H : Type} (enc : TypeId × Value → H) (w : World) (base : Nat) (spare : Nat → Bool) (held : Bool) (fuel : Nat) (cs : List Value) (xs : List (DataW H × List MemPlace)),
  cs.length = off + sz → xs.length = fs.length → (∀ (i : Nat) (f : Field), fs[i]? = some f → DataW.trod enc P w base spare held fuel f.type ((cs.drop f.offset).take (P.cellsOf f.type)) = xs[i]?) →
  (∀ n ∈ DataW.weightsEach P (fs.map (·.type)) (xs.map (·.1)), n ≤ reachBytes) → ∃ y : α, wf y ∧ ∀ (k : Nat) (u : Value), cs[off + k]? = some u → RelC (fun ad => w.cell? ad) (c y k) u
theorem opensF_one {P : Program} {f : Field} {off sz : Nat} {α : Type} {c : α → Nat → CV} {wf : α → Prop} (ho : f.offset = off) (hsz : P.cellsOf f.type = sz) (h : OpensC P f.type sz c wf) : OpensF P [f] off sz c wf := by
 refine ⟨?_⟩
 intro H enc w base spare held fuel cs xs hl hxl hx hw
 have h0 := hx 0 f rfl
 obtain ⟨x0, rfl⟩ : ∃ x0, xs = [x0] := by
  match xs, hxl with
  | [x0], _ => exact ⟨x0, rfl⟩
 simp only [List.getElem?_cons_zero] at h0
 rw [ho, hsz, List.take_of_length_le (by simp; omega)] at h0
 obtain ⟨y, hy, hcl, hr⟩ := h.out enc w base spare held fuel _ x0 h0 (fun n hn => hw n (by simp [DataW.weightsEach, hn]))
 exact ⟨y, hy, fun k u hu => hr k u (by rw [List.getElem?_drop]; exact hu)⟩
theorem opensF_cons {P : Program} {f : Field} {fs : List Field} {off sz sz' : Nat} {α β : Type} {c : α → Nat → CV} {c' : β → Nat → CV} {wf : α → Prop} {wf' : β → Prop} (ho : f.offset = off) (hsz : P.cellsOf f.type = sz) (h : OpensC P f.type sz c wf)
  (hs : OpensF P fs (off + sz) sz' c' wf') : OpensF P (f :: fs) off (sz + sz') (CPair sz c c') (WPair wf wf') := by
 refine ⟨?_⟩
 intro H enc w base spare held fuel cs xs hl hxl hx hw
 obtain ⟨x0, xr, rfl⟩ : ∃ x0 xr, xs = x0 :: xr := by
  match xs, hxl with
  | x0 :: xr, _ => exact ⟨x0, xr, rfl⟩
 have h0 := hx 0 f rfl
 simp only [List.getElem?_cons_zero] at h0
 rw [ho, hsz] at h0
 obtain ⟨y0, hy0, hc0, hr0⟩ := h.out enc w base spare held fuel _ x0 h0 (fun n hn => hw n (by simp [DataW.weightsEach, hn]))
 obtain ⟨y1, hy1, hr1⟩ := hs.out enc w base spare held fuel cs xr (by omega) (by simpa using hxl) (fun i g hg => by have := hx (i + 1) g (by simpa using hg); simpa using this) (fun n hn => hw n (by simp only [List.map_cons, DataW.weightsEach, List.mem_append]; exact .inr hn))
 refine ⟨(y0, y1), ⟨hy0, hy1⟩, fun k u hu => ?_⟩
 unfold CPair
 by_cases hk : k < sz
 ·simp only [hk, decide_true, cond_true]
  exact hr0 k u (by rw [List.getElem?_take, if_pos hk, List.getElem?_drop]; exact hu)
 ·simp only [hk, decide_false, cond_false]
  refine hr1 (k - sz) u ?_
  rw [show off + sz + (k - sz) = off + k by omega]
  exact hu
theorem opens_struct {P : Program} {t : TypeId} {fs : Array Field} {sz : Nat} {α β : Type} {c : β → Nat → CV} {c' : α → Nat → CV} {wf : β → Prop} {wf' : α → Prop} (ht : P.underlying t = some (.struct fs)) (hsz : P.cellsOf t = sz) (hs : OpensF P fs.toList 0 sz c wf)
  (g : β → α) (hc : ∀ y k, k < sz → c y k = c' (g y) k) (hw : ∀ y, wf y → wf' (g y)) : OpensC P t sz c' wf' := by
 refine ⟨?_⟩
 intro H enc w base spare held fuel cs x h hwt
 obtain ⟨xs, n, rfl, rfl, hl, hxl, hx⟩ := DataW.trod_struct ht h
 obtain ⟨y, hy, hr⟩ := hs.out enc w base spare held n cs xs (by omega) (by simpa using hxl) (fun i g hg => hx i g (by simpa using hg)) (fun m hm => hwt m (by simpa [DataW.weights, ht] using hm))
 refine ⟨g y, hw y hy, by omega, fun k u hu => ?_⟩
 have := (List.getElem?_eq_some_iff.1 hu).1
 rw [← hc y k (by omega)]
 exact hr k u (by rw [Nat.zero_add]; exact hu)
theorem opens_array2 {P : Program} {t e : TypeId} {sz : Nat} {α : Type} {c : α → Nat → CV} {wf : α → Prop} (ht : P.underlying t = some (.array 2 e)) (hsz : P.cellsOf t = sz + sz) (hse : P.cellsOf e = sz) (he : OpensC P e sz c wf) : OpensC P t (sz + sz) (CPair sz c c) (WPair wf wf) := by
 refine ⟨?_⟩
 intro H enc w base spare held fuel cs x h hwt
 obtain ⟨xs, n, rfl, rfl, hl, hxl, hx⟩ := DataW.trod_array ht h
 match xs, hxl with
 | [x0, x1], _ =>
  have h0 := hx 0 (by omega)
  have h1 := hx 1 (by omega)
  simp only [hse, Nat.zero_mul, Nat.one_mul, List.drop_zero, List.getElem?_cons_zero, List.getElem?_cons_succ] at h0 h1
  obtain ⟨y0, hy0, hc0, hr0⟩ := he.out enc w base spare held n _ x0 h0 (fun m hm => hwt m (by
   simp only [DataW.weights, ht, List.map_cons, List.map_nil]
   exact weightsAll_mem (d := x0.1) (List.mem_cons_self) m hm))
  obtain ⟨y1, hy1, hc1, hr1⟩ := he.out enc w base spare held n _ x1 h1 (fun m hm => hwt m (by
   simp only [DataW.weights, ht, List.map_cons, List.map_nil]
   exact weightsAll_mem (d := x1.1) (List.mem_cons_of_mem _ List.mem_cons_self) m hm))
  refine ⟨(y0, y1), ⟨hy0, hy1⟩, by omega, fun k u hu => ?_⟩
  have hk2 := (List.getElem?_eq_some_iff.1 hu).1
  unfold CPair
  by_cases hk : k < sz
  ·simp only [hk, decide_true, cond_true]
   exact hr0 k u (by rw [List.getElem?_take, if_pos hk]; exact hu)
  ·simp only [hk, decide_false, cond_false]
   refine hr1 (k - sz) u ?_
   rw [List.getElem?_take, if_pos (by omega), List.getElem?_drop, show sz + (k - sz) = k by omega]
   exact hu
theorem slice_arg {H : Type} {enc : TypeId × Value → H} {P : Program} {w : World} {base : Nat} {spare : Nat → Bool} {held : Bool} {t e : TypeId} {α : Type} {c : α → Nat → CV} {wf : α → Prop} {v : Value} {D : DataW H} {ps : List MemPlace}
  (ho : OpensC P t 1 c wf) (ht : P.underlying t = some (.slice e)) (hv : Value.okWide P w .any base t v) (h : DataW.Trod enc P w 0 spare held t v D ps) (hw : ∀ n ∈ D.weights P t, n ≤ reachBytes) :
  ∃ y : α, wf y ∧ RelP (fun ad => w.cell? ad) [] (.one (.c (c y 0))) v := by
 obtain ⟨fuel, hf⟩ := h
 obtain ⟨y, hy, hl, hr⟩ := ho.out enc w 0 spare held fuel _ (D, ps) hf hw
 obtain ⟨A', n', c', rfl⟩ := WideShapes.okWide_slice ht hv
 exact ⟨y, hy, hr 0 _ rfl⟩
def RelPs (w : World) : List Pt → List Value → Prop
 | [], [] => True
 | q :: qs, x :: xs => RelP (fun ad => w.cell? ad) [] q x ∧ RelPs w qs xs
 | _, _ => False
theorem RelPs.length {w : World} : ∀ {ps : List Pt} {vs : List Value}, RelPs w ps vs → vs.length = ps.length
 | [], [], _ => rfl
 | q :: qs, x :: xs, h => by simp [RelPs.length h.2]
theorem RelPs.get {w : World} : ∀ {ps : List Pt} {vs : List Value}, RelPs w ps vs → ∀ (k : Nat) (q : Pt) (x : Value), ps[k]? = some q → vs[k]? = some x → RelP (fun ad => w.cell? ad) [] q x
 | q :: qs, y :: ys, h, 0, p, x, hp, hx => by
  injection hp with hp; injection hx with hx; subst hp; subst hx; exact h.1
 | q :: qs, y :: ys, h, k + 1, p, x, hp, hx => RelPs.get h.2 k p x hp hx
theorem GI_some {P : Program} {I : Im} {g : Nat} {m : Int} (h : P.globals.findIdx? (fun x => x.name == "internal/bytealg.MaxLen") = some g) (hI : I ⟨g, 0, none⟩ = some (.int .i64 m)) : GI P I := fun g' hg => by rw [h] at hg; injection hg with hg; subst hg; exact ⟨m, hI⟩
theorem law_calls {P : Program} {f n : Nat} {c : C} {rvs : List RV} {ps : List Pt} (hF : Fun P f n c rvs) {b : Bool} (h : CallR P [] f ps (.b b) []) {w : World} {vals : Array Value} (hG : GI P (fun ad => w.cell? ad)) (hr : RelPs w ps vals.toList) : Calls P f vals w fun e w' => e = .returned (.bool b) ∧ Below w.heap.size w w' := by
 have hm : Mem (fun ad => w.cell? ad) [] [] w := ⟨rfl, fun b x p h => by simp at h, fun b b' x x' p p' g h => by simp at h, fun b x p g h => by simp at h, fun a x h => h⟩
 obtain ⟨fn, code, hf, hname, hb, rfl, hc, hrs⟩ := hF.ex
 have hno : ∀ g, ¬ Has ([] : List Plc) [] g := by rintro g ⟨b, x, p, h, _⟩; simp at h
 rcases h _ [] w vals hG hm (by have := hr.length; simpa using this) (fun k q x hq hx => hr.get k q x hq (by simpa using hx)) with ⟨_, hc⟩ | ⟨v, w', hrun, _⟩
 ·refine hc.mono ?_
  rintro e w' ⟨v, rfl, I', σ', ⟨rfl, _⟩, hev⟩
  exact ⟨rfl, hev.keep.os, hev.keep.tape, hev.keep.output, hev.keep.size, fun k hk => hev.keep.block k hk (hno k)⟩
 ·exfalso
  have hrun2 : (callFunc f vals).run P w = .ok (.enter f vals) w := by
   simp only [callFunc, program, Sem.run, Sem.run_bind, Sem.run_pure, Result.andThen_ok, hf]
   simp only [hname, Bool.false_eq_true, if_false]
   have hb : fn.body.isNone = false := by rw [hb]; rfl
   simp [hb]
  rw [hrun] at hrun2
  simp at hrun2
end Go.Proofs.YtpdcpdngckpgbaaGreatAbs
end
