/- The abstract machine: a code's reckoning by rewriting. -/
import Derived.Test.YtioefecijidgkaaAbs14
set_option linter.unusedVariables false
set_option linter.unusedSimpArgs false
namespace Go.Proofs.YtioefecijidgkaaAbs
open Go Go.RowKit
section
variable {P : Program} {d : Bool} {dst : Option Nat} {op : O} {os : List OpL} {s : St} {K : St → Prop} {g : Nat} {want : Bool}
theorem ev_op_iff {e : Nat → SV} {M : List Blk} (hop : isCall op = false) : runOps P d (⟨dst, op, none⟩ :: os) ⟨e, M⟩ K = cont P d dst os e K (out e M true op) := by
  refine propext ⟨?_, ev_op hop⟩
  rintro ⟨r, M', h1, h2⟩
  obtain ⟨c, ho, hc⟩ := (stp0_out hop).1 h1
  show cont P d dst os e K (out e M true op)
  rw [ho]
  exact ⟨hc, h2⟩
theorem ev_gd_imp {e : Nat → SV} {M : List Blk} (hop : isCall op = false) (h : contC P d dst op os e M K (gcond (e g) want)) : runOps P d (⟨dst, op, some (g, want)⟩ :: os) ⟨e, M⟩ K := ev_gd hop h
/-- A region's operations, up to the first call. -/
def evs (P : Program) (d : Bool) : List OpL → (Nat → SV) → List Blk → (St → Prop) → Prop
  | [], e, M, K => K ⟨e, M⟩
  | ⟨dst, op, gd⟩ :: os, e, M, K =>
    bif isCall op then runOps P d (⟨dst, op, gd⟩ :: os) ⟨e, M⟩ K else
    match gd with
    | none =>
      match out e M true op with
      | some (r, M', c) => c ∧ evs P d os (put e dst r) M' K
      | none => False
    | some (g, want) =>
      match gcond (e g) want with
      | some c =>
        match out e M c op with
        | some (r, M', cnd) => (c = true → cnd) ∧ (c = false → M' = M) ∧ evs P d os (put e dst (.g c r)) M' K
        | none => False
      | none => False
theorem evs_sound : ∀ {os : List OpL} {e : Nat → SV} {M : List Blk}, evs P d os e M K → runOps P d os ⟨e, M⟩ K
  | [], e, M, h => h
  | ⟨dst, op, gd⟩ :: os, e, M, h => by
    cases hc : isCall op with
    | true => simpa [evs, hc] using h
    | false =>
      cases gd with
      | none =>
        simp only [evs, hc, cond_false] at h
        cases ho : out e M true op with
        | none => rw [ho] at h; exact h.elim
        | some x =>
          obtain ⟨r, M', c⟩ := x
          rw [ho] at h
          exact ⟨r, M', (stp0_out hc).2 ⟨c, ho, h.1⟩, evs_sound h.2⟩
      | some gw =>
        obtain ⟨g, want⟩ := gw
        simp only [evs, hc, cond_false] at h
        cases hg : gcond (e g) want with
        | none => rw [hg] at h; exact h.elim
        | some c =>
          rw [hg] at h
          have h : (match out e M c op with
            | some (r, M', cnd) => (c = true → cnd) ∧ (c = false → M' = M) ∧ evs P d os (put e dst (.g c r)) M' K
            | none => False) := h
          cases ho : out e M c op with
          | none => rw [ho] at h; exact h.elim
          | some x =>
            obtain ⟨r, M', cnd⟩ := x
            rw [ho] at h
            exact ⟨.g c r, M', ⟨c, r, hg, rfl, fun hc' => (stp0_out hc).2 ⟨cnd, ho, h.1 hc'⟩, h.2.1⟩, evs_sound h.2.2⟩
end
section
variable {P : Program} {n m : Nat} {K : Exit → St → Prop}
/-- A code's reckoning, up to the first branch, loop or call. -/
def W (P : Program) (n m : Nat) : C → (Nat → SV) → List Blk → (Exit → St → Prop) → Prop
  | .skip, e, M, K => K .normal ⟨e, M⟩
  | .ret, e, M, K => K .ret ⟨e, M⟩
  | .exit id, e, M, K => K (.exit id) ⟨e, M⟩
  | .reg d ops, e, M, K => evs P d ops e M (K .normal)
  | .seq a b, e, M, K => W P n m a e M (andThen (fun s => W P n m b s.env s.M K) K)
  | .block id c, e, M, K => W P n m c e M (inBlock id K)
  | .scope c, e, M, K => W P n m c e M (inScope K)
  | .cond x a b, e, M, K =>
    match raw e x with
    | .p (.one (.c (.v (.bool t)))) => (t = true → W P n m a e M K) ∧ (t = false → W P n m b e M K)
    | _ => False
  | .loop c, e, M, K => Run P n m (.loop c) ⟨e, M⟩ K
  | .rgx T ops, e, M, K => Run P n m (.rgx T ops) ⟨e, M⟩ K
theorem W_sound : ∀ {c : C} {e : Nat → SV} {M : List Blk} {K : Exit → St → Prop}, W P n m c e M K → Run P n m c ⟨e, M⟩ K
  | .skip, e, M, K, h => run_skip h
  | .ret, e, M, K, h => run_ret h
  | .exit id, e, M, K, h => run_exit h
  | .reg d ops, e, M, K, h => run_reg (evs_sound h)
  | .seq a b, e, M, K, h => run_seq (run_mono (fun ex s hs => by cases ex <;> first | exact W_sound (c := b) hs | exact hs) (W_sound (c := a) h))
  | .block id c, e, M, K, h => run_block (W_sound (c := c) h)
  | .scope c, e, M, K, h => run_scope (W_sound (c := c) h)
  | .cond x a b, e, M, K, h => by
    unfold W at h
    split at h
    · rename_i t hx
      exact run_cond hx (fun ht => W_sound (h.1 ht)) (fun ht => W_sound (h.2 ht))
    · exact h.elim
  | .loop c, e, M, K, h => h
  | .rgx T ops, e, M, K, h => h
end
@[go_sem] theorem strip_p (c : Bool) (q : Pt) : strip c (.p q) = .p q := rfl
@[go_sem] theorem strip_any (c : Bool) : strip c .any = .any := rfl
@[go_sem] theorem strip_tup (c : Bool) (l : List Pt) : strip c (.tup l) = .tup l := rfl
@[go_sem] theorem strip_g (c : Bool) (s : SV) : strip c (.g c s) = strip c s := by
  show (if (!c || c) = true then strip c s else .g c s) = _
  rw [if_pos (by cases c <;> rfl)]
@[go_sem] theorem strip_g1 (a b : Bool) (s : SV) : strip (a && b) (.g a s) = strip (a && b) s := by
  show (if (!(a && b) || a) = true then strip (a && b) s else .g a s) = _
  rw [if_pos (by cases a <;> cases b <;> rfl)]
@[go_sem] theorem strip_g2 (a b : Bool) (s : SV) : strip (a && b) (.g b s) = strip (a && b) s := by
  show (if (!(a && b) || b) = true then strip (a && b) s else .g b s) = _
  rw [if_pos (by cases a <;> cases b <;> rfl)]
@[go_sem] theorem strip_g3 (a b c : Bool) (s : SV) : strip (a && b && c) (.g a s) = strip (a && b && c) s := by
  show (if (!(a && b && c) || a) = true then strip (a && b && c) s else .g a s) = _
  rw [if_pos (by cases a <;> cases b <;> cases c <;> rfl)]
@[go_sem] theorem strip_gt (c : Bool) (s : SV) : strip c (.g true s) = strip c s := by
  show (if (!c || true) = true then strip c s else .g true s) = _
  rw [if_pos (by cases c <;> rfl)]
@[go_sem] theorem strip_gp (c : Bool) (q : Pt) (h : c = true) : strip true (.g c (.p q)) = .p q := by subst h; rfl
@[go_sem] theorem bcond_t (t y : Bool) : bcond t true y = (t || y) := by cases t <;> rfl
@[go_sem] theorem bcond_f (t x : Bool) : bcond t x false = (t && x) := by cases t <;> rfl
@[go_sem] theorem upd_get (e : Nat → SV) (i j : Nat) (v : SV) : upd e i v j = if j = i then v else e j := rfl
@[go_sem] theorem put_some (e : Nat → SV) (i : Nat) (v : SV) : put e (some i) v = upd e i v := rfl
@[go_sem] theorem put_none (e : Nat → SV) (v : SV) : put e none v = e := rfl
@[go_sem] theorem raw_t (e : Nat → SV) (i : Nat) : raw e (.t i) = e i := rfl
@[go_sem] theorem raw_k (e : Nat → SV) (x : Pt) : raw e (.k x) = .p x := rfl
@[go_sem] theorem envOf_nil (k : Nat) : envOf k [] = fun _ => .any := rfl
@[go_sem] theorem envOf_cons (k : Nat) (q : Pt) (qs : List Pt) : envOf k (q :: qs) = upd (envOf (k + 1) qs) k (.p q) := rfl
@[go_sem] theorem bits_i8 : IntKind.i8.bits = 8 := rfl
@[go_sem] theorem bits_i16 : IntKind.i16.bits = 16 := rfl
@[go_sem] theorem bits_i32 : IntKind.i32.bits = 32 := rfl
@[go_sem] theorem bits_i64 : IntKind.i64.bits = 64 := rfl
@[go_sem] theorem bits_u8 : IntKind.u8.bits = 8 := rfl
@[go_sem] theorem bits_u16 : IntKind.u16.bits = 16 := rfl
@[go_sem] theorem bits_u32 : IntKind.u32.bits = 32 := rfl
@[go_sem] theorem bits_u64 : IntKind.u64.bits = 64 := rfl
section
variable (k : IntKind) (a b : Int) (s t : ByteArray)
@[go_sem] theorem binV_add : binV .add (.int k a) (.int k b) = some (.int k (k.wrap (a + b)), True) := by simp [binV]
@[go_sem] theorem binV_sub : binV .sub (.int k a) (.int k b) = some (.int k (k.wrap (a - b)), True) := by simp [binV]
@[go_sem] theorem binV_mul : binV .mul (.int k a) (.int k b) = some (.int k (k.wrap (a * b)), True) := by simp [binV]
@[go_sem] theorem binV_quo : binV .quo (.int k a) (.int k b) = some (.int k (k.wrap (a.tdiv b)), b ≠ 0) := by simp [binV]
@[go_sem] theorem binV_rem : binV .rem (.int k a) (.int k b) = some (.int k (a.tmod b), b ≠ 0) := by simp [binV]
@[go_sem] theorem binV_eql : binV .eql (.int k a) (.int k b) = some (.bool (a == b), True) := by simp [binV]
@[go_sem] theorem binV_neq : binV .neq (.int k a) (.int k b) = some (.bool (a != b), True) := by simp [binV]
@[go_sem] theorem binV_lss : binV .lss (.int k a) (.int k b) = some (.bool (decide (a < b)), True) := by simp [binV]
@[go_sem] theorem binV_leq : binV .leq (.int k a) (.int k b) = some (.bool (decide (a ≤ b)), True) := by simp [binV]
@[go_sem] theorem binV_gtr : binV .gtr (.int k a) (.int k b) = some (.bool (decide (a > b)), True) := by simp [binV]
@[go_sem] theorem binV_geq : binV .geq (.int k a) (.int k b) = some (.bool (decide (a ≥ b)), True) := by simp [binV]
@[go_sem] theorem binV_and : binV .and (.int k a) (.int k b) = some (.int k (k.wrap ((BitVec.ofInt k.bits a &&& BitVec.ofInt k.bits b).toNat : Nat)), True) := by simp [binV]
@[go_sem] theorem binV_or : binV .or (.int k a) (.int k b) = some (.int k (k.wrap ((BitVec.ofInt k.bits a ||| BitVec.ofInt k.bits b).toNat : Nat)), True) := by simp [binV]
@[go_sem] theorem binV_xor : binV .xor (.int k a) (.int k b) = some (.int k (k.wrap ((BitVec.ofInt k.bits a ^^^ BitVec.ofInt k.bits b).toNat : Nat)), True) := by simp [binV]
@[go_sem] theorem binV_andNot : binV .andNot (.int k a) (.int k b) = some (.int k (k.wrap ((BitVec.ofInt k.bits a &&& ~~~BitVec.ofInt k.bits b).toNat : Nat)), True) := by simp [binV]
@[go_sem] theorem binV_shl (k' : IntKind) : binV .shl (.int k a) (.int k' b) = some (.int k (k.wrap (a * 2 ^ (min b.toNat k.bits))), 0 ≤ b) := rfl
@[go_sem] theorem binV_shr (k' : IntKind) : binV .shr (.int k a) (.int k' b) = some (.int k (a.fdiv (2 ^ (min b.toNat k.bits))), 0 ≤ b) := rfl
@[go_sem] theorem min_8 (n : Nat) : min n 8 = if n ≤ 8 then n else 8 := Nat.min_def
@[go_sem] theorem min_16 (n : Nat) : min n 16 = if n ≤ 16 then n else 16 := Nat.min_def
@[go_sem] theorem min_32 (n : Nat) : min n 32 = if n ≤ 32 then n else 32 := Nat.min_def
@[go_sem] theorem min_64 (n : Nat) : min n 64 = if n ≤ 64 then n else 64 := Nat.min_def
@[go_sem] theorem binV_sadd : binV .add (.string s) (.string t) = some (.string (s ++ t), s.size + t.size ≤ 9223372036854775807) := rfl
@[go_sem] theorem binV_seql : binV .eql (.string s) (.string t) = some (.bool (s.toList == t.toList), True) := rfl
@[go_sem] theorem binV_sneq : binV .neq (.string s) (.string t) = some (.bool (!(s.toList == t.toList)), True) := rfl
@[go_sem] theorem binV_slss : binV .lss (.string s) (.string t) = some (.bool (Op.bytesLess s.toList t.toList), True) := rfl
@[go_sem] theorem binV_sleq : binV .leq (.string s) (.string t) = some (.bool (Op.bytesLess s.toList t.toList || s.toList == t.toList), True) := rfl
@[go_sem] theorem binV_sgtr : binV .gtr (.string s) (.string t) = some (.bool (!(Op.bytesLess s.toList t.toList || s.toList == t.toList)), True) := rfl
@[go_sem] theorem binV_sgeq : binV .geq (.string s) (.string t) = some (.bool (!(Op.bytesLess s.toList t.toList)), True) := rfl
end
attribute [go_sem] W evs isCall out isNilK gcond unV intOfS rowsAt andThen inBlock inScope Pt.cells zc fillL fillParts fillRows capsOf bnd cellsUp
end Go.Proofs.YtioefecijidgkaaAbs
