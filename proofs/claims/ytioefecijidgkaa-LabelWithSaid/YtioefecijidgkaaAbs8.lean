/- The abstract machine: one step, whatever the operation; what a call comes to. -/
import Derived.Test.YtioefecijidgkaaAbs7c
set_option linter.unusedVariables false
set_option linter.unusedSimpArgs false
namespace Go.Proofs.YtioefecijidgkaaAbs
open Go Go.RowKit

/-- How memory goes on. -/
structure Evo (I : Im) (σ : List Plc) (M : List Blk) (w : World) (I' : Im) (σ' : List Plc) (M' : List Blk) (w' : World) : Prop where
  extI : ExtI I I'
  extP : ExtP σ σ'
  mem : Mem I' σ' M' w'
  keep : Keep (Has σ M) w w'
  own : ∀ g, Has σ' M' g → Has σ M g ∨ w.heap.size ≤ g
  fresh : ∀ ad x, I' ad = some x → I ad = some x ∨ w.heap.size ≤ ad.block ∨ Has σ M ad.block
theorem Evo.refl {I : Im} {σ : List Plc} {M : List Blk} {w : World} (h : Mem I σ M w) : Evo I σ M w I σ M w := ⟨ExtI.refl _, ExtP.refl _, h, Keep.refl _ _, fun g h => .inl h, fun a x h => .inl h⟩
theorem Evo.trans {I I1 I2 : Im} {σ σ1 σ2 : List Plc} {M M1 M2 : List Blk} {w w1 w2 : World} (h : Evo I σ M w I1 σ1 M1 w1) (k : Evo I1 σ1 M1 w1 I2 σ2 M2 w2) : Evo I σ M w I2 σ2 M2 w2 :=
  ⟨h.extI.trans k.extI, h.extP.trans k.extP, k.mem,
    ⟨k.keep.os.trans h.keep.os, k.keep.tape.trans h.keep.tape, k.keep.output.trans h.keep.output, Nat.le_trans h.keep.size k.keep.size, fun i hi hs => by
      have hs1 := h.keep.size
      refine (k.keep.block i (by omega) (fun h2 => ?_)).trans (h.keep.block i hi hs)
      rcases h.own i h2 with h3 | h3
      · exact hs h3
      · omega⟩,
    fun g hg => by
      have := h.keep.size
      rcases k.own g hg with h1 | h1
      · exact h.own g h1
      · exact .inr (by omega),
    fun a x hx => by
      have := h.keep.size
      rcases k.fresh a x hx with h1 | h1 | h1
      · exact h.fresh a x h1
      · exact .inr (.inl (by omega))
      · rcases h.own _ h1 with h2 | h2
        · exact .inr (.inr h2)
        · exact .inr (.inl h2)⟩
section
variable {P : Program} {I : Im} {σ : List Plc} {e : Nat → SV} {M M' : List Blk} {w : World} {a : Act} {r : SV} {c : Prop} {dst : Option Tmp} {ty : TypeId} {pos : String} {after : Array Edge} {gd : Option (Nat × Bool)}
/-- A step, as the world goes on. -/
def Goes (P : Program) (I : Im) (σ : List Plc) (M : List Blk) (o : Oper) (a : Act) (w : World) (r : SV) (M' : List Blk) : Prop :=
  ∃ n I' σ' w', (execOp a.eval o).run P w = .ok n w' ∧ ((∃ v, n = .value v ∧ RelS I' σ' r v) ∨ (n = .skip ∧ r = .any)) ∧ Evo I σ M w I' σ' M' w'
theorem Turns.goes {o : Oper} (h : Turns P I σ M o a w r M') : Goes P I σ M o a w r M' := by
  obtain ⟨n, σ', w', h1, h2, h3, h4, h5, h6⟩ := h
  exact ⟨n, I, σ', w', h1, h2, ExtI.refl _, h3, h4, h5, h6, fun _ _ h => .inl h⟩
theorem of_pair (hm : Mem I σ M w) {o : Oper} (h : M' = M ∧ Gives P I σ o a w r) : Turns P I σ M o a w r M' := by
  obtain ⟨rfl, h⟩ := h
  exact Turns.of_gives hm h
theorem out_sound {op : Op} {o : O} (hco : compO P op = some o) (hn : isCall o = false) (hm : Mem I σ M w) (he : RelE I σ e a) (hd : stOk o dst = true)
    (h : out e M true o = some (r, M', c)) (hc : c) : Turns P I σ M ⟨dst, op, ty, pos, after, gd⟩ a w r M' := by
  cases op with
  | move x =>
    simp only [compO, Option.map_eq_some_iff] at hco
    obtain ⟨X, hX, rfl⟩ := hco
    simp only [out, Option.some.injEq, Prod.mk.injEq] at h
    obtain ⟨rfl, rfl, _⟩ := h
    exact Turns.of_gives hm (s_mv he hX (.inl rfl))
  | assign x =>
    simp only [compO, Option.map_eq_some_iff] at hco
    obtain ⟨X, hX, rfl⟩ := hco
    simp only [out, Option.some.injEq, Prod.mk.injEq] at h
    obtain ⟨rfl, rfl, _⟩ := h
    exact Turns.of_gives hm (s_mv he hX (.inr rfl))
  | pick c0 x y =>
    simp only [compO, Option.map_eq_some_iff, Option.bind_eq_some_iff] at hco
    obtain ⟨C, hC, X, hX, Y, hY, rfl⟩ := hco
    exact of_pair hm (s_pick he hC hX hY h)
  | alloc t =>
    simp only [compO, Option.map_eq_some_iff, Option.bind_eq_some_iff] at hco
    obtain ⟨sz, hz, z, hzz, rfl⟩ := hco
    exact s_alloc hm hz hzz h
  | box t x =>
    simp only [compO, Option.map_eq_some_iff, Option.bind_eq_some_iff] at hco
    obtain ⟨sz, hz, X, hX, rfl⟩ := hco
    exact s_box hm he hX h hc
  | build t parts =>
    simp only [compO, Option.bind_eq_some_iff] at hco
    obtain ⟨fs, hfs, z, hzz, hco⟩ := hco
    split at hco
    · rename_i hall
      simp only [Option.map_eq_some_iff] at hco
      obtain ⟨ps, hp, rfl⟩ := hco
      exact of_pair hm (s_bld he (fieldsT_spec hfs) hzz hall hp h hc)
    · cases hco
  | buildSlice t len parts =>
    simp only [compO, Option.bind_eq_some_iff] at hco
    obtain ⟨el, hel, sz, hz, z, hzz, ps, hp, hco⟩ := hco
    split at hco
    · rename_i hb
      injection hco with hco
      subst hco
      simp only [Bool.and_eq_true, decide_eq_true_eq, beq_iff_eq] at hb
      obtain ⟨⟨rfl, hb2⟩, _⟩ := hb
      exact s_bsl0 hm hel hz hb2 h hc
    split at hco
    · rename_i hb
      injection hco with hco
      subst hco
      simp only [Bool.and_eq_true, decide_eq_true_eq] at hb
      exact s_bsl hm he hel hz hzz hp hb.1.1 hb.1.2 hb.2 h hc
    · cases hco
  | load t x =>
    simp only [compO, Option.map_eq_some_iff, Option.bind_eq_some_iff] at hco
    obtain ⟨g, hg, sz, hz, X, hX, rfl⟩ := hco
    exact of_pair hm (s_ld hm he hX hg hz h hc)
  | store t x y =>
    simp only [compO, Option.map_eq_some_iff, Option.bind_eq_some_iff] at hco
    obtain ⟨sz, hz, X, hX, Y, hY, rfl⟩ := hco
    cases dst with
    | none => exact s_st hm he hX hY hz h hc
    | some d => simp [stOk] at hd
  | nilCheck x =>
    simp only [compO, Option.map_eq_some_iff] at hco
    obtain ⟨X, hX, rfl⟩ := hco
    exact of_pair hm (s_nilck hm he hX h hc)
  | binOp op t x y u =>
    simp only [compO, Option.map_eq_some_iff, Option.bind_eq_some_iff] at hco
    obtain ⟨X, hX, Y, hY, rfl⟩ := hco
    unfold binC at h
    split at h
    · exact of_pair hm (s_eqb (neg := false) he hX hY ‹_› rfl h hc)
    · exact of_pair hm (s_eqb (neg := true) he hX hY ‹_› rfl h hc)
    · exact of_pair hm (s_eqa (neg := false) he hX hY ‹_› rfl h)
    · exact of_pair hm (s_eqa (neg := true) he hX hY ‹_› rfl h)
    · exact of_pair hm (s_bin he hX hY h hc)
  | unOp op t x =>
    simp only [compO, Option.map_eq_some_iff] at hco
    obtain ⟨X, hX, rfl⟩ := hco
    exact of_pair hm (s_un he hX h)
  | convert src dt x =>
    simp only [compO] at hco
    split at hco
    · rename_i hb
      simp only [Bool.and_eq_true] at hb
      simp only [Option.map_eq_some_iff] at hco
      obtain ⟨X, hX, rfl⟩ := hco
      exact of_pair hm (s_b2s hm he hX hb.1 hb.2 h hc)
    · simp only [Option.map_eq_some_iff, Option.bind_eq_some_iff] at hco
      obtain ⟨k0, hk0, k, hk, X, hX, rfl⟩ := hco
      exact of_pair hm (s_cvi he hX (isIntT_spec hk0) (isIntT_spec hk) h)
  | range t x =>
    simp only [compO] at hco
    split at hco
    · rename_i ht
      simp only [Option.map_eq_some_iff] at hco
      obtain ⟨X, hX, rfl⟩ := hco
      exact s_rng hm he hX ht h
    · cases hco
  | next x str =>
    simp only [compO] at hco
    split at hco
    · rename_i ht
      subst ht
      simp only [Option.map_eq_some_iff] at hco
      obtain ⟨X, hX, rfl⟩ := hco
      exact s_nxt hm he hX h hc
    · cases hco
  | makeSlice t x y =>
    simp only [compO, Option.bind_eq_some_iff] at hco
    obtain ⟨el, hel, i, hi, z, hzz, X, hX, Y, hY, hco⟩ := hco
    split at hco
    · rename_i hcd
      simp only [Bool.and_eq_true, decide_eq_true_eq] at hcd
      injection hco with hco
      subst hco
      exact s_mks hm he hX hY hcd.1.1 hel hi hzz hcd.1.2 hcd.2 h hc
    · cases hco
  | makeFunc fn first captured =>
    cases fn with
    | func f =>
      simp only [compO] at hco
      split at hco
      · rename_i hf
        simp only [Option.map_eq_some_iff] at hco
        obtain ⟨cs, hcs, rfl⟩ := hco
        exact of_pair hm (s_mkf he hf hcs h)
      · cases hco
    | _ => simp [compO] at hco
  | slice t x lo hi mx =>
    cases mx with
    | some m =>
      simp only [compO, Option.bind_eq_some_iff] at hco
      obtain ⟨el, hel, sz, hz, X, hX, LO, hLO, HI, hHI, MX, hMX, hco⟩ := hco
      split at hco
      · rename_i hs
        injection hco with hco
        subst hco
        exact of_pair hm (s_s3 hm he hX hLO hHI hMX hs hel hz h hc)
      · cases hco
    | none =>
      simp only [compO, Option.bind_eq_some_iff] at hco
      obtain ⟨X, hX, LO, hLO, HI, hHI, hco⟩ := hco
      split at hco
      · rename_i ht
        injection hco with hco
        subst hco
        exact of_pair hm (s_sls he hX hLO hHI ht h hc)
      · simp only [Option.map_eq_some_iff, Option.bind_eq_some_iff] at hco
        obtain ⟨el, hel, sz, hz, rfl⟩ := hco
        exact of_pair hm (s_slc hm he hX hLO hHI hel hz h hc)
  | fieldAddr t x i =>
    simp only [compO, Option.bind_eq_some_iff] at hco
    obtain ⟨fs, hfs, f, hf, sz, hz, hco⟩ := hco
    split at hco
    · cases hco
    · rename_i h0
      simp only [Option.map_eq_some_iff] at hco
      obtain ⟨X, hX, rfl⟩ := hco
      exact of_pair hm (s_fa hm he hX (fieldsT_spec hfs) hf hz h0 h hc)
  | field t x i =>
    simp only [compO, Option.map_eq_some_iff, Option.bind_eq_some_iff] at hco
    obtain ⟨fs, hfs, f, hf, sz, hz, g, hg, X, hX, rfl⟩ := hco
    exact of_pair hm (s_fld he hX (fieldsT_spec hfs) hf hz hg h hc)
  | indexAddr t x i =>
    simp only [compO, Option.map_eq_some_iff, Option.bind_eq_some_iff] at hco
    obtain ⟨el, hel, sz, hz, X, hX, Y, hY, rfl⟩ := hco
    exact of_pair hm (s_ia hm he hX hY hel hz h hc)
  | index t x i =>
    simp only [compO] at hco
    split at hco
    · rename_i ht
      simp only [Option.map_eq_some_iff, Option.bind_eq_some_iff] at hco
      obtain ⟨X, hX, Y, hY, rfl⟩ := hco
      exact of_pair hm (s_ix he hX hY ht h hc)
    · cases hco
  | extract x i =>
    simp only [compO, Option.map_eq_some_iff] at hco
    obtain ⟨X, hX, rfl⟩ := hco
    exact of_pair hm (s_ex he hX h hc)
  | call cl =>
    obtain ⟨callee, args, argTypes⟩ := cl
    cases callee with
    | value f =>
      simp only [compO, Option.map_eq_some_iff, Option.bind_eq_some_iff] at hco
      obtain ⟨F, hF, as, has, rfl⟩ := hco
      cases hn
    | invoke x m => simp [compO] at hco
    | builtin b =>
      cases b <;> simp only [compO, reduceCtorEq] at hco
      case len =>
        split at hco
        · rename_i x t hx ht
          split at hco
          · rename_i hs
            simp only [Option.map_eq_some_iff] at hco
            obtain ⟨X, hX, rfl⟩ := hco
            exact of_pair hm (s_lens he hX hx ht hs h)
          · simp only [Option.map_eq_some_iff, Option.bind_eq_some_iff] at hco
            obtain ⟨el, hel, X, hX, rfl⟩ := hco
            exact of_pair hm (s_len hm he hX hx ht hel h hc)
        · cases hco
      case min =>
        split at hco
        · rename_i x y hx
          simp only [Option.map_eq_some_iff, Option.bind_eq_some_iff] at hco
          obtain ⟨X, hX, Y, hY, rfl⟩ := hco
          exact of_pair hm (s_mn he hX hY hx h)
        · cases hco
      case max =>
        split at hco
        · rename_i x y hx
          simp only [Option.map_eq_some_iff, Option.bind_eq_some_iff] at hco
          obtain ⟨X, hX, Y, hY, rfl⟩ := hco
          exact of_pair hm (s_mx he hX hY hx h)
        · cases hco
      case append =>
        split at hco
        · rename_i x y t u hx ht
          simp only [Option.bind_eq_some_iff] at hco
          obtain ⟨el, hel, i, hi, z, hzz, hco⟩ := hco
          split at hco
          · rename_i hcd
            simp only [Bool.and_eq_true, decide_eq_true_eq, beq_iff_eq] at hcd
            obtain ⟨h1, h2⟩ := hcd
            simp only [Option.bind_eq_some_iff] at hco
            obtain ⟨X, hX, Y, hY, hco⟩ := hco
            split at hco
            · rename_i htu
              subst htu
              injection hco with hco
              subst hco
              exact s_app hm he hX hY hx ht hel hi hzz h1 h2 h hc
            split at hco
            · rename_i hu
              injection hco with hco
              subst hco
              exact s_apz hm he hX hY hx ht hel hu hi hzz h1 h2 h hc
            split at hco
            · rename_i hu
              injection hco with hco
              subst hco
              simp only [Bool.and_eq_true, beq_iff_eq] at hu
              exact s_aps hm he hX hY hx ht hel hu.1.1 hi hzz hu.1.2 hu.2 h hc
            · cases hco
          · cases hco
        · cases hco
      case cap =>
        split at hco
        · rename_i x t hx ht
          simp only [Option.map_eq_some_iff, Option.bind_eq_some_iff] at hco
          obtain ⟨el, hel, X, hX, rfl⟩ := hco
          exact of_pair hm (s_cap hm he hX hx ht hel h hc)
        · cases hco
      case copy =>
        split at hco
        · rename_i x y t u hx ht
          simp only [Option.bind_eq_some_iff] at hco
          obtain ⟨el, hel, sz, hz, hco⟩ := hco
          split at hco
          · rename_i hcd
            simp only [Bool.and_eq_true, decide_eq_true_eq, beq_iff_eq] at hcd
            obtain ⟨rfl, h1⟩ := hcd
            simp only [Option.map_eq_some_iff, Option.bind_eq_some_iff] at hco
            obtain ⟨X, hX, Y, hY, rfl⟩ := hco
            exact s_cpy hm he hX hY hx ht hel hz h1 h hc
          · cases hco
        · cases hco
      case clear =>
        split at hco
        · rename_i x t hx ht
          simp only [Option.bind_eq_some_iff] at hco
          obtain ⟨el, hel, sz, hz, z, hzz, hco⟩ := hco
          split at hco
          · rename_i hcd
            simp only [Option.map_eq_some_iff] at hco
            obtain ⟨X, hX, rfl⟩ := hco
            exact s_clr hm he hX hx ht hel hz hzz hcd h hc
          · cases hco
        · cases hco
  | _ => simp [compO] at hco
end
end Go.Proofs.YtioefecijidgkaaAbs
