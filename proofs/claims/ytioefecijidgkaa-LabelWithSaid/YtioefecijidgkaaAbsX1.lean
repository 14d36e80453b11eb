/- The abstract machine: a region whose operations come in an order that Go leaves open: what each looks at, what each turns; new rows come to places that are kept for them. -/
import Derived.Test.YtioefecijidgkaaAbs10
set_option linter.unusedVariables false
set_option linter.unusedSimpArgs false
namespace Go.Proofs.YtioefecijidgkaaAbs
open Go Go.RowKit
/-- An operation, which blocks it looks at, whether it turns one of them, and the place that is kept for its new row. -/
structure XOp where
  op : OpL
  F : List Nat
  w : Bool
  n : Nat
def blkOf : SV → List Nat
  | .p (.one (.ptr b _ _ _)) => [b]
  | .p (.one (.arr _ b _ _ _)) => [b]
  | _ => []
def foot (e : Nat → SV) (ctx : Bool) (n : Nat) : O → List Nat
  | .alloc .. => [n]
  | .box .. => [n]
  | .bsl .. => [n]
  | .mks .. => [n]
  | .ld _ _ x => blkOf (strip ctx (raw e x))
  | .nilck x => blkOf (strip ctx (raw e x))
  | .fa _ x => blkOf (strip ctx (raw e x))
  | .len x => blkOf (strip ctx (raw e x))
  | .cap x => blkOf (strip ctx (raw e x))
  | .slc _ x _ _ => blkOf (strip ctx (raw e x))
  | .s3 x _ _ _ => blkOf (strip ctx (raw e x))
  | .ia _ x _ => blkOf (strip ctx (raw e x))
  | .st _ x _ => blkOf (strip ctx (raw e x))
  | .clr _ _ x => blkOf (strip ctx (raw e x))
  | .nxt x => blkOf (strip ctx (raw e x))
  | .b2s x => blkOf (strip ctx (raw e x))
  | .aps _ x _ => blkOf (strip ctx (raw e x))
  | .app _ _ _ _ x y => blkOf (strip ctx (raw e x)) ++ blkOf (strip ctx (raw e y))
  | .cpy _ x y => blkOf (strip ctx (raw e x)) ++ blkOf (strip ctx (raw e y))
  | _ => []
def isW : O → Bool
  | .alloc .. | .box .. | .bsl .. | .mks .. | .st .. | .clr .. | .nxt .. | .aps .. | .app .. | .cpy .. => true
  | _ => false
def outX (n : Nat) (e : Nat → SV) (M : List Blk) (ctx : Bool) : O → Option (SV × List Blk × Prop)
  | .alloc t sz z => some (mkP n 1, M.set n (.rows t sz 1 [zc z] true), M[n]? = some (.rows 0 0 0 [] true))
  | .box t sz x =>
    match strip ctx (raw e x) with
    | .p q => some (mkP n 1, M.set n (.rows t sz 1 [q.cells] true), q.cells.length = sz ∧ M[n]? = some (.rows 0 0 0 [] true))
    | _ => none
  | .bsl t sz len z parts =>
    match fillRows (fun x => strip ctx (raw e x)) sz (List.replicate len (zc z)) parts with
    | some (l, c) => some (mkA sz len n 1, M.set n (.rows t sz 1 l true), c ∧ M[n]? = some (.rows 0 0 0 [] true))
    | none => none
  | .mks t sz bytes z x =>
    match strip ctx (raw e x) with
    | .p (.one (.c (.v (.int _ k)))) => some (mkA sz k.toNat n 1, M.set n (.rows t sz 1 (List.replicate k.toNat (zc z)) true), (0 ≤ k ∧ k.toNat * bytes ≤ 140737488355328) ∧ M[n]? = some (.rows 0 0 0 [] true))
    | _ => none
  | .call .. => none
  | .rng _ => none
  | .apz .. => none
  | o => out e M ctx o
def ap : Option (Nat × Blk) → List Blk → List Blk
  | none, M => M
  | some (b, x), M => M.set b x
theorem rowsAt_congr {M M2 : List Blk} {b ver : Nat} (h : M2[b]? = M[b]?) : rowsAt M2 b ver = rowsAt M b ver := by unfold rowsAt; rw [h]
theorem srcRows_congr {M M2 : List Blk} {sz : Nat} {s : SV} (h : ∀ b ∈ blkOf s, M2[b]? = M[b]?) : srcRows M2 sz s = srcRows M sz s := by
  unfold srcRows
  split <;> first | rfl | skip
  rename_i sz' b ver off len
  rw [rowsAt_congr (h b (by simp [blkOf]))]
/-- What an operation does hangs on what it looks at, and turns nothing else. -/
def Loc (n : Nat) (e : Nat → SV) (M : List Blk) (ctx : Bool) (o : O) (r : SV) (M' : List Blk) (c : Prop) : Prop :=
  ∃ f : Option (Nat × Blk), M' = ap f M ∧ (isW o = false → f = none) ∧ (∀ b X, f = some (b, X) → b ∈ foot e ctx n o) ∧ ∀ M2 : List Blk, (∀ b ∈ foot e ctx n o, M2[b]? = M[b]?) → outX n e M2 ctx o = some (r, ap f M2, c)
theorem loc_read {n : Nat} {e : Nat → SV} {M M' : List Blk} {ctx : Bool} {o : O} {r : SV} {c : Prop} (hk : cls o ≤ 1) (hx : outX n e M ctx o = out e M ctx o) (h : out e M ctx o = some (r, M', c)) (h2 : ∀ M2 : List Blk, (∀ b ∈ foot e ctx n o, M2[b]? = M[b]?) → outX n e M2 ctx o = some (r, M2, c)) : Loc n e M ctx o r M' c :=
  ⟨none, out_cls1 hk h, fun _ => rfl, fun b X h => (by cases h), h2⟩
theorem outX_loc {n : Nat} {e : Nat → SV} {M M' : List Blk} {ctx : Bool} {o : O} {r : SV} {c : Prop} (h : outX n e M ctx o = some (r, M', c)) : Loc n e M ctx o r M' c := by
  by_cases h0 : cls o = 0
  · have hx : ∀ N, outX n e N ctx o = out e N ctx o := by intro N; cases o <;> first | rfl | (simp [cls] at h0)
    rw [hx] at h
    exact loc_read (by omega) (hx M) h (fun M2 _ => by rw [hx]; exact (out_cls0 (M2 := M2) h0 h).2)
  cases o <;> first | (exact absurd rfl h0) | skip
  case alloc t sz z =>
    simp only [outX, Option.some.injEq, Prod.mk.injEq] at h
    obtain ⟨rfl, rfl, rfl⟩ := h
    refine ⟨some (n, .rows t sz 1 [zc z] true), rfl, (by intro h; cases h), (by rintro b X h; injection h with h; injection h with h _; subst h; simp [foot]), fun M2 h2 => ?_⟩
    simp only [outX, h2 n (by simp [foot]), ap]
  case box t sz x =>
    simp only [outX] at h
    split at h
    · rename_i q hq
      simp only [Option.some.injEq, Prod.mk.injEq] at h
      obtain ⟨rfl, rfl, rfl⟩ := h
      refine ⟨some (n, .rows t sz 1 [q.cells] true), rfl, (by intro h; cases h), (by rintro b X h; injection h with h; injection h with h _; subst h; simp [foot]), fun M2 h2 => ?_⟩
      simp only [outX, hq, h2 n (by simp [foot]), ap]
    · cases h
  case bsl t sz len z parts =>
    simp only [outX] at h
    split at h
    · rename_i l c' hq
      simp only [Option.some.injEq, Prod.mk.injEq] at h
      obtain ⟨rfl, rfl, rfl⟩ := h
      refine ⟨some (n, .rows t sz 1 l true), rfl, (by intro h; cases h), (by rintro b X h; injection h with h; injection h with h _; subst h; simp [foot]), fun M2 h2 => ?_⟩
      simp only [outX, hq, h2 n (by simp [foot]), ap]
    · cases h
  case mks t sz bytes z x =>
    simp only [outX] at h
    split at h
    · rename_i ki k hq
      simp only [Option.some.injEq, Prod.mk.injEq] at h
      obtain ⟨rfl, rfl, rfl⟩ := h
      refine ⟨some (n, .rows t sz 1 (List.replicate k.toNat (zc z)) true), rfl, (by intro h; cases h), (by rintro b X h; injection h with h; injection h with h _; subst h; simp [foot]), fun M2 h2 => ?_⟩
      simp only [outX, hq, h2 n (by simp [foot]), ap]
    · cases h
  case call => cases h
  case rng => cases h
  case apz => cases h
  case st sz a x =>
    simp only [outX, out] at h
    split at h
    · rename_i b ver i j q hb hq
      split at h
      · rename_i t sz' ver' l f hM
        simp only [Option.some.injEq, Prod.mk.injEq] at h
        obtain ⟨rfl, rfl, rfl⟩ := h
        refine ⟨some (b, .rows t sz' ver' (l.set i (fillL (l.getD i []) j q.cells)) f), rfl, (by intro h; cases h), (by rintro b X h; injection h with h; injection h with h _; subst h; simp [foot, hb, blkOf]), fun M2 h2 => ?_⟩
        simp only [outX, out, hb, hq, h2 b (by simp [foot, hb, blkOf]), hM, ap]
      · cases h
    · cases h
  case clr sz z x =>
    simp only [outX, out] at h
    split at h
    · rename_i sz' b ver off len hb
      split at h
      · rename_i t sz2 ver' l f hM
        simp only [Option.some.injEq, Prod.mk.injEq] at h
        obtain ⟨rfl, rfl, rfl⟩ := h
        refine ⟨some (b, .rows t sz2 ver' (l.take off ++ List.replicate len (zc z) ++ l.drop (off + len)) f), rfl, (by intro h; cases h), (by rintro b X h; injection h with h; injection h with h _; subst h; simp [foot, hb, blkOf]), fun M2 h2 => ?_⟩
        simp only [outX, out, hb, h2 b (by simp [foot, hb, blkOf]), hM, ap]
      · cases h
    · rename_i sz' n' c' hb
      simp only [Option.some.injEq, Prod.mk.injEq] at h
      obtain ⟨rfl, rfl, rfl⟩ := h
      exact ⟨none, rfl, (by intro h; rfl), (by intro b X h; cases h), fun M2 h2 => by simp only [outX, out, hb, ap]⟩
    · cases h
  case nxt x =>
    simp only [outX, out] at h
    split at h
    · rename_i b ver i j hb
      split at h
      · rename_i s pos hM
        split at h
        · rename_i hp
          simp only [Option.some.injEq, Prod.mk.injEq] at h
          obtain ⟨rfl, rfl, rfl⟩ := h
          refine ⟨some (b, .sit s (pos + (Utf8.decode s pos).2)), rfl, (by intro h; cases h), (by rintro b X h; injection h with h; injection h with h _; subst h; simp [foot, hb, blkOf]), fun M2 h2 => ?_⟩
          simp only [outX, out, hb, h2 b (by simp [foot, hb, blkOf]), hM, ap, if_pos hp]
        · rename_i hp
          simp only [Option.some.injEq, Prod.mk.injEq] at h
          obtain ⟨rfl, rfl, rfl⟩ := h
          refine ⟨none, rfl, (by intro h; rfl), (by intro b X h; cases h), fun M2 h2 => ?_⟩
          simp only [outX, out, hb, h2 b (by simp [foot, hb, blkOf]), hM, ap, if_neg hp]
      · cases h
    · cases h
  case aps t x y =>
    simp only [outX, out] at h
    split at h
    · rename_i sz' b ver off len s hb hs
      split at h
      · rename_i t' sz2 ver' l f hM
        simp only [Option.some.injEq, Prod.mk.injEq] at h
        obtain ⟨rfl, rfl, rfl⟩ := h
        refine ⟨some (b, .rows t 1 (ver + 1) (l ++ s.data.toList.map byteRow) false), rfl, (by intro h; cases h), (by rintro b X h; injection h with h; injection h with h _; subst h; simp [foot, hb, blkOf]), fun M2 h2 => ?_⟩
        simp only [outX, out, hb, hs, h2 b (by simp [foot, hb, blkOf]), hM, ap]
      · cases h
    · cases h
  case app t sz bytes z x y =>
    simp only [outX, out] at h
    split at h
    · rename_i sz' b ver off len hb
      split at h
      · rename_i t' sz2 ver' l f rs m cy hM hsr
        have hcon : ∀ M2 : List Blk, (∀ b ∈ foot e ctx n (.app t sz bytes z x y), M2[b]? = M[b]?) → M2[b]? = some (.rows t' sz2 ver' l f) ∧ srcRows M2 sz (strip ctx (raw e y)) = some (rs, m, cy) := by
          intro M2 h2
          refine ⟨(h2 b (by simp [foot, hb, blkOf])).trans hM, ?_⟩
          rw [srcRows_congr (M := M) (fun b' hb' => h2 b' (by simp [foot, hb'])), hsr]
        split at h
        · rename_i hp
          simp only [Option.some.injEq, Prod.mk.injEq] at h
          obtain ⟨rfl, rfl, rfl⟩ := h
          refine ⟨some (b, .rows t sz (ver + 1) (l ++ rs) false), rfl, (by intro h; cases h), (by rintro b X h; injection h with h; injection h with h _; subst h; simp [foot, hb, blkOf]), fun M2 h2 => ?_⟩
          simp only [outX, out, hb, (hcon M2 h2).1, (hcon M2 h2).2, ap, if_pos hp]
        · rename_i hp
          simp only [Option.some.injEq, Prod.mk.injEq] at h
          obtain ⟨rfl, rfl, rfl⟩ := h
          refine ⟨some (b, .rows t' sz2 ver' (l.take (off + len) ++ rs ++ l.drop (off + len + m)) f), rfl, (by intro h; cases h), (by rintro b X h; injection h with h; injection h with h _; subst h; simp [foot, hb, blkOf]), fun M2 h2 => ?_⟩
          simp only [outX, out, hb, (hcon M2 h2).1, (hcon M2 h2).2, ap, if_neg hp]
      · cases h
    · cases h
  case cpy sz x y =>
    simp only [outX, out] at h
    split at h
    · rename_i sz' b ver off len hb
      split at h
      · rename_i t' sz2 ver' l f rs m cy hM hsr
        simp only [Option.some.injEq, Prod.mk.injEq] at h
        obtain ⟨rfl, rfl, rfl⟩ := h
        refine ⟨some (b, .rows t' sz2 ver' (l.take off ++ rs.take len ++ l.drop (off + min m len)) f), rfl, (by intro h; cases h), (by rintro b X h; injection h with h; injection h with h _; subst h; simp [foot, hb, blkOf]), fun M2 h2 => ?_⟩
        have e2 : srcRows M2 sz (strip ctx (raw e y)) = some (rs, m, cy) := by rw [srcRows_congr (M := M) (fun b' hb' => h2 b' (by simp [foot, hb'])), hsr]
        simp only [outX, out, hb, (h2 b (by simp [foot, hb, blkOf])).trans hM, e2, ap]
      · cases h
    · cases h
  all_goals
    refine loc_read (by simp [cls]) rfl (by simpa only [outX] using h) (fun M2 h2 => ?_)
    simp only [outX, out] at h ⊢
  case ld agg sz a =>
    split at h
    · rename_i hb
      simp only [Option.some.injEq, Prod.mk.injEq] at h
      obtain ⟨rfl, rfl, rfl⟩ := h
      simp only [hb]
    · rename_i b ver i j hb
      simp only [rowsAt_congr (h2 b (by simp [foot, hb, blkOf]))]
      split at h
      · rename_i hr
        simp only [Option.some.injEq, Prod.mk.injEq] at h
        obtain ⟨rfl, rfl, rfl⟩ := h
        simp only [hr]
      · cases h
    · cases h
  case nilck x =>
    split at h
    · rename_i b ver i j hb
      simp only [rowsAt_congr (h2 b (by simp [foot, hb, blkOf]))]
      split at h
      · rename_i hr
        simp only [Option.some.injEq, Prod.mk.injEq] at h
        obtain ⟨rfl, rfl, rfl⟩ := h
        simp only [hr]
      · cases h
    · rename_i hb
      simp only [Option.some.injEq, Prod.mk.injEq] at h
      obtain ⟨rfl, rfl, rfl⟩ := h
      simp only [hb]
    · cases h
  case fa off x =>
    split at h
    · rename_i b ver i j hb
      simp only [rowsAt_congr (h2 b (by simp [foot, hb, blkOf]))]
      split at h
      · rename_i hr
        simp only [Option.some.injEq, Prod.mk.injEq] at h
        obtain ⟨rfl, rfl, rfl⟩ := h
        simp only [hr]
      · cases h
    · rename_i hb
      simp only [Option.some.injEq, Prod.mk.injEq] at h
      obtain ⟨rfl, rfl, rfl⟩ := h
      simp only [hb]
    · cases h
  case len x =>
    split at h
    · rename_i hb
      simp only [Option.some.injEq, Prod.mk.injEq] at h
      obtain ⟨rfl, rfl, rfl⟩ := h
      simp only [hb]
    · rename_i hb
      simp only [Option.some.injEq, Prod.mk.injEq] at h
      obtain ⟨rfl, rfl, rfl⟩ := h
      simp only [hb]
    · rename_i sz b ver off len hb
      simp only [rowsAt_congr (h2 b (by simp [foot, hb, blkOf]))]
      split at h
      · rename_i hr
        simp only [Option.some.injEq, Prod.mk.injEq] at h
        obtain ⟨rfl, rfl, rfl⟩ := h
        simp only [hr]
      · cases h
    · cases h
  case cap x =>
    split at h
    · rename_i sz b ver off len hb
      simp only [h2 b (by simp [foot, hb, blkOf])]
      split at h
      · rename_i hr
        simp only [Option.some.injEq, Prod.mk.injEq] at h
        obtain ⟨rfl, rfl, rfl⟩ := h
        simp only [hr]
      · cases h
    · cases h
  case b2s x =>
    rw [srcRows_congr (M := M) (fun b hb => h2 b (by simpa [foot] using hb))]
    split at h
    · rename_i hr
      split at h
      · rename_i hr2
        simp only [Option.some.injEq, Prod.mk.injEq] at h
        obtain ⟨rfl, rfl, rfl⟩ := h
        simp only [hr, hr2]
      · cases h
    · cases h
  case slc sz x lo hi =>
    split at h
    · rename_i hb
      split at h
      · rename_i h3 h4
        simp only [Option.some.injEq, Prod.mk.injEq] at h
        obtain ⟨rfl, rfl, rfl⟩ := h
        simp only [hb, h3, h4]
      · cases h
    · rename_i sz' b ver off len hb
      simp only [rowsAt_congr (h2 b (by simp [foot, hb, blkOf]))]
      split at h
      · rename_i h3 h4 h5
        simp only [Option.some.injEq, Prod.mk.injEq] at h
        obtain ⟨rfl, rfl, rfl⟩ := h
        simp only [h3, h4, h5]
      · cases h
    · cases h
  case s3 x lo hi mx =>
    split at h
    · rename_i sz' b ver off len hb
      simp only [rowsAt_congr (h2 b (by simp [foot, hb, blkOf]))]
      split at h
      · rename_i h3 h4 h5 h6
        simp only [Option.some.injEq, Prod.mk.injEq] at h
        obtain ⟨rfl, rfl, rfl⟩ := h
        simp only [h3, h4, h5, h6]
      · cases h
    · rename_i hb
      split at h
      · rename_i h3 h4 h5
        simp only [Option.some.injEq, Prod.mk.injEq] at h
        obtain ⟨rfl, rfl, rfl⟩ := h
        simp only [hb, h3, h4, h5]
      · cases h
    · cases h
  case ia sz x i =>
    split at h
    · rename_i hb hi
      simp only [Option.some.injEq, Prod.mk.injEq] at h
      obtain ⟨rfl, rfl, rfl⟩ := h
      simp only [hb, hi]
    · rename_i sz' b ver off len k hb hi
      simp only [rowsAt_congr (h2 b (by simp [foot, hb, blkOf]))]
      split at h
      · rename_i hr
        simp only [Option.some.injEq, Prod.mk.injEq] at h
        obtain ⟨rfl, rfl, rfl⟩ := h
        simp only [hr]
      · cases h
    · cases h
end Go.Proofs.YtioefecijidgkaaAbs
