/-
  Number, bitted, powers, hexed: what they compute.
-/
import Derived.Test.YtalhhkjdlnamdaaDoorCode
import Derived.Test.YtalhhkjdlnamdaaDoorLaw
import Derived.Test.YtalhhkjdlnamdaaDoorSi
namespace Go.Proofs
open Go Go.SX
set_option maxRecDepth 100000
def byV (b : Sc.Bs) : List Value := b.map fun c => Value.int .u8 (c.toNat : Int)
def intV (l : List Int) : List Value := l.map fun n => Value.int .i64 n
def boolV (l : List Bool) : List Value := l.map fun b => Value.bool b
theorem bytesV_get {t : ByteArray} {j : Nat} {c : UInt8} (h : t.data.toList[j]? = some c) : (bytesV t)[j]? = some (.int .u8 (c.toNat : Int)) := by
  simp [bytesV, h]
theorem take_succ {l : List UInt8} {j : Nat} {c : UInt8} (h : l[j]? = some c) : l.take (j + 1) = l.take j ++ [c] := by
  rw [List.take_add_one, h]; rfl

theorem f46 (t : ByteArray) (R : RO) (K : SV → RO → List SObj → Prop) (hsz : t.size ≤ 2 ^ 40)
   (hK : ∀ R' v es b, SubRO R R' → ROSl R' v es 1 → b = (Sc.bitL t.data.toList).isSome → (∀ x, Sc.bitL t.data.toList = some x → es = boolV x) → K (.tup (.cons 1 (.raw v) (.cons 1 (.raw (.bool b)) .nil))) R' []) :
    CallW Tryd.prog 46 [.raw (.string t)] R [] K := by
  have bad : Sc.bitL t.data.toList = none → ∀ R', SubRO R R' → K (.tup (.cons 1 (.raw (.slice none 0 0)) (.cons 1 (.raw (.bool false)) .nil))) R' [] := fun h R' hs =>
    hK R' _ [] false hs (.nil 1 none) (by rw [h]; rfl) (fun x hx => by rw [h] at hx; cases hx)
  refine CallW.then (vcF_ok Tryd.func46 c46 ?_)
  generalize Tryd.prog = P
  cbv
  refine ⟨fun b1 h1 => ?_⟩
  rw [bstr_eq] at h1
  cases b1
  · have h1' : ¬ t.data.toList = [45] := fun h => by cases h1.2 h
    cbv
    refine ⟨fun k len cap R' hl hsub hro => ?_⟩
    cbv
    refine ⟨fun c6 h6 => ?_⟩
    have hc6 : c6 = t.data.toList.length := by simp only [zN] at h6; rw [h6, hl, bsize]
    rw [bsize] at hsz
    rw [bsize] at hl
    obtain ⟨l, hL⟩ : ∃ l, t.data.toList = l := ⟨_, rfl⟩
    rw [hL] at hc6 hsz h1 h1' hl hK bad
    cbv
    refine loop_see (fun x : Int × List Value × Nat × Nat => (⟨R', [.buf x.2.1 1 4], Tm.cons 2 (.raw (.slice none 0 0)) (Tm.cons 3 (.raw (.bool false)) (Tm.cons 4 (.sl 0 0 0 1 x.2.2.1 x.2.2.2) (Tm.cons 10 (.raw (.slice (some ⟨k, 0, none⟩) len cap)) (Tm.cons 11 (.raw (.int .i64 c6)) (Tm.cons 12 (.raw (.int .i64 x.1)) .nil))))), 37, [], none, 0⟩ : St))
      (fun x => 0 ≤ x.1 ∧ x.1 ≤ c6 ∧ x.2.2.1 = x.2.1.length ∧ x.2.1 = boolV ((l.take x.1.toNat).map (· == 49)) ∧ ∀ c ∈ l.take x.1.toNat, c = 48 ∨ c = 49) (fun x => (c6 - x.1).toNat) (0, [], 0, 0) [none] (by cbv; repeat (first | exact trivial | refine ⟨.mk _, ?_⟩)) ⟨by simp, by simp [hc6], by simp, by simp [boolV], by simp⟩ ?_
    rintro ⟨i, es, n, m⟩ ⟨hi0, hi1, hi2, hi3, hi4⟩ K' hK'
    simp only at hi0 hi1 hi2 hi3 hi4 hK' ⊢
    have hnl : n = (l.take i.toNat).length := by rw [hi2, hi3]; simp [boolV]
    have hnle : n ≤ l.length := by rw [hnl, List.length_take]; omega
    have hel : es.length ≤ l.length := by omega
    cbv
    refine ⟨fun b2 h2 => ?_⟩
    cases b2
    · have hlt : ¬ i < c6 := fun h => by cases h2.2 h
      have htk : l.take i.toNat = l := List.take_of_length_le (by ((try simp only [nc] at *); omega))
      rw [htk] at hi3 hi4 hnl
      cbv
      refine ⟨fun c7 h7 => ?_⟩
      cbv
      refine ⟨fun b3 h3 => ?_⟩
      have fin : ∀ b, b = (Sc.bitL l).isSome → ∀ R'' q, SubRO R' R'' → ROSl R'' (.slice q n m) es 1 → K (.tup (.cons 1 (.raw (.slice q n m)) (.cons 1 (.raw (.bool b)) .nil))) R'' [] := by
        intro b hb R'' q hs hr
        refine hK R'' _ es b (hsub.trans hs) hr hb (fun x hx => ?_)
        unfold Sc.bitL at hx
        rw [if_neg h1'] at hx
        split at hx
        · cases hx; exact hi3
        · cases hx
      have hbit : (Sc.bitL l).isSome = decide (0 < l.length ∧ l.length ≤ 64) := by
        unfold Sc.bitL
        rw [if_neg h1']
        split
        · next h => simp [h.2.1, h.2.2]
        · next h =>
          symm
          simp only [Option.isSome_none, decide_eq_false_iff_not]
          exact fun g => h ⟨hi4, g⟩
      have hlen : n = es.length := hi2
      have hz : zN n = (n : Int) := rfl
      cases b3
      · have h3' : ¬ 0 < c7 := fun h => by cases h3.2 h
        cbv
        refine Then.frzT es rfl rfl (by simp [hlen]) hlen.symm fun R'' q hs hr => ?_
        refine Then.trim rfl rfl (.ret (fin _ ?_ _ _ hs hr))
        rw [hbit]; symm; simp only [decide_eq_false_iff_not]
        ((try simp only [nc] at *); omega)
      · have h3' : 0 < c7 := h3.1 rfl
        cbv
        refine ⟨fun c8 h8 => ?_⟩
        cbv
        refine ⟨fun b4 h4 => ?_⟩
        cases b4
        · have h4' : ¬ c8 ≤ 64 := fun h => by cases h4.2 h
          cbv
          refine Then.frzT es rfl rfl (by simp [hlen]) hlen.symm fun R'' q hs hr => ?_
          refine Then.trim rfl rfl (.ret (fin _ ?_ _ _ hs hr))
          rw [hbit]; symm; simp only [decide_eq_false_iff_not]
          ((try simp only [nc] at *); omega)
        · have h4' : c8 ≤ 64 := h4.1 rfl
          cbv
          refine Then.frzT es rfl rfl (by simp [hlen]) hlen.symm fun R'' q hs hr => ?_
          refine Then.trim rfl rfl (.ret (fin _ ?_ _ _ hs hr))
          rw [hbit]; symm; simp only [decide_eq_true_eq]
          ((try simp only [nc] at *); omega)
    · have hlt : i < c6 := h2.1 rfl
      have hj : i.toNat < l.length := by ((try simp only [nc] at *); omega)
      have hgj : l[i.toNat]? = some l[i.toNat] := by simp [hj]
      cbv
      refine ⟨by omega, by ((try simp only [nc] at *); omega), fun j hj2 => ?_⟩
      have hjj : j = i.toNat := by ((try simp only [nc] at *); omega)
      subst hjj
      generalize hcc : l[i.toNat] = c at *
      refine LdP.byte hro c (by rw [hL]; exact hgj) fun cn hcn => ?_
      simp only [zN] at hcn
      have bd : c ≠ 48 → c ≠ 49 → Sc.bitL l = none := by
        intro g1 g2
        unfold Sc.bitL
        rw [if_neg h1', if_neg]
        intro g
        rcases g.1 c (by rw [← hcc]; exact List.getElem_mem hj) with g | g
        · exact g1 g
        · exact g2 g
      have c48 : (c = 48 ↔ cn = 48) := by rw [hcn, ← UInt8.toNat_inj]; simp; omega
      have c49 : (c = 49 ↔ cn = 49) := by rw [hcn, ← UInt8.toNat_inj]; simp; omega
      have step : ∀ b : Bool, (b = true ↔ cn = 49) → (c = 48 ∨ c = 49) → ∀ c9 es2 n2 m2, c9 = IntKind.i64.wrap (i + 1) → es2 = es ++ [Value.bool b] → n2 = es2.length → n2 ≤ m2 →
          (0 ≤ c9 ∧ c9 ≤ c6 ∧ n2 = es2.length ∧ es2 = boolV ((l.take c9.toNat).map (· == 49)) ∧ ∀ c ∈ l.take c9.toNat, c = 48 ∨ c = 49) ∧ (c6 - c9).toNat < (c6 - i).toNat := by
        intro b hb hc c9 es2 n2 m2 h9 he hn2 hm2
        rw [wrap_id (by omega) (by ((try simp only [nc] at *); omega))] at h9
        have h9t : c9.toNat = i.toNat + 1 := by omega
        refine ⟨⟨by omega, by ((try simp only [nc] at *); omega), hn2, ?_, ?_⟩, by ((try simp only [nc] at *); omega)⟩
        · rw [he, hi3, h9t, take_succ hgj]
          simp only [boolV, List.map_append, List.map_cons, List.map_nil]
          congr 3
          rw [Bool.eq_iff_iff, hb, ← c49]; simp
        · rw [h9t, take_succ hgj]
          intro d hd
          rcases List.mem_append.1 hd with hd | hd
          · exact hi4 d hd
          · simp only [List.mem_singleton] at hd; subst hd; exact hc
      cbv
      refine ⟨fun b3 h3 => ?_⟩
      cases b3
      · have e48 : cn = 48 := Decidable.by_contra fun h => by cases h3.2 h
        cbv
        refine ⟨fun b4 h4 => ?_⟩
        cbv
        refine ⟨_, rfl, rfl, ?_⟩
        cbv
        refine ⟨hi2, ?_⟩
        refine ⟨by simp; ((try simp only [nc] at *); omega), fun es2 n2 m2 he hn2 hm2 => ?_⟩
        cbv
        refine ⟨fun c9 h9 => ?_⟩
        obtain ⟨hI, hM⟩ := step b4 h4 (.inl (c48.2 e48)) c9 es2 n2 m2 h9 he hn2 hm2
        refine hK' _ (c9, es2, n2, m2) [some 2] (by cbv; repeat (first | exact trivial | refine ⟨.mk _, ?_⟩)) hI hM
      · have e48 : ¬ cn = 48 := h3.1 rfl
        cbv
        refine ⟨fun b4 h4 => ?_⟩
        cases b4
        · have e49 : cn = 49 := Decidable.by_contra fun h => by cases h4.2 h
          cbv
          refine ⟨fun b5 h5 => ?_⟩
          cbv
          refine ⟨_, rfl, rfl, ?_⟩
          cbv
          refine ⟨hi2, ?_⟩
          refine ⟨by simp; ((try simp only [nc] at *); omega), fun es2 n2 m2 he hn2 hm2 => ?_⟩
          cbv
          refine ⟨fun c9 h9 => ?_⟩
          obtain ⟨hI, hM⟩ := step b5 h5 (.inr (c49.2 e49)) c9 es2 n2 m2 h9 he hn2 hm2
          refine hK' _ (c9, es2, n2, m2) [some 2] (by cbv; repeat (first | exact trivial | refine ⟨.mk _, ?_⟩)) hI hM
        · have e49 : ¬ cn = 49 := h4.1 rfl
          cbv
          refine Then.trim rfl rfl (.ret (bad (bd (fun h => e48 (c48.1 h)) (fun h => e49 (c49.1 h))) _ hsub))
  · have h1' : t.data.toList = [45] := h1.1 rfl
    cbv
    refine Then.ret (hK R _ [] true (.refl _) (.nil 1 none) (by rw [h1']; rfl) (fun x hx => ?_))
    rw [h1'] at hx
    cases hx; rfl
end Go.Proofs

namespace Go.Proofs
open Go Go.SX
set_option maxRecDepth 100000
def numB (t : ByteArray) : Int × Bool :=
  if t.size = 0 ∨ 6 < t.size ∨ (1 < t.size ∧ t.data[0]? = some 48) then (0, false)
  else match Sc.digv t.data.toList 0 with
    | some n => (n, true)
    | none => (0, false)

theorem w43 (P : Program) (t : ByteArray) (R : RO) (K : SV → RO → List SObj → Prop)
   (hK : ∀ (n : Int) (b : Bool) R', (n, b) = numB t → K (.tup (toSC [.raw (.int .i64 n), .raw (.bool b)])) R' []) :
    vcF P i43 [.raw (.string t)] R [] K := by
  have rest : ¬ (t.size = 0 ∨ 6 < t.size ∨ (1 < t.size ∧ t.data[0]? = some 48)) → vcC P (match i43 with | ⟨_, .seq _ (.keep _ (.seq _ c)), _⟩ => c | _ => .skip)
      ⟨R, [], Tm.cons 0 (.raw (.string t)) (Tm.cons 2 (.raw (.int .i64 0)) (Tm.cons 3 (.raw (.bool false)) .nil)), 45, [], none, 0⟩ (fun s => vcOut 0 s [RV.t 2, RV.t 3] K) (fun _ _ => False) (fun s => vcOut 0 s [RV.t 2, RV.t 3] K) := by
    intro hb
    have hnum : numB t = match Sc.digv t.data.toList 0 with
      | some n => (n, true)
      | none => (0, false) := by unfold numB; rw [if_neg hb]
    cbv
    refine ⟨fun k len cap R' hl hsub hro => ?_⟩
    cbv
    refine ⟨fun c6 h6 => ?_⟩
    have hz : ∀ n : Nat, zN n = (n : Int) := fun _ => rfl
    cbv
    refine loop_rule (2^2+2^3+2^4+2^25+2^26+2^27) (fun x : Int × Int => (⟨R', [], Tm.cons 2 (.raw (.int .i64 0)) (Tm.cons 3 (.raw (.bool false)) (Tm.cons 4 (.raw (.int .i64 x.2)) (Tm.cons 25 (.raw (.slice (some ⟨k, 0, none⟩) len cap)) (Tm.cons 26 (.raw (.int .i64 c6)) (Tm.cons 27 (.raw (.int .i64 x.1)) .nil))))), 45, [], none, 0⟩ : St))
      (fun x => 0 ≤ x.1 ∧ x.1 ≤ c6 ∧ (0 ≤ x.2 ∧ x.2 < 10 ^ x.1.toNat) ∧ Sc.digv (t.data.toList.drop x.1.toNat) x.2 = Sc.digv t.data.toList 0) (fun x => (c6 - x.1).toNat) (0, 0) rfl ⟨by simp, by simp [h6, zN], by simp, by simp⟩ ?_
    rintro ⟨i, v⟩ ⟨hi0, hi1, hv, hi2⟩ K' hK'
    simp only at hi0 hi1 hv hi2 hK' ⊢
    have h6z : c6.toNat = len ∧ 0 ≤ c6 := by simp [h6, zN]
    cbv
    refine ⟨fun b1 h1 => ?_⟩
    cases b1
    · cbv
      refine hK _ _ _ ?_
      simp at h1
      have hd : t.data.toList.drop i.toNat = [] := List.drop_eq_nil_of_le (by have : t.data.size = t.size := rfl; simp; omega)
      rw [hd] at hi2
      rw [hnum, ← hi2]; rfl
    · cbv
      simp at h1
      refine ⟨by omega, by have := h6z.2; omega, fun j hj => ?_⟩
      cbv
      have hlt : j < t.data.size := by have : t.data.size = t.size := rfl; omega
      have hji : j = i.toNat := by simpa using hj
      have hdrop : t.data.toList.drop i.toNat = t.data[j] :: t.data.toList.drop (i.toNat + 1) := by
        subst hji; rw [List.drop_eq_getElem_cons (by simpa using hlt)]; simp
      refine .mk (bytesV t) (.int .u8 (t.data[j].toNat : Int)) _ hro (by simp [bytesV]; exact ⟨_, by simp [hlt], rfl⟩) rfl ?_
      have hc0 : (0 : Int) ≤ (t.data[j].toNat : Int) := by omega
      have hc1 : (t.data[j].toNat : Int) < 256 := by have := t.data[j].toNat_lt; omega
      rw [hdrop] at hi2
      generalize hcc : (t.data[j].toNat : Int) = c at hc0 hc1 ⊢
      have hdig : ∀ a, Sc.digv (t.data[j] :: t.data.toList.drop (i.toNat + 1)) a = if c < 48 ∨ 57 < c then none else Sc.digv (t.data.toList.drop (i.toNat + 1)) (10 * a + (c - 48)) := by
        intro a
        simp only [Sc.digv]
        have e1 : (t.data[j].toNat < 48 ∨ 57 < t.data[j].toNat) ↔ (c < 48 ∨ 57 < c) := by omega
        simp only [e1, hcc]
      cbv
      refine ⟨fun b2 h2 => ?_⟩
      cases b2
      · cbv
        refine ⟨fun b3 h3 => ?_⟩
        cases b3
        · cbv
          refine ⟨fun m4 h4 => ?_⟩
          cbv
          refine ⟨fun m5 h5 => ?_⟩
          cbv
          refine ⟨fun m6 h6 => ?_⟩
          cbv
          refine ⟨fun m7 h7 => ?_⟩
          cbv
          refine ⟨fun m8 h8 => ?_⟩
          cbv
          simp at h2 h3
          have hi6 : i < 6 := by omega
          have hp : (10 : Int) ^ i.toNat ≤ 100000 := by
            have : i.toNat = 0 ∨ i.toNat = 1 ∨ i.toNat = 2 ∨ i.toNat = 3 ∨ i.toNat = 4 ∨ i.toNat = 5 := by omega
            rcases this with h | h | h | h | h | h <;> rw [h] <;> decide
          have hp2 : (10 : Int) ^ (i + 1).toNat = 10 * 10 ^ i.toNat := by
            have : (i + 1).toNat = i.toNat + 1 := by omega
            rw [this, Int.pow_succ, Int.mul_comm]
          have w4 : m4 = 10 * v := by rw [h4]; exact wrap_id (by omega) (by omega)
          have w5 : m5 = c - 48 := by rw [h5]; exact wrap_id8 (by omega) (by omega)
          have w6 : m6 = c - 48 := by rw [h6, w5]; exact wrap_id (by omega) (by omega)
          have w7 : m7 = 10 * v + (c - 48) := by rw [h7, w4, w6]; exact wrap_id (by omega) (by omega)
          have w8 : m8 = i + 1 := by rw [h8]; exact wrap_id (by omega) (by omega)
          clear h4 h5 h6 h7 h8
          subst w7 w8
          refine hK' _ (i + 1, 10 * v + (c - 48)) rfl ⟨?_, ?_, ⟨?_, ?_⟩, ?_⟩ ?_ <;> dsimp only
          · omega
          · omega
          · omega
          · rw [hp2]; omega
          · have : (i + 1).toNat = i.toNat + 1 := by omega
            rw [this, ← hi2, hdig, if_neg (by omega)]
          · omega
        · cbv
          refine hK _ _ _ ?_
          simp at h3
          rw [hnum, ← hi2, hdig, if_pos (.inr h3)]
      · cbv
        refine hK _ _ _ ?_
        simp at h2
        rw [hnum, ← hi2, hdig, if_pos (.inl h2)]
  have bad : (t.size = 0 ∨ 6 < t.size ∨ (1 < t.size ∧ t.data[0]? = some 48)) → (0, false) = numB t := fun h => by unfold numB; rw [if_pos h]
  cbv
  refine ⟨fun b1 h1 => ?_⟩
  cases b1
  · cbv
    refine ⟨fun c2 h2 => ?_⟩
    cbv
    refine ⟨fun b3 h3 => ?_⟩
    cases b3
    · cbv
      refine ⟨fun c4 h4 => ?_⟩
      cbv
      refine ⟨fun b5 h5 => ?_⟩
      have hne : t.size ≠ 0 := fun h => by
        simp at h1
        refine h1 ?_
        apply ByteArray.ext
        exact Array.eq_empty_of_size_eq_zero h
      have h3' : ¬ 6 < t.size := by simp only [zN] at h2; simp at h3; omega
      cases b5
      · have := rest (by simp only [zN] at h4; simp at h5; omega)
        cbv at this
        cbv
        exact this
      · cbv
        refine ⟨by simp, by simp only [zN] at h4; simp at h5; omega, fun j hj => ?_⟩
        cbv
        refine ⟨fun ch n hch hn => ?_⟩
        cbv
        refine ⟨fun b6 h6 => ?_⟩
        simp at hj
        subst hj
        cases b6
        · have := rest (by
            rintro (h | h | ⟨_, h⟩)
            · exact hne h
            · exact h3' h
            · rw [hch] at h; cases h; simp [hn, zN] at h6)
          cbv at this
          cbv
          exact this
        · cbv
          refine hK _ _ _ (bad (.inr (.inr ⟨by simp only [zN] at h4; simp at h5; omega, ?_⟩)))
          simp [hn, zN] at h6
          rw [hch]
          congr 1
          apply UInt8.toNat_inj.1
          simpa using (by omega : ch.toNat = 48)
    · cbv
      refine hK _ _ _ (bad (.inr (.inl ?_)))
      simp only [zN] at h2; simp at h3; omega
  · cbv
    refine hK _ _ _ (bad (.inl ?_))
    simp at h1
    rw [h1]; rfl


def numP (l : Sc.Bs) : Int × Bool := match Sc.numL l with
  | some n => (n, true)
  | none => (0, false)
theorem numB_eq (t : ByteArray) : numB t = numP t.data.toList := by
  unfold numB numP Sc.numL
  have e1 : (t.size = 0 ∨ 6 < t.size ∨ (1 < t.size ∧ t.data[0]? = some 48)) ↔ (t.data.toList.length = 0 ∨ 6 < t.data.toList.length ∨ (1 < t.data.toList.length ∧ t.data.toList[0]? = some 48)) := by
    rw [bsize]; simp
  simp only [e1]
  split
  · rfl
  · rfl
/-- number -/
theorem f43 (t : ByteArray) (R : RO) : CallW Tryd.prog 43 [.raw (.string t)] R [] (fun sv R' H' => sv = .tup (.cons 1 (.raw (.int .i64 (numP t.data.toList).1)) (.cons 1 (.raw (.bool (numP t.data.toList).2)) .nil)) ∧ R' = R ∧ H' = []) := by
  refine CallW.shrink (vcF_ok Tryd.func43 c43 (w43 _ t R _ fun n b R' h => ?_))
  rw [numB_eq] at h
  rw [← h]
  exact ⟨rfl, rfl, rfl⟩
end Go.Proofs

namespace Go.Proofs
open Go Go.SX
set_option maxRecDepth 100000
theorem numP_t {l : Sc.Bs} {n : Int} (h : numP l = (n, true)) : Sc.numL l = some n := by
  unfold numP at h
  split at h
  · next h1 => cases h; exact h1
  · cases h
theorem numP_f {l : Sc.Bs} {n : Int} (h : numP l = (n, false)) : Sc.numL l = none := by
  unfold numP at h
  split at h
  · cases h
  · next h1 => exact h1
theorem intV_len (l : List Int) : (intV l).length = l.length := by simp [intV]
theorem f45 (t : ByteArray) (R : RO) (K : SV → RO → List SObj → Prop) (hsz : t.size ≤ 2 ^ 40)
   (h54 : ∀ (s : ByteArray) (c : UInt8) (R : RO), CallW Tryd.prog 54 [.raw (.string s), .raw (.string ⟨#[c]⟩)] R [] (fun sv R' H' => sv = .raw (.int .i64 (Lib.indexByte s.data.toList c)) ∧ R' = R ∧ H' = []))
   (e54 : Ent Tryd.prog 54)
   (hK : ∀ R' v es b, SubRO R R' → ROSl R' v es 1 → b = (Sc.powL t.data.toList).isSome → (∀ x, Sc.powL t.data.toList = some x → es = intV x) → K (.tup (.cons 1 (.raw v) (.cons 1 (.raw (.bool b)) .nil))) R' []) :
    CallW Tryd.prog 45 [.raw (.string t)] R [] K := by
  have v56 := fun (args : List SV) (R : RO) (H : List SObj) K h => @vcF_ok Tryd.prog R H 56 _ _ Tryd.func56 c56 args K h
  have v64 := fun (args : List SV) (R : RO) (H : List SObj) K h => @vcF_ok Tryd.prog R H 64 _ _ Tryd.func64 c64 args K h
  have v71 := fun (args : List SV) (R : RO) (H : List SObj) K h => @vcF_ok Tryd.prog R H 71 _ _ Tryd.func71 c71 args K h
  have e56' := e56
  have e64' := e64
  have e71' := e71
  have e43' := e43
  have h43 := f43
  have hm : Tryd.prog.follows .mixedOrders = true := by kernel_rfl
  have bad : Sc.powL t.data.toList = none → K (.tup (.cons 1 (.raw (.slice none 0 0)) (.cons 1 (.raw (.bool false)) .nil))) R [] := fun h =>
    hK R _ [] false (.refl _) (.nil 1 none) (by rw [h]; rfl) (fun x hx => by rw [h] at hx; cases hx)
  refine CallW.then (vcF_ok Tryd.func45 c45 ?_)
  revert h54 e54 v56 v64 v71 e56' e64' e71' e43' h43 hm
  generalize Tryd.prog = P
  intro h54 e54 v56 v64 v71 e56' e64' e71' e43' h43 hm
  cbv
  refine ⟨fun b1 h1 => ?_⟩
  rw [bstr_eq] at h1
  cases b1
  · have h1' : ¬ t.data.toList = [45] := fun h => by cases h1.2 h
    have hpow : Sc.powL t.data.toList = (Sc.allL Sc.numL (Sc.spl 44 t.data.toList)).bind fun l => if l.length ≤ 7 then some l else none := by
      unfold Sc.powL; rw [if_neg h1']
    cbv
    refine .mk e56' (v56 _ _ _ _ ?_)
    cbv
    refine .mk e64' (v64 _ _ _ _ ?_)
    cbv
    refine rng_rule ?_
    cbv
    refine .mk e71' (v71 _ _ _ _ ?_)
    cbv
    refine ⟨fun c1 hc1 => ?_⟩
    cbv
    refine ⟨fun b2 h2 => ?_⟩
    have hb2 : b2 = false := by
      cases b2
      · rfl
      · have := h2.1 rfl
        rw [hc1] at this
        cases this
    subst hb2
    cbv
    refine loop_at (fun s (x : ByteArray × List Value × Nat × Nat) => { s with heap := hpush (hset (hset s.heap 3 (.cells (.cons 1 (.raw (.string x.1)) .nil) 9)) 2 (.cells (.cons 1 (.sl 8 0 0 1 x.2.2.1 x.2.2.2) .nil) 28)) (.buf x.2.1 1 3) })
      (fun x => x.2.2.1 = x.2.1.length ∧ ∃ acc : List Int, x.2.1 = intV acc ∧ Sc.allL Sc.numL (Sc.spl 44 t.data.toList) = (Sc.allL Sc.numL (Sc.spl 44 x.1.data.toList)).map (acc ++ ·) ∧ acc.length + x.1.size ≤ t.size)
      (fun x => x.1.size) (t, [], 0, 0) [some 0, some 1, some 2, some 3, some 4, some 5, some 6, some 7, none] (by cbv; repeat (first | exact trivial | refine ⟨.mk _, ?_⟩)) ⟨rfl, [], rfl, by simp, by simp⟩ ?_
    rintro ⟨r, es, n, m⟩ ⟨hn, acc, hes, hacc, hlen⟩ K' hK'
    simp only at hn hes hacc hlen hK' ⊢
    have hel : es.length = acc.length := by rw [hes, intV_len]
    cbv
    refine CallAt.use [] [] [.raw (.string r), .raw (.string ⟨#[44]⟩)] e54 (h54 r 44 R) rfl rfl rfl rfl ?_
    rintro sv R' H' ⟨rfl, rfl, rfl⟩
    obtain ⟨ix, hix⟩ : ∃ ix, Lib.indexByte r.data.toList 44 = ix := ⟨_, rfl⟩
    rw [hix]
    cbv
    refine ⟨fun b3 h3 => ?_⟩
    cases b3
    · have h3' : ¬ ix < 0 := fun h => by cases h3.2 h
      obtain ⟨j1, j2, j3, j4⟩ : 0 ≤ ix ∧ ix.toNat < r.data.toList.length ∧ 44 ∉ r.data.toList.take ix.toNat ∧ r.data.toList = r.data.toList.take ix.toNat ++ 44 :: r.data.toList.drop (ix.toNat + 1) := by
        rcases Sc.idx_cut r.data.toList 44 with ⟨g1, _⟩ | g
        · omega
        · rw [hix] at g; exact g
      have hsp := Sc.spl_idx (l := r.data.toList) (c := 44) (by omega)
      rw [hix] at hsp
      rw [hsp] at hacc
      rw [← bsize] at j2
      cbv
      refine ⟨fun c2 hc2 => ?_⟩
      rw [wrap_id (by omega) (by ((try simp only [nc] at *); omega))] at hc2
      have hc2' : c2 = ix := by omega
      subst hc2'
      cbv
      refine ⟨fun n0 hn0 => ?_⟩
      cbv
      refine ⟨⟨by omega, by ((try simp only [nc] at *); omega)⟩, ⟨fun c3 hc3 => ?_⟩⟩
      cbv
      refine ⟨fun pc hpc => ?_⟩
      have hpl : pc.data.toList = r.data.toList.take c2.toNat := by rw [hpc, ext_list, hc3]; simp
      rw [← hpl] at hacc
      cbv
      refine round_rule ?_
      cbv
      refine CallAt.use [] [] [.raw (.string pc)] e43' (h43 pc R') rfl rfl rfl rfl ?_
      rintro sv R'' H'' ⟨rfl, rfl, rfl⟩
      obtain ⟨pn, pb, hp⟩ : ∃ pn pb, numP (pc).data.toList = (pn, pb) := ⟨_, _, rfl⟩
      rw [hp]
      cbv
      cases pb
      · cbv
        refine .ret (bad ?_)
        rw [hpow, hacc]
        simp [Sc.allL, numP_f hp]
      · cbv
        refine ⟨_, rfl, rfl, ?_⟩
        cbv
        refine ⟨hn, ?_⟩
        refine ⟨by simp; ((try simp only [nc] at *); omega), fun es2 n2 m2 he hn2 hm2 => ?_⟩
        cbv
        refine ⟨fun c4 hc4 => ?_⟩
        cbv
        refine ⟨fun c5 hc5 => ?_⟩
        have hc4' : c4 = 1 := hc4
        rw [hc4', wrap_id (by omega) (by ((try simp only [nc] at *); omega))] at hc5
        cbv
        refine ⟨fun n1 hn1 => ?_⟩
        cbv
        refine ⟨⟨by omega, by ((try simp only [nc] at *); omega)⟩, ⟨fun c6 hc6 => ?_⟩⟩
        cbv
        refine ⟨fun rs hrs => ?_⟩
        have hrl : rs.data.toList = r.data.toList.drop (c2.toNat + 1) := by
          rw [hrs, ext_list, hc6, hn1, bsize]
          rw [show c5.toNat = c2.toNat + 1 by omega]
          exact List.take_of_length_le (by simp)
        have hrz : rs.size = r.size - (c2.toNat + 1) := by rw [bsize, hrl, List.length_drop, ← bsize]
        refine hK' _ (rs, es2, n2, m2) [some 0, some 1, some 2, some 3, some 4, some 5, some 6, some 7, some 10] (by cbv; repeat (first | exact trivial | refine ⟨.mk _, ?_⟩)) ⟨hn2, acc ++ [pn], ?_, ?_, ?_⟩ (by ((try simp only [nc] at *); omega))
        · rw [he, hes]; simp [intV]
        · rw [hacc, hrl]
          simp only [Sc.allL, numP_t hp, Option.bind_some, Option.map_map]
          congr 1
          funext l
          simp
        · simp only [List.length_append, List.length_cons, List.length_nil]; ((try simp only [nc] at *); omega)
    · have h3' : ix < 0 := h3.1 rfl
      have hsp := Sc.spl_idx_none (l := r.data.toList) (c := 44) (by omega)
      rw [hsp] at hacc
      cbv
      refine round_rule ?_
      cbv
      refine CallAt.use [] [] [.raw (.string r)] e43' (h43 r R') rfl rfl rfl rfl ?_
      rintro sv R'' H'' ⟨rfl, rfl, rfl⟩
      obtain ⟨pn, pb, hp⟩ : ∃ pn pb, numP (r).data.toList = (pn, pb) := ⟨_, _, rfl⟩
      rw [hp]
      cbv
      cases pb
      · cbv
        refine .ret (bad ?_)
        rw [hpow, hacc]
        simp [Sc.allL, numP_f hp]
      · have hall : Sc.allL Sc.numL (Sc.spl 44 t.data.toList) = some (acc ++ [pn]) := by
          rw [hacc]; simp [Sc.allL, numP_t hp]
        cbv
        refine ⟨_, rfl, rfl, ?_⟩
        cbv
        refine ⟨hn, ?_⟩
        refine ⟨by simp; ((try simp only [nc] at *); omega), fun es2 n2 m2 he hn2 hm2 => ?_⟩
        cbv
        refine draw_rule hm ?_
        cbv
        refine ⟨fun c4 hc4 => ?_⟩
        cbv
        refine ⟨fun b5 h5 => ?_⟩
        have hlen2 : es2.length = acc.length + 1 := by rw [he, List.length_append, hel]; rfl
        cbv
        refine ⟨by ((try simp only [nc] at *); omega), ⟨.mk _, ?_⟩⟩
        refine Then.frzT es2 rfl rfl (by simp [hn2]) hn2.symm fun R3 q hs hr => ?_
        refine Then.trim rfl rfl (.ret (hK R3 _ es2 b5 hs hr ?_ fun x hx => ?_))
        · rw [hpow, hall, Bool.eq_iff_iff, h5]
          have hz : zN n2 = (n2 : Int) := rfl
          simp only [Option.bind_some]
          split
          · next g => simp only [List.length_append, List.length_cons, List.length_nil] at g; simp only [Option.isSome_some, iff_true]; ((try simp only [nc] at *); omega)
          · next g => simp only [List.length_append, List.length_cons, List.length_nil] at g; simp only [Option.isSome_none, Bool.false_eq_true, iff_false]; ((try simp only [nc] at *); omega)
        · rw [hpow, hall] at hx
          simp only [Option.bind_some] at hx
          split at hx
          · cases hx; rw [he, hes]; simp [intV]
          · cases hx
  · have h1' : t.data.toList = [45] := h1.1 rfl
    cbv
    refine Then.ret (hK R _ [] true (.refl _) (.nil 1 none) (by rw [h1']; rfl) (fun x hx => ?_))
    rw [h1'] at hx
    cases hx; rfl
end Go.Proofs

namespace Go.Proofs
open Go Go.SX
set_option maxRecDepth 100000
theorem f44 (t : ByteArray) (R : RO) (K : SV → RO → List SObj → Prop) (hsz : t.size ≤ 2 ^ 40)
   (h28 : ∀ (s : ByteArray) (c : UInt8) (n : Int) (R : RO), n = zN c.toNat → CallW Tryd.prog 28 [.raw (.string s), .raw (.int .u8 n)] R [] (fun sv R' H' => sv = .raw (.int .i64 (Lib.indexByte s.data.toList c)) ∧ R' = R ∧ H' = []))
   (e28 : Ent Tryd.prog 28)
   (hK : ∀ R' v es b, SubRO R R' → ROSl R' v es 1 → b = (Sc.hexL t.data.toList).isSome → (∀ x, Sc.hexL t.data.toList = some x → es = byV x) → K (.tup (.cons 1 (.raw v) (.cons 1 (.raw (.bool b)) .nil))) R' []) :
    CallW Tryd.prog 44 [.raw (.string t)] R [] K := by
  have v55 := fun (args : List SV) (R : RO) (H : List SObj) K h => @vcF_ok Tryd.prog R H 55 _ _ Tryd.func55 c55 args K h
  have v63 := fun (args : List SV) (R : RO) (H : List SObj) K h => @vcF_ok Tryd.prog R H 63 _ _ Tryd.func63 c63 args K h
  have e55' := e55
  have e63' := e63
  have hm : Tryd.prog.follows .mixedOrders = true := by kernel_rfl
  have bad : Sc.hexL t.data.toList = none → ∀ R', SubRO R R' → K (.tup (.cons 1 (.raw (.slice none 0 0)) (.cons 1 (.raw (.bool false)) .nil))) R' [] := fun h R' hs =>
    hK R' _ [] false hs (.nil 1 none) (by rw [h]; rfl) (fun x hx => by rw [h] at hx; cases hx)
  refine CallW.then (vcF_ok Tryd.func44 c44 ?_)
  revert h28 e28 v55 v63 e55' e63' hm
  generalize Tryd.prog = P
  intro h28 e28 v55 v63 e55' e63' hm
  cbv
  refine ⟨fun b1 h1 => ?_⟩
  rw [bstr_eq] at h1
  cases b1
  · have h1' : ¬ t.data.toList = [45] := fun h => by cases h1.2 h
    have main : ∀ (H : St), True := fun _ => trivial
    cbv
    refine ⟨fun b2 h2 => ?_⟩
    rw [bstr_eq] at h2
    cases b2
    · have h2' : ¬ t.data.toList = [] := fun h => by cases h2.2 h
      cbv
      refine ⟨fun c1 hc1 => ?_⟩
      cbv
      refine ⟨by decide, ⟨fun c2 hc2 => ?_⟩⟩
      cbv
      refine ⟨fun b3 h3 => ?_⟩
      cases b3
      · have h3' : c2 = 0 := Decidable.by_contra fun h => by cases h3.2 h
        cbv
        refine ⟨fun k len cap R' hl hsub hro => ?_⟩
        cbv
        refine .mk e55' (v55 _ _ _ _ ?_)
        cbv
        refine ⟨fun b4 h4 => ?_⟩
        have hb4 : b4 = false := by
          cases b4
          · rfl
          · exact absurd (h4.1 rfl) (by decide)
        subst hb4
        cbv
        refine rng_rule ?_
        cbv
        refine .mk e63' (v63 _ _ _ _ ?_)
        cbv
        rw [bsize] at hl hsz hc1
        obtain ⟨l, hL⟩ : ∃ l, t.data.toList = l := ⟨_, rfl⟩
        rw [hL] at hl hsz hc1 h1 h1' h2 h2' bad hK
        have heven : l.length % 2 = 0 := by
          have : c1 = (l.length : Int) := hc1
          rw [hc2, this] at h3'
          have h4 : (l.length : Int).tmod 2 = ((l.length % 2 : Nat) : Int) := rfl
          omega
        have hhex : Sc.hexL l = Sc.hexP l := by unfold Sc.hexL; rw [if_neg h1', if_neg h2']
        refine loop_at (fun s (x : Int × List Value × Nat × Nat) => { s with heap := hpush (hset s.heap 2 (.cells (.cons 1 (.sl 7 0 0 1 x.2.2.1 x.2.2.2) .nil) 30)) (.buf x.2.1 1 5), tm := s.tm.put 4 (.raw (.int .i64 x.1)) })
          (fun x => x.2.2.1 = x.2.1.length ∧ ∃ (acc : Sc.Bs) (j : Nat), x.1 = zN (2 * j) ∧ x.2.1 = byV acc ∧ acc.length = j ∧ Sc.hexP l = (Sc.hexP (l.drop (2 * j))).map (acc ++ ·) ∧ 2 * j ≤ l.length)
          (fun x => l.length - x.1.toNat) (0, [], 0, 0) [some 0, some 1, some 2, some 3, some 4, some 5, some 6, none] (by cbv; repeat (first | exact trivial | refine ⟨.mk _, ?_⟩)) ⟨rfl, [], 0, rfl, rfl, rfl, by simp, by simp⟩ ?_
        rintro ⟨i, es, n, m⟩ ⟨hn, acc, j, hij, hes, haj, hacc, hjl⟩ K' hK'
        simp only at hn hij hes haj hacc hjl hK' ⊢
        have hel : es.length = acc.length := by rw [hes]; simp [byV]
        have hij' : i = 2 * j := hij
        cbv
        refine ⟨fun c3 hc3 => ?_⟩
        cbv
        refine ⟨fun b5 h5 => ?_⟩
        have hc3' : c3 = len := hc3
        cases b5
        · have hlt : ¬ i < c3 := fun h => by cases h5.2 h
          cbv
          refine Then.frzT es rfl rfl (by simp [hn]) hn.symm fun R3 q hs hr => ?_
          have hdr : l.drop (2 * j) = [] := List.drop_eq_nil_of_le (by ((try simp only [nc] at *); omega))
          rw [hdr] at hacc
          simp only [Sc.hexP, Option.map_some, List.append_nil] at hacc
          refine Then.trim rfl rfl (.ret (hK R3 _ es true (hsub.trans hs) hr ?_ fun x hx => ?_))
          · rw [hhex, hacc]; rfl
          · rw [hhex, hacc] at hx; cases hx; exact hes
        · have hlt : i < c3 := h5.1 rfl
          have hlc := hro.len.2
          cbv
          refine draw_rule hm ?_
          cbv
          refine ⟨by ((try simp only [nc] at *); omega), ⟨by ((try simp only [nc] at *); omega), ⟨fun j1 hj1 => ⟨fun v1 hv1 => ?_⟩⟩⟩⟩
          obtain ⟨q1, n1, ca1, rfl, hn1, _, _⟩ := hv1.shape
          cbv
          refine ⟨fun c4 hc4 => ?_⟩
          cbv
          refine ⟨fun c5 hc5 => ?_⟩
          have hj1' : j1 = 2 * j := by ((try simp only [nc] at *); omega)
          have hjl2 : 2 * j + 2 ≤ l.length := by ((try simp only [nc] at *); omega)
          have hc4' : c4 = ((len - j1 : Nat) : Int) := by rw [hc4, hn1]; rfl
          have hc5' : c5 = 2 := by rw [hc5]; ((try simp only [nc] at *); omega)
          subst hc5'
          cbv
          refine ⟨fun c6 hc6 => ?_⟩
          rw [wrap_id (by ((try simp only [nc] at *); omega)) (by ((try simp only [nc] at *); omega))] at hc6
          cbv
          refine ⟨fun c7 hc7 => ?_⟩
          rw [wrap_id (by ((try simp only [nc] at *); omega)) (by ((try simp only [nc] at *); omega))] at hc7
          cbv
          refine ⟨⟨by ((try simp only [nc] at *); omega), by ((try simp only [nc] at *); omega)⟩, ⟨fun c8 hc8 => ?_⟩⟩
          refine ⟨⟨by ((try simp only [nc] at *); omega), by ((try simp only [nc] at *); omega), by ((try simp only [nc] at *); omega)⟩, ⟨fun lo hlo => ⟨fun hi hhi => ⟨fun v2 hv2 => ?_⟩⟩⟩⟩
          have hlo' : lo = 2 * j := by ((try simp only [nc] at *); omega)
          have hhi' : hi = 2 * j + 2 := by ((try simp only [nc] at *); omega)
          have hro2 := hro.sub (hi := hi) (c := c8) (by ((try simp only [nc] at *); omega)) (by rw [bytesV_len, bsize, hL]; omega) hv2
          have hg0 : l[2 * j]? = some (l[2 * j]'(by omega)) := List.getElem?_eq_getElem _
          have hg1 : l[2 * j + 1]? = some (l[2 * j + 1]'(by omega)) := List.getElem?_eq_getElem _
          generalize l[2 * j]'(by omega) = x0 at hg0
          generalize l[2 * j + 1]'(by omega) = x1 at hg1
          have hsub2 : ((bytesV t).drop lo).take (hi - lo) = [Value.int .u8 (zN x0.toNat), Value.int .u8 (zN x1.toNat)] := by
            rw [hlo', hhi', show 2 * j + 2 - 2 * j = 2 by omega]
            have h0 : (bytesV t)[2 * j]? = some (Value.int .u8 (zN x0.toNat)) := by simp [bytesV, hL, hg0]; rfl
            have h1 : (bytesV t)[2 * j + 1]? = some (Value.int .u8 (zN x1.toNat)) := by simp [bytesV, hL, hg1]; rfl
            apply List.ext_getElem?
            intro i
            rcases i with _ | _ | i
            · simpa using h0
            · simpa using h1
            · rw [List.getElem?_take]; simp; intro h; omega
          rw [hsub2] at hro2
          obtain ⟨y0, hy0⟩ : ∃ y, y = zN x0.toNat := ⟨_, rfl⟩
          obtain ⟨y1, hy1⟩ : ∃ y, y = zN x1.toNat := ⟨_, rfl⟩
          rw [← hy0, ← hy1] at hro2
          obtain ⟨k2, o2, cap2, hv2e, _⟩ := hro2.shapeN (by simp)
          rw [hv2e] at hro2 ⊢
          have hstep : Sc.hexP (l.drop (2 * j)) = if Lib.indexByte Sc.hexes x0 < 0 ∨ Lib.indexByte Sc.hexes x1 < 0 then none else (Sc.hexP (l.drop (2 * (j + 1)))).map (UInt8.ofNat (16 * (Lib.indexByte Sc.hexes x0).toNat + (Lib.indexByte Sc.hexes x1).toNat) :: ·) := by
            have e1 : l.drop (2 * j) = x0 :: x1 :: l.drop (2 * (j + 1)) := by
              have g0 := List.getElem?_eq_some_iff.1 hg0
              have g1 := List.getElem?_eq_some_iff.1 hg1
              rw [List.drop_eq_getElem_cons (by omega : 2 * j < l.length), List.drop_eq_getElem_cons (by omega : 2 * j + 1 < l.length), g0.2, g1.2]
              rw [show 2 * (j + 1) = 2 * j + 1 + 1 by omega]
            rw [e1]; rfl
          obtain ⟨i0, hi0⟩ : ∃ i0, Lib.indexByte Sc.hexes x0 = i0 := ⟨_, rfl⟩
          obtain ⟨i1, hi1⟩ : ∃ i1, Lib.indexByte Sc.hexes x1 = i1 := ⟨_, rfl⟩
          rw [hi0, hi1] at hstep
          cbv
          refine round_rule ?_
          cbv
          refine draw_rule hm ?_
          cbv
          refine ⟨by decide, by decide, fun p0 hp0 => ?_⟩
          cbv
          refine LdP.at hro2 (Value.int .u8 y0) (by rw [hp0]; rfl) ?_
          cbv
          refine ⟨by decide, by decide, fun p1 hp1 => ?_⟩
          cbv
          refine LdP.at hro2 (Value.int .u8 y1) (by rw [hp1]; rfl) ?_
          cbv
          refine CallAt.use [] [] [.raw (.string ⟨⟨Sc.hexes⟩⟩), .raw (.int .u8 y0)] e28 (h28 ⟨⟨Sc.hexes⟩⟩ x0 y0 R' hy0) rfl rfl rfl rfl ?_
          rintro sv R'' H'' ⟨rfl, rfl, rfl⟩
          simp only [hi0]
          cbv
          refine ⟨LdP.at hro2 (Value.int .u8 y1) (by rw [hp1]; rfl) (.mk _), ?_⟩
          refine CallAt.use [] [] [.raw (.string ⟨⟨Sc.hexes⟩⟩), .raw (.int .u8 y1)] e28 (h28 ⟨⟨Sc.hexes⟩⟩ x1 y1 _ hy1) rfl rfl rfl rfl ?_
          rintro sv R3 H3 ⟨rfl, rfl, rfl⟩
          simp only [hi1]
          cbv
          refine ⟨LdP.at hro2 (Value.int .u8 y0) (by rw [hp0]; rfl) (.mk _), ?_⟩
          cbv
          refine ⟨fun b6 h6 => ?_⟩
          have failN : i0 < 0 ∨ i1 < 0 → Sc.hexL l = none := fun h => by
            rw [hhex, hacc, hstep, if_pos h]; rfl
          cases b6
          · have hi0' : ¬ i0 < 0 := fun h => by cases h6.2 h
            cbv
            refine ⟨fun b7 h7 => ?_⟩
            cases b7
            · have hi1' : ¬ i1 < 0 := fun h => by cases h7.2 h
              have hs0 := Sc.idx_spec Sc.hexes x0
              have hs1 := Sc.idx_spec Sc.hexes x1
              rw [hi0] at hs0
              rw [hi1] at hs1
              have hl16 : Sc.hexes.length = 16 := rfl
              have hb0 : 0 ≤ i0 ∧ i0 < 16 := by rcases hs0 with h | ⟨h, h', _⟩ <;> omega
              have hb1 : 0 ≤ i1 ∧ i1 < 16 := by rcases hs1 with h | ⟨h, h', _⟩ <;> omega
              rw [if_neg (by omega)] at hstep
              cbv
              refine ⟨fun d1 hd1 => ?_⟩
              rw [wrap_id (by ((try simp only [nc] at *); omega)) (by ((try simp only [nc] at *); omega))] at hd1
              cbv
              refine ⟨fun d2 hd2 => ?_⟩
              rw [wrap_id (by ((try simp only [nc] at *); omega)) (by ((try simp only [nc] at *); omega))] at hd2
              cbv
              refine ⟨fun d3 hd3 => ?_⟩
              rw [wrap_id8 (by ((try simp only [nc] at *); omega)) (by ((try simp only [nc] at *); omega))] at hd3
              cbv
              refine ⟨_, rfl, rfl, ?_⟩
              cbv
              refine ⟨hn, ?_⟩
              refine ⟨by simp; ((try simp only [nc] at *); omega), fun es2 n2 m2 he hn2 hm2 => ?_⟩
              cbv
              refine ⟨fun d4 hd4 => ?_⟩
              rw [wrap_id (by ((try simp only [nc] at *); omega)) (by ((try simp only [nc] at *); omega))] at hd4
              refine hK' _ (d4, es2, n2, m2) [some 0, some 1, some 2, some 3, some 4, some 5, some 6, some 9] (by cbv; repeat (first | exact trivial | refine ⟨.mk _, ?_⟩)) ⟨hn2, acc ++ [UInt8.ofNat (16 * i0.toNat + i1.toNat)], j + 1, ?_, ?_, ?_, ?_, ?_⟩ (by ((try simp only [nc] at *); omega))
              · simp only [zN]; ((try simp only [nc] at *); omega)
              · rw [he, hes]
                simp only [byV, List.map_append, List.map_cons, List.map_nil]
                congr 3
                rw [UInt8.toNat_ofNat']
                ((try simp only [nc] at *); omega)
              · simp [haj]
              · rw [hacc, hstep, Option.map_map]
                congr 1
                funext z
                simp
              · ((try simp only [nc] at *); omega)
            · have hi1' : i1 < 0 := h7.1 rfl
              cbv
              refine .ret (bad (failN (.inr hi1')) _ hsub)
          · have hi0' : i0 < 0 := h6.1 rfl
            cbv
            refine .ret (bad (failN (.inl hi0')) _ hsub)
      · have h3' : ¬ c2 = 0 := h3.1 rfl
        cbv
        refine .ret (bad ?_ _ (.refl _))
        have hodd : ∀ (k : Nat) (l : Sc.Bs), l.length ≤ k → l.length % 2 = 1 → Sc.hexP l = none := by
          intro k
          induction k with
          | zero => intro l h h'; omega
          | succ k ih =>
            intro l h h'
            match l, h, h' with
            | [], _, h' => simp at h'
            | [_], _, _ => rfl
            | a :: b :: r, h, h' =>
              simp only [Sc.hexP]
              rw [ih r (by simp at h; omega) (by simp at h'; omega)]
              split <;> rfl
        unfold Sc.hexL
        rw [if_neg h1', if_neg h2']
        refine hodd _ _ (Nat.le_refl _) ?_
        have : c1 = (t.data.toList.length : Int) := hc1
        rw [hc2, this] at h3'
        have h4 : (t.data.toList.length : Int).tmod 2 = ((t.data.toList.length % 2 : Nat) : Int) := rfl
        omega
    · have h2' : t.data.toList = [] := h2.1 rfl
      cbv
      refine .ret (bad ?_ _ (.refl _))
      rw [h2']; rfl
  · have h1' : t.data.toList = [45] := h1.1 rfl
    cbv
    refine Then.ret (hK R _ [] true (.refl _) (.nil 1 none) (by rw [h1']; rfl) (fun x hx => ?_))
    rw [h1'] at hx
    cases hx; rfl
end Go.Proofs
