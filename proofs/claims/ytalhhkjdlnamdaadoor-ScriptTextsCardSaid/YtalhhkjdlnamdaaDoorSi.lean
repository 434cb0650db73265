/-
  Loops told by a family of states; small rules.
-/
import Derived.Test.YtalhhkjdlnamdaaDoorSh
/- The symbolic machine: a state read as another one: names renumbered, given up, or new ones with nothing behind them. -/
namespace Go.SX
open Go

variable {P : Program} {T : List Blk} {cx : Cx} {F : Fence} {a : Act} {w : World}

/-- of each new name the old one; none: nothing is behind it -/
abbrev Rho := List (Option Nat)

def rget : Rho → Nat → Option (Option Nat)
  | [], _ => none
  | x :: _, 0 => some x
  | _ :: r, n + 1 => rget r n

def rold (ρ : Rho) (m : Nat) : Option Nat :=
  match rget ρ m with
  | some (some n) => some n
  | _ => none

mutual
/-- a value, in old names -/
def SV.old (ρ : Rho) : SV → Option SV
  | .any => some .any
  | .raw v => some (.raw v)
  | .ptr n o => match rold ρ n with | some k => some (.ptr k o) | none => none
  | .ep n o i w fo => match rold ρ n with | some k => some (.ep k o i w fo) | none => none
  | .sl n o i w l c => match rold ρ n with | some k => some (.sl k o i w l c) | none => none
  | .rep v i w fo => some (.rep v i w fo)
  | .agg cs => match cs.old ρ with | some cs => some (.agg cs) | none => none
  | .tup cs => match cs.old ρ with | some cs => some (.tup cs) | none => none
  | .ifc t v => match v.old ρ with | some v => some (.ifc t v) | none => none
  | .fn g a b => match a.old ρ with
    | some a => match b.old ρ with
      | some b => some (.fn g a b)
      | none => none
    | none => none
  | .yl n => match rold ρ n with | some k => some (.yl k) | none => none
  | .mp n => match rold ρ n with | some k => some (.mp k) | none => none
  | .ze => some .ze
def SC.old (ρ : Rho) : SC → Option SC
  | .nil => some .nil
  | .cons k v r => match v.old ρ with
    | some v => match r.old ρ with
      | some r => some (.cons k v r)
      | none => none
    | none => none
end

/-- an old value that is of no elements -/
def isNil0 : SV → Bool
  | .raw (.slice _ 0 0) => true
  | .ze => true
  | _ => false

def seeV (ρ : Rho) (o : SV) (v : SV) (K : Prop) : Prop :=
  match v with
  | .any => K
  | .sl m off i w len cap => match rget ρ m with
    | some (some n) => Sm o (.sl n off i w len cap) ∧ K
    | some none => match isNil0 o with
      | true => Sm v (.sl m off i w 0 0) ∧ K
      | false => False
    | none => False
  | v => match v.old ρ with
    | some v => Sm o v ∧ K
    | none => False

def seeC (ρ : Rho) : SC → SC → Prop → Prop
  | .nil, s, K => match s with
    | .nil => K
    | _ => False
  | .cons k v r, s, K => match s with
    | .cons k' v' r' => match Nat.beq k k' with
      | true => seeV ρ v v' (seeC ρ r r' K)
      | false => False
    | .nil => False

def seeT (ρ : Rho) (old : Tm) : Tm → Prop → Prop
  | .nil, K => K
  | .cons t v r, K => seeV ρ (old.get t) v (seeT ρ old r K)

inductive Eqs {α : Type} : α → α → Prop
  | mk (v) : Eqs v v

def seeO (ρ : Rho) (o o1 : SObj) (K : Prop) : Prop :=
  match o1 with
  | .dead => K
  | .cells cs' e' => match o with
    | .cells cs e => match Nat.beq e e' with
      | true => seeC ρ cs cs' K
      | false => False
    | _ => False
  | .buf es' w' e' => match o with
    | .buf es w e => match Nat.beq w w', Nat.beq e e' with
      | true, true => Eqs es es' ∧ K
      | _, _ => False
    | _ => False
  | .mapo es' c' => match o with
    | .mapo es c => Eqs es es' ∧ Eqs c c' ∧ K
    | _ => False
  | .loop l' => match o with
    | .loop l => match rold ρ l'.dfr with
      | some d => Eqs l.dfr d ∧ Eqs l.st l'.st ∧ Eqs l.pend l'.pend ∧ Eqs l.nt l'.nt ∧ Eqs l.ps l'.ps ∧ Eqs l.asg l'.asg ∧ Eqs l.body l'.body ∧ seeT ρ l.tm l'.tm K
      | none => False
    | _ => False
  | .dfr => match o with
    | .dfr => K
    | _ => False

def seeH (ρ : Rho) (H : List SObj) : Rho → List SObj → Prop → Prop
  | [], H1, K => match H1 with
    | [] => K
    | _ => False
  | x :: r, H1, K => match H1 with
    | [] => False
    | o :: H1 => match x with
      | some n => seeO ρ (hget H n) o (seeH ρ H r H1 K)
      | none => match o with
        | .buf es _ _ => Eqs es [] ∧ seeH ρ H r H1 K
        | _ => False

def baseOk : Nat → Nat → Rho → Bool
  | 0, _, _ => true
  | _ + 1, _, [] => false
  | k + 1, m, x :: r => match x with
    | some n => match Nat.beq n m with
      | true => baseOk k (m + 1) r
      | false => false
    | none => false

def rnin (m : Nat) : Rho → Bool
  | [] => true
  | x :: r => match x with
    | some k => match Nat.beq m k with
      | true => false
      | false => rnin m r
    | none => rnin m r

def rnodup : Rho → Bool
  | [] => true
  | x :: r => match x with
    | some m => match rnin m r with
      | true => rnodup r
      | false => false
    | none => rnodup r

def seeDs (ρ : Rho) : List Nat → List Nat → Bool
  | [], [] => true
  | n :: r, m :: s => match rold ρ m with
    | some k => match Nat.beq n k with
      | true => seeDs ρ r s
      | false => false
    | none => false
  | _, _ => false

def seeR (ρ : Rho) (o n : Option Nat) : Bool :=
  match o, n with
  | none, none => true
  | some k, some m => match rold ρ m with
    | some k' => Nat.beq k k'
    | none => false
  | _, _ => false

/-- s, read as s1 -/
def See (ρ : Rho) (s s1 : St) : Prop :=
  match baseOk s.bs 0 ρ, rnodup ρ, Nat.beq s.nt s1.nt, Nat.beq s.bs s1.bs, seeDs ρ s.dfr s1.dfr, seeR ρ s.rnd s1.rnd with
  | true, true, true, true, true, true => Eqs s.ro s1.ro ∧ seeH ρ s.heap ρ s1.heap (seeT ρ s.tm s1.tm True)
  | _, _, _, _, _, _ => False

/-! ### soundness -/
theorem Eqs.eq {α : Type} {a b : α} (h : Eqs a b) : a = b := by cases h; rfl

def newT (ρ : Rho) (T : List Blk) : List Blk := ρ.map fun x => match x with
  | some n => (T[n]?).getD .absent
  | none => .absent

theorem rget_eq : ∀ (ρ : Rho) (m : Nat), rget ρ m = ρ[m]?
  | [], m => by simp [rget]
  | x :: r, 0 => by simp [rget]
  | x :: r, m + 1 => by simp [rget, rget_eq r m]

theorem newT_get {ρ : Rho} {m n : Nat} {b : Blk} (h : ρ[m]? = some (some n)) (hT : T[n]? = some b) : (newT ρ T)[m]? = some b := by
  simp [newT, h, hT]

theorem rold_eq {ρ : Rho} {m n : Nat} (h : rold ρ m = some n) : ρ[m]? = some (some n) := by
  unfold rold at h
  rw [rget_eq] at h
  split at h
  · next h1 => cases h; exact h1
  · cases h

theorem newT_inv {ρ : Rho} {m b bs sz : Nat} (h : (newT ρ T)[m]? = some (.at b bs sz)) : ∃ n, ρ[m]? = some (some n) ∧ T[n]? = some (.at b bs sz) := by
  simp only [newT, List.getElem?_map, Option.map_eq_some_iff] at h
  obtain ⟨x, h1, h2⟩ := h
  cases x with
  | none => cases h2
  | some n =>
    refine ⟨n, h1, ?_⟩
    simp only at h2
    cases hT : T[n]? with
    | none => rw [hT] at h2; cases h2
    | some y => rw [hT] at h2; simp at h2; rw [h2]

theorem hget_name {ρ : Rho} {m n : Nat} (h : rold ρ m = some n) {b : Blk} (hT : T[n]? = some b) : (newT ρ T)[m]? = some b := newT_get (rold_eq h) hT

mutual
theorem DV.old {ρ : Rho} : ∀ {s s' : SV} {v : Value}, s.old ρ = some s' → DV T s' v → DV (newT ρ T) s v
  | .any, _, v, _, _ => .any v
  | .raw x, s', v, h, hd => by simp [SV.old] at h; subst h; cases hd; exact .raw _
  | .ptr n o, s', v, h, hd => by
    simp only [SV.old] at h
    split at h
    · next k hk => cases h; cases hd with | ptr g => exact .ptr (hget_name hk g)
    · cases h
  | .ep n o i w fo, s', v, h, hd => by
    simp only [SV.old] at h
    split at h
    · next k hk => cases h; cases hd with | ep g => exact .ep (hget_name hk g)
    · cases h
  | .sl n o i w l c, s', v, h, hd => by
    simp only [SV.old] at h
    split at h
    · next k hk =>
      cases h
      cases hd with
      | sl g a b => exact .sl (hget_name hk g) a b
      | sl0 g => exact .sl0 (hget_name hk g)
      | slnil g => exact .slnil (hget_name hk g)
    · cases h
  | .rep x i w fo, s', v, h, hd => by simp [SV.old] at h; subst h; cases hd with | rep g => exact .rep g
  | .agg cs, s', v, h, hd => by
    simp only [SV.old] at h
    split at h
    · next k hk => cases h; cases hd with | agg g => exact .agg (DC.old hk g)
    · cases h
  | .tup cs, s', v, h, hd => by
    simp only [SV.old] at h
    split at h
    · next k hk => cases h; cases hd with | tup g => exact .tup (DL.old hk g)
    · cases h
  | .ifc t x, s', v, h, hd => by
    simp only [SV.old] at h
    split at h
    · next k hk => cases h; cases hd with | ifc g => exact .ifc (DV.old hk g)
    · cases h
  | .fn f p q, s', v, h, hd => by
    simp only [SV.old] at h
    split at h
    · next k hk =>
      split at h
      · next k' hk' => cases h; cases hd with | fn g g' => exact .fn (DL.old hk g) (DL.old hk' g')
      · cases h
    · cases h
  | .yl n, s', v, h, hd => by
    simp only [SV.old] at h
    split at h
    · next k hk => cases h; cases hd with | yl g => exact .yl (hget_name hk g)
    · cases h
  | .mp n, s', v, h, hd => by
    simp only [SV.old] at h
    split at h
    · next k hk => cases h; cases hd with | mp g => exact .mp (hget_name hk g)
    · cases h
  | .ze, s', v, h, hd => by simp [SV.old] at h; subst h; cases hd; exact .ze
theorem DC.old {ρ : Rho} : ∀ {s s' : SC} {l : List Value}, s.old ρ = some s' → DC T s' l → DC (newT ρ T) s l
  | .nil, s', l, h, hd => by simp [SC.old] at h; subst h; cases hd; exact .nil
  | .cons k v r, s', l, h, hd => by
    simp only [SC.old] at h
    split at h
    · next v' hv =>
      split at h
      · next r' hr =>
        cases h
        cases hd with
        | one a b c => exact .one (DV.old hv a) b (DC.old hr c)
        | many a b c d e => exact .many a (DV.old hv b) c d (DC.old hr e)
      · cases h
    · cases h
theorem DL.old {ρ : Rho} : ∀ {s s' : SC} {l : List Value}, s.old ρ = some s' → DL T s' l → DL (newT ρ T) s l
  | .nil, s', l, h, hd => by simp [SC.old] at h; subst h; cases hd; exact .nil
  | .cons k v r, s', l, h, hd => by
    simp only [SC.old] at h
    split at h
    · next v' hv =>
      split at h
      · next r' hr =>
        cases h
        cases hd with
        | cons a b => exact .cons (DV.old hv a) (DL.old hr b)
      · cases h
    · cases h
end

theorem isNil0_ok {o : SV} {v : Value} (h : isNil0 o = true) (hd : DV T o v) : ∃ q, v = .slice q 0 0 := by
  unfold isNil0 at h
  split at h
  · cases hd; exact ⟨_, rfl⟩
  · cases hd; exact ⟨_, rfl⟩
  · cases h

theorem seeV_ok {ρ : Rho} {o v : SV} {x : Value} {K : Prop} (hd : DV T o x) (h : seeV ρ o v K) : DV (newT ρ T) v x ∧ K := by
  unfold seeV at h
  split at h
  · exact ⟨.any _, h⟩
  · rename_i m off i w len cap
    rw [rget_eq] at h
    split at h
    · next n hn =>
      obtain ⟨h1, h2⟩ := h
      cases h1
      refine ⟨?_, h2⟩
      cases hd with
      | sl g a b => exact .sl (newT_get hn g) a b
      | sl0 g => exact .sl0 (newT_get hn g)
      | slnil g => exact .slnil (newT_get hn g)
    · next hn =>
      split at h
      · next hz =>
        obtain ⟨h1, h2⟩ := h
        obtain ⟨q, rfl⟩ := isNil0_ok hz hd
        cases h1
        exact ⟨.slnil (by simp [newT, hn]), h2⟩
      · exact h.elim
    · exact h.elim
  · split at h
    · next v' hv => obtain ⟨h1, h2⟩ := h; cases h1; exact ⟨hd.old hv, h2⟩
    · exact h.elim

theorem seeC_ok {ρ : Rho} : ∀ {cs cs' : SC} {l : List Value} {K : Prop}, DC T cs l → seeC ρ cs cs' K → DC (newT ρ T) cs' l ∧ K
  | .nil, cs', l, K, hd, h => by
    cases hd
    simp only [seeC] at h
    split at h
    · exact ⟨.nil, h⟩
    · exact h.elim
  | .cons k v r, cs', l, K, hd, h => by
    simp only [seeC] at h
    split at h
    · split at h
      · next hk =>
        have := Nat.eq_of_beq_eq_true hk
        subst this
        cases hd with
        | one a b c =>
          obtain ⟨h1, h2⟩ := seeV_ok a h
          obtain ⟨h3, h4⟩ := seeC_ok c h2
          exact ⟨.one h1 b h3, h4⟩
        | many a b c d e =>
          obtain ⟨h1, h2⟩ := seeV_ok b h
          obtain ⟨h3, h4⟩ := seeC_ok e h2
          exact ⟨.many a h1 c d h3, h4⟩
      · exact h.elim
    · exact h.elim

theorem seeT_ok {ρ : Rho} {old : Tm} {tmps : Array Value} (hd : DT T old tmps) : ∀ {tm : Tm} {K : Prop}, seeT ρ old tm K → DT (newT ρ T) tm tmps ∧ K
  | .nil, K, h => ⟨fun t => .any _, h⟩
  | .cons t v r, K, h => by
    simp only [seeT] at h
    obtain ⟨h1, h2⟩ := seeV_ok (hd t) h
    obtain ⟨h3, h4⟩ := seeT_ok hd h2
    refine ⟨fun j => ?_, h4⟩
    simp only [Tm.get]
    cases hb : Nat.beq t j with
    | true => have := Nat.eq_of_beq_eq_true hb; subst this; exact h1
    | false => exact h3 j

theorem seeO_ok {ρ : Rho} {m n : Nat} {o o1 : SObj} {K : Prop} (hm : ρ[m]? = some (some n)) (hd : DO P w T n o) (h : seeO ρ o o1 K) : DO P w (newT ρ T) m o1 ∧ K ∧ (o1.live = true → o.live = true) := by
  unfold seeO at h
  split at h
  · exact ⟨trivial, h, fun h => by cases h⟩
  · split at h
    · split at h
      · next he =>
        have := Nat.eq_of_beq_eq_true he
        subst this
        obtain ⟨b, arr, h1, h2, h3⟩ := hd
        obtain ⟨h4, h5⟩ := seeC_ok h3 h
        exact ⟨⟨b, arr, newT_get hm h1, h2, h4⟩, h5, fun _ => rfl⟩
      · exact h.elim
    · exact h.elim
  · split at h
    · split at h
      · next hw he =>
        have := Nat.eq_of_beq_eq_true hw
        have := Nat.eq_of_beq_eq_true he
        subst_vars
        obtain ⟨h1, h2⟩ := h
        cases h1
        refine ⟨?_, h2, fun _ => rfl⟩
        rcases hd with ⟨g1, g2⟩ | ⟨b, base, arr, post, pre, g1, g2⟩
        · exact .inl ⟨newT_get hm g1, g2⟩
        · exact .inr ⟨b, base, arr, post, pre, newT_get hm g1, g2⟩
      · exact h.elim
    · exact h.elim
  · split at h
    · obtain ⟨h1, h2, h3⟩ := h
      cases h1; cases h2
      obtain ⟨b, sz, g1, g2⟩ := hd
      exact ⟨⟨b, sz, newT_get hm g1, g2⟩, h3, fun _ => rfl⟩
    · exact h.elim
  · split at h
    · split at h
      · next hdf =>
        obtain ⟨h1, h2, h3, h4, h5, h6, h7, h8⟩ := h
        obtain ⟨b, sz, r, g1, g2, g3⟩ := hd
        obtain ⟨h9, h10⟩ := seeT_ok g3.tm h8
        obtain ⟨base, sz', g4⟩ := g3.dfr
        rw [h1.eq] at g4
        refine ⟨⟨b, sz, r, newT_get hm g1, g2, ⟨g3.st.trans h2.eq, by rw [← h3.eq]; exact g3.pend, by rw [← h4.eq]; exact g3.nt, h9, by rw [← h5.eq]; exact g3.ps, by rw [← h5.eq, ← h4.eq]; exact g3.psl, by rw [← h4.eq, ← h6.eq]; exact g3.asg, by rw [← h4.eq, ← h7.eq]; exact g3.body, ⟨base, sz', hget_name hdf g4⟩⟩⟩, h10, fun _ => rfl⟩
      · exact h.elim
    · exact h.elim
  · split at h
    · obtain ⟨b, sz, g1, g2⟩ := hd
      exact ⟨⟨b, sz, newT_get hm g1, g2⟩, h, fun _ => rfl⟩
    · exact h.elim

theorem hget_eq : ∀ (H : List SObj) (n : Nat), hget H n = (H[n]?).getD .dead
  | [], n => by simp [hget]
  | o :: r, 0 => by simp [hget]
  | o :: r, n + 1 => by simp [hget, hget_eq r n]

theorem seeH_ok {ρ : Rho} {H : List SObj} (hd : ∀ n o, H[n]? = some o → DO P w T n o) : ∀ (r : Rho) (m : Nat) {H1 : List SObj} {K : Prop}, (∀ j x, r[j]? = some x → ρ[m + j]? = some x) → seeH ρ H r H1 K →
    r.length = H1.length ∧ K ∧ ∀ j o1, H1[j]? = some o1 → DO P w (newT ρ T) (m + j) o1 ∧ (o1.live = true → (r[j]? = some none) ∨ ∃ n o, r[j]? = some (some n) ∧ H[n]? = some o ∧ o.live = true)
  | [], m, H1, K, _, h => by
    simp only [seeH] at h
    split at h
    · exact ⟨rfl, h, by simp⟩
    · exact h.elim
  | x :: r, m, H1, K, hr, h => by
    simp only [seeH] at h
    split at h
    · exact h.elim
    · rename_i o H2
      have hr' : ∀ j y, r[j]? = some y → ρ[m + 1 + j]? = some y := fun j y hy => by have := hr (j + 1) y (by simpa using hy); rw [show m + 1 + j = m + (j + 1) by omega]; exact this
      have h0 := hr 0 x (by simp)
      simp only [Nat.add_zero] at h0
      split at h
      · rename_i n
        have hdn : DO P w T n (hget H n) := by
          rw [hget_eq]
          cases hH : H[n]? with
          | none => trivial
          | some o' => exact hd n o' hH
        obtain ⟨h1, h2, h3⟩ := seeO_ok h0 hdn h
        obtain ⟨h4, h5, h6⟩ := seeH_ok hd r (m + 1) hr' h2
        refine ⟨by simp [h4], h5, fun j o1 hj => ?_⟩
        cases j with
        | zero =>
          simp only [List.getElem?_cons_zero, Option.some.injEq] at hj
          subst hj
          refine ⟨h1, fun hl => .inr ⟨n, hget H n, by simp, ?_, h3 hl⟩⟩
          exact hget_dead (h3 hl)
        | succ j =>
          have := h6 j o1 (by simpa using hj)
          rw [show m + (j + 1) = m + 1 + j by omega]
          simpa using this
      · split at h
        · obtain ⟨h1, h2⟩ := h
          cases h1
          obtain ⟨h4, h5, h6⟩ := seeH_ok hd r (m + 1) hr' h2
          refine ⟨by simp [h4], h5, fun j o1 hj => ?_⟩
          cases j with
          | zero =>
            simp only [List.getElem?_cons_zero, Option.some.injEq] at hj
            subst hj
            exact ⟨.inl ⟨by simp [newT, h0], rfl⟩, fun _ => .inl (by simp)⟩
          | succ j =>
            have := h6 j o1 (by simpa using hj)
            rw [show m + (j + 1) = m + 1 + j by omega]
            simpa using this
        · exact h.elim

theorem rnin_ok {m : Nat} : ∀ {ρ : Rho}, rnin m ρ = true → ∀ j : Nat, ρ[j]? ≠ some (some m)
  | [], _, j => by simp
  | x :: r, h, j => by
    simp only [rnin] at h
    cases x with
    | none =>
      cases j with
      | zero => simp
      | succ j => simpa using rnin_ok (by simpa using h) j
    | some k =>
      simp only at h
      cases hb : Nat.beq m k with
      | true => rw [hb] at h; cases h
      | false =>
        rw [hb] at h
        cases j with
        | zero =>
          simp only [List.getElem?_cons_zero, ne_eq, Option.some.injEq]
          intro e; subst e; rw [beqT] at hb; cases hb
        | succ j => simpa using rnin_ok h j

theorem rnodup_ok : ∀ {ρ : Rho}, rnodup ρ = true → ∀ {i j n : Nat}, ρ[i]? = some (some n) → ρ[j]? = some (some n) → i = j
  | [], _, i, j, n, hi, _ => by simp at hi
  | x :: r, h, i, j, n, hi, hj => by
    simp only [rnodup] at h
    cases x with
    | none =>
      cases i with
      | zero => simp at hi
      | succ i =>
        cases j with
        | zero => simp at hj
        | succ j => exact congrArg (· + 1) (rnodup_ok (ρ := r) (n := n) (by simpa using h) (by simpa using hi) (by simpa using hj))
    | some k =>
      simp only at h
      cases hb : rnin k r with
      | false => rw [hb] at h; cases h
      | true =>
        rw [hb] at h
        have hn := rnin_ok hb
        cases i with
        | zero =>
          cases j with
          | zero => rfl
          | succ j => simp at hi; subst hi; exact absurd (by simpa using hj) (hn j)
        | succ i =>
          cases j with
          | zero => simp at hj; subst hj; exact absurd (by simpa using hi) (hn i)
          | succ j => exact congrArg (· + 1) (rnodup_ok (ρ := r) (n := n) h (by simpa using hi) (by simpa using hj))

theorem baseOk_ok : ∀ {k m : Nat} {r : Rho}, baseOk k m r = true → ∀ j, j < k → r[j]? = some (some (m + j))
  | 0, _, _, _, j, hj => by omega
  | k + 1, m, [], h, _, _ => by simp [baseOk] at h
  | k + 1, m, x :: r, h, j, hj => by
    simp only [baseOk] at h
    cases x with
    | none => cases h
    | some n =>
      simp only at h
      cases hb : Nat.beq n m with
      | false => rw [hb] at h; cases h
      | true =>
        rw [hb] at h
        have := Nat.eq_of_beq_eq_true hb
        subst this
        cases j with
        | zero => simp
        | succ j => have := baseOk_ok h j (by omega); simp [this]; omega

theorem seeDs_ok {ρ : Rho} : ∀ {l m : List Nat} {ds : List Deferred}, seeDs ρ l m = true → DD T l ds → DD (newT ρ T) m ds
  | [], [], ds, _, hd => by cases hd; exact .nil
  | [], _ :: _, _, h, _ => by simp [seeDs] at h
  | _ :: _, [], _, h, _ => by simp [seeDs] at h
  | n :: r, m :: s, ds, h, hd => by
    simp only [seeDs] at h
    cases hk : rold ρ m with
    | none => rw [hk] at h; cases h
    | some k =>
      rw [hk] at h
      simp only at h
      cases hb : Nat.beq n k with
      | false => rw [hb] at h; cases h
      | true =>
        rw [hb] at h
        have := Nat.eq_of_beq_eq_true hb
        subst this
        cases hd with
        | cons a b => exact .cons (hget_name hk a) (seeDs_ok h b)

theorem seeR_ok {ρ : Rho} {o n : Option Nat} (h : seeR ρ o n = true) (hf : FW F T o) : FW F (newT ρ T) n := by
  unfold seeR at h
  split at h
  · exact hf
  · split at h
    · next k m _ k' hk =>
      have := Nat.eq_of_beq_eq_true h
      subst this
      obtain ⟨b, bs, sz, g1, g2⟩ := hf
      exact ⟨b, bs, sz, hget_name hk g1, g2⟩
    · cases h
  · cases h

theorem Den.see {s s1 : St} {ρ : Rho} (hd : Den P cx F s a w T) (h : See ρ s s1) : Den P cx F s1 a w (newT ρ T) ∧ s1.nt = s.nt := by
  unfold See at h
  split at h
  · next h1 h2 h3 h4 h5 h6 =>
    obtain ⟨h7, h8⟩ := h
    have h3 := Nat.eq_of_beq_eq_true h3
    have h4 := Nat.eq_of_beq_eq_true h4
    obtain ⟨hlen, h9, hobj⟩ := seeH_ok hd.dh.obj ρ 0 (fun j x hx => by simpa using hx) h8
    obtain ⟨htm, _⟩ := seeT_ok hd.tm h9
    have hro : s.ro = s1.ro := h7.eq
    have hlive : ∀ m, Live s1.heap m → (ρ[m]? = some none) ∨ ∃ n, ρ[m]? = some (some n) ∧ Live s.heap n := by
      rintro m ⟨o, q1, q2⟩
      rcases (hobj m o q1).2 q2 with h | ⟨n, o', g1, g2, g3⟩
      · exact .inl h
      · exact .inr ⟨n, g1, o', g2, g3⟩
    have hbase := baseOk_ok h1
    have hT0 := hd.bs
    obtain ⟨L, hL⟩ := hd.rel.pre
    refine ⟨⟨⟨hd.rel.os, hd.rel.tape, hd.rel.output, hd.rel.size, hd.rel.block, ?_, ?_⟩, ⟨?_, ?_, ?_, ?_, ?_, ?_⟩, by rw [← hro]; exact hd.rg, htm, by rw [← h3]; exact hd.nt, seeDs_ok h5 hd.dfr, seeR_ok h6 hd.fw, by rw [← h4]; exact hT0⟩, h3.symm⟩
    · refine ⟨(newT ρ T).drop cx.T0.length, ?_⟩
      have : (newT ρ T).take cx.T0.length = cx.T0 := by
        apply List.ext_getElem?
        intro i
        by_cases hi : i < cx.T0.length
        · rw [List.getElem?_take_of_lt hi]
          have g := hbase i (by omega)
          rw [Nat.zero_add] at g
          have hTi : T[i]? = some (cx.T0[i]'hi) := by rw [hL, List.getElem?_append_left hi, List.getElem?_eq_getElem hi]
          rw [newT_get g hTi, List.getElem?_eq_getElem hi]
        · rw [List.getElem?_eq_none (by rw [List.length_take]; omega), List.getElem?_eq_none (by omega)]
      conv => lhs; rw [← List.take_append_drop cx.T0.length (newT ρ T), this]
    · rintro k ⟨n, bs, sz, g⟩
      obtain ⟨n', g1, g2⟩ := newT_inv g
      exact hd.rel.own k ⟨n', bs, sz, g2⟩
    · simp [newT, hlen]
    · intro n o hn
      have := (hobj n o hn).1
      rwa [Nat.zero_add] at this
    · intro n m b bs sz bs' sz' hn hm hln hlm
      obtain ⟨n', g1, g2⟩ := newT_inv hn
      obtain ⟨m', g3, g4⟩ := newT_inv hm
      have l1 : Live s.heap n' := by
        rcases hlive n hln with h | ⟨k, g, hl⟩
        · rw [g1] at h; cases h
        · rw [g1] at g; cases g; exact hl
      have l2 : Live s.heap m' := by
        rcases hlive m hlm with h | ⟨k, g, hl⟩
        · rw [g3] at h; cases h
        · rw [g3] at g; cases g; exact hl
      have := hd.dh.dis _ _ _ _ _ _ _ g2 g4 l1 l2
      subst this
      exact rnodup_ok h2 g1 g3
    · intro n b bs sz hn
      obtain ⟨n', g1, g2⟩ := newT_inv hn
      exact hd.dh.lt _ _ _ _ g2
    · rw [← hro]; exact hd.dh.ro
    · rw [← hro]
      intro k o n bs sz hk hn hl
      obtain ⟨n', g1, g2⟩ := newT_inv hn
      rcases hlive n hl with h | ⟨k', g, hl'⟩
      · rw [g1] at h; cases h
      · rw [g1] at g; cases g
        exact hd.dh.rod k o n' bs sz hk g2 hl'
  · exact h.elim

variable {s : St}

theorem Lp.see {ic : IC} {K : Xit → St → Prop} {s1 : St} {ρ : Rho} (h : Lp P ic s1 K) (hs : See ρ s s1) : Lp P ic s K := by
  cases h with
  | mk h =>
    refine .mk fun c m hc cx F a w T hd => ?_
    obtain ⟨hd1, hnt⟩ := hd.see hs
    have := h c m (by rw [hnt]; exact hc) cx F a w _ hd1
    rw [hnt] at this
    exact this

/-- a loop, by a family of states and a measure; each round's end is read as a state of the family -/
theorem loop_see {α : Type} (S : α → St) (I : α → Prop) (μ : α → Nat) {ic : IC} {m : Nat} {N : St → Prop} {E : Nat → St → Prop} {Rt : St → Prop} (x : α) (ρ : Rho) (h0 : See ρ s (S x)) (hI : I x)
    (step : ∀ x, I x → ∀ K : St → Prop, (∀ s' y ρ, See ρ s' (S y) → I y → μ y < μ x → K s') → vcC P ic (S x) K E Rt) : Stuck P (.loop m ic) s (jn N E Rt) := by
  have key : ∀ n x, μ x = n → I x → Lp P ic (S x) (jn N E Rt) := by
    intro n
    induction n using Nat.strongRecOn with
    | _ n ih =>
      intro x hx hI
      refine Lp.unroll (step x hI _ fun s' y ρ h1 h2 h3 => ?_)
      exact (ih (μ y) (by omega) y rfl h2).see h1
  exact Lp.stuck ((key _ x rfl hI).see h0)

end Go.SX

/- The symbolic machine: what a call comes to, turned at its end: slices frozen, names dropped. -/
namespace Go.SX
open Go

variable {P : Program} {R R' : RO} {H H' : List SObj} {sv : SV}

/-- what holds of some reading of the end -/
inductive Then (P : Program) (R : RO) (H : List SObj) (K : SV → RO → List SObj → Prop) (sv : SV) (R' : RO) (H' : List SObj) : Prop
  | mk (h : ∀ (w w' : World) (T L : List Blk) (v : Value), T.length = H.length → DV (T ++ L) sv v → DH P w' R' (T ++ L) H' → WS w w' T L → RG R R' w T →
      ∃ sv2 R2 H2 L2, DV (T ++ L2) sv2 v ∧ DH P w' R2 (T ++ L2) H2 ∧ WS w w' T L2 ∧ RG R R2 w T ∧ K sv2 R2 H2)

theorem CallW.then {f : FuncId} {args : List SV} {K : SV → RO → List SObj → Prop} (h : CallW P f args R H (Then P R H K)) : CallW P f args R H K := by
  intro cx w T vs hr hd hv
  refine (h cx w T vs hr hd hv).mono ?_
  rintro e w' ⟨v, sv, R', H', L, rfl, h1, h2, h3, h4, h5⟩
  cases h5 with
  | mk h5 =>
  obtain ⟨sv2, R2, H2, L2, g1, g2, g3, g4, g5⟩ := h5 w w' T L v hd.len h1 h2 h3 h4
  exact ⟨v, sv2, R2, H2, L2, rfl, g1, g2, g3, g4, g5⟩

variable {K : SV → RO → List SObj → Prop}

theorem Then.ret (h : K sv R' H') : Then P R H K sv R' H' := .mk fun _ _ _ L _ _ h1 h2 h3 h4 => ⟨sv, R', H', L, h1, h2, h3, h4, h⟩

theorem Then.sub (h : SubRO R R' → Then P R H K sv R' H') : Then P R H K sv R' H' := .mk fun w w' T L v hl h1 h2 h3 h4 => by
  cases h h4.sub with
  | mk h => exact h w w' T L v hl h1 h2 h3 h4

theorem Then.trim {H'' : List SObj} (h1 : sv.blw (hlen H) = true) (h2 : trimH (hlen H) (hlen H) H' = some H'') (h : Then P R H K sv R' H'') : Then P R H K sv R' H' := .mk fun w w' T L v hl g1 g2 g3 g4 => by
  have hbase : (T ++ L).take (hlen H) = T := by rw [hlen_eq, ← hl]; simp
  have k1 := DV.trim (hlen H) h1 g1
  have k2 := g2.trim h2
  rw [hbase] at k1 k2
  cases h with
  | mk h => exact h w w' T [] v hl (by rw [List.append_nil]; exact k1) (by rw [List.append_nil]; exact k2) ⟨g3.os, g3.tape, g3.output, g3.size, g3.block, fun k hk => .inl (by simpa using hk)⟩ g4

/-- a value, a name's slices in it known -/
theorem frz_rg {w w' : World} {T L : List Blk} {R'' : RO} (h3 : WS w w' T L) (h4 : RG R R' w T) (g2 : RG R' R'' w' (T ++ L)) : RG R R'' w T := by
  refine ⟨fun k o hk => g2.sub k o (h4.sub k o hk), fun k o hk => ?_⟩
  rcases g2.new k o hk with p | p | p
  · exact h4.new k o p
  · rcases h3.own k p with p | p
    · exact .inr (.inl p)
    · exact .inr (.inr p)
  · have := h3.size; exact .inr (.inr (by omega))

theorem Then.frz {n i wd len cap e : Nat} {es : List Value} (news : List Value) (h0 : sv = .sl n 0 i wd len cap) (h1 : hget H' n = .buf es wd e) (h2 : (es.drop i).take len = news) (h3 : news.length = len)
    (h : ∀ R'' q, SubRO R' R'' → ROSl R'' (.slice q len cap) news wd → Then P R H K (.raw (.slice q len cap)) R'' (hset H' n .dead)) : Then P R H K sv R' H' := .mk fun w w' T L v hl g1 g2 g3 g4 => by
  subst h0
  obtain ⟨R'', k1, k2, k3⟩ := g2.freeze h1
  obtain ⟨k4, q, rfl⟩ := k3 g1 h2 h3
  cases h R'' q k2.sub k4 with
  | mk h => exact h w w' T L _ hl (.raw _) k1 g3 (frz_rg g3 g4 k2)

theorem Then.frzT {n i wd len cap e k : Nat} {es : List Value} {r : SC} (news : List Value) (h0 : sv = .tup (.cons k (.sl n 0 i wd len cap) r)) (h1 : hget H' n = .buf es wd e) (h2 : (es.drop i).take len = news) (h3 : news.length = len)
    (h : ∀ R'' q, SubRO R' R'' → ROSl R'' (.slice q len cap) news wd → Then P R H K (.tup (.cons k (.raw (.slice q len cap)) r)) R'' (hset H' n .dead)) : Then P R H K sv R' H' := .mk fun w w' T L v hl g1 g2 g3 g4 => by
  subst h0
  obtain ⟨R'', k1, k2, k3⟩ := g2.freeze h1
  cases g1 with
  | tup g1 =>
  rename_i arr
  obtain ⟨l⟩ := arr
  simp only at g1
  cases g1 with
  | cons p t =>
  obtain ⟨k4, q, rfl⟩ := k3 p h2 h3
  cases h R'' q k2.sub k4 with
  | mk h => exact h w w' T L _ hl (.tup (.cons (.raw _) t)) k1 g3 (frz_rg g3 g4 k2)

end Go.SX

/- The symbolic machine: small words for walks. -/
namespace Go.SX
open Go
/-- 'cbv' leaves casts as these; omega wants the others -/
theorem nc (n : Nat) : @NatCast.natCast Int instNatCastInt n = @Nat.cast Int instNatCastInt n := rfl
theorem wrap_id {n : Int} (h0 : -9223372036854775808 ≤ n) (h1 : n ≤ 9223372036854775807) : IntKind.i64.wrap n = n := by
  simp [IntKind.wrap, IntKind.bits, IntKind.signed]; omega
theorem wrap_id8 {n : Int} (h0 : 0 ≤ n) (h1 : n < 256) : IntKind.u8.wrap n = n := by
  simp [IntKind.wrap, IntKind.bits, IntKind.signed]; omega
theorem bstr_eq {t u : ByteArray} : t = u ↔ t.data.toList = u.data.toList := by
  refine ⟨fun h => by rw [h], fun h => ?_⟩
  apply ByteArray.ext
  exact Array.ext' h
theorem bsize (t : ByteArray) : t.size = t.data.toList.length := rfl

/-- an element of a slice that only is read -/
theorem LdP.at {R : RO} {v : Value} {i : Nat} {K : SV → Prop} {es : List Value} (h : ROSl R v es 1) (x : Value) (he : es[i]? = some x) (hK : K (.raw x)) : LdP R v i .sc 1 0 K :=
  .mk es x x h he rfl hK
end Go.SX
namespace Go.SX
open Go
/-- a byte of a string that was converted -/
theorem LdP.byte {R : RO} {v : Value} {i : Nat} {K : SV → Prop} {t : ByteArray} (h : ROSl R v (bytesV t) 1) (c : UInt8) (he : t.data.toList[i]? = some c) (hK : ∀ n : Int, n = zN c.toNat → K (.raw (.int .u8 n))) : LdP R v i .sc 1 0 K :=
  LdP.at h _ (by simp [bytesV, he]; rfl) (hK _ rfl)
end Go.SX
namespace Go.SX
open Go
/-- a loop, its states told by the one at which it is met -/
theorem loop_at {P : Program} {s : St} {α : Type} (Sf : St → α → St) (I : α → Prop) (μ : α → Nat) {ic : IC} {m : Nat} {N : St → Prop} {E : Nat → St → Prop} {Rt : St → Prop} (x : α) (ρ : Rho) (h0 : See ρ s (Sf s x)) (hI : I x)
    (step : ∀ x, I x → ∀ K : St → Prop, (∀ s' y ρ, See ρ s' (Sf s y) → I y → μ y < μ x → K s') → vcC P ic (Sf s x) K E Rt) : Stuck P (.loop m ic) s (jn N E Rt) :=
  loop_see (Sf s) I μ x ρ h0 hI step
theorem ext_list (t : ByteArray) (a b : Nat) : (t.extract a b).data.toList = (t.data.toList.drop a).take (b - a) := by
  rw [ByteArray.data_extract, Array.toList_extract, List.extract_eq_take_drop]
theorem ext_size (t : ByteArray) (a b : Nat) (h : a ≤ b) (hb : b ≤ t.size) : (t.extract a b).size = b - a := by
  rw [bsize, ext_list, List.length_take, List.length_drop]; rw [bsize] at hb; omega
end Go.SX
namespace Go.SX
open Go
theorem SubS.shape {a : Option Addr} {len cap w lo hi : Nat} {v : Value} (h : SubS (.slice a len cap) w lo hi v) : ∃ q n c, v = .slice q n c ∧ n = hi - lo ∧ lo ≤ hi ∧ hi ≤ cap := by
  cases h with
  | mk e h1 h2 => cases e; exact ⟨_, _, _, rfl, rfl, h1, h2⟩
end Go.SX

/- The symbolic machine: a slice of one's own handed to a call that only reads it. -/
namespace Go.SX
open Go
variable {P : Program} {R : RO} {H : List SObj}

theorem RG.comp {R R1 R2 : RO} {w : World} {T : List Blk} (h : RG R R1 w T) (g : RG R1 R2 w T) : RG R R2 w T :=
  ⟨fun k o hk => g.sub k o (h.sub k o hk), fun k o hk => by
    rcases g.new k o hk with p | p
    · exact h.new k o p
    · exact .inr p⟩

/-- the first argument, frozen -/
theorem CallW.frz1 {f : FuncId} {rest : List SV} {K : SV → RO → List SObj → Prop} {n i wd len cap e : Nat} {es : List Value} (news : List Value) (hob : hget H n = .buf es wd e) (h2 : (es.drop i).take len = news) (h3 : news.length = len)
    (h : ∀ R'' q, SubRO R R'' → ROSl R'' (.slice q len cap) news wd → CallW P f (.raw (.slice q len cap) :: rest) R'' (hset H n .dead) K) : CallW P f (.sl n 0 i wd len cap :: rest) R H K := by
  intro cx w T vs hr hd hv
  obtain ⟨R'', g1, g2, g3⟩ := hd.freeze hob
  cases hv with
  | cons p t =>
    obtain ⟨g4, q, rfl⟩ := g3 p h2 h3
    refine (h R'' q g2.sub g4 cx w T _ hr g1 (.cons (.raw _) t)).mono ?_
    rintro e w' ⟨v, sv, R', H', L, rfl, k1, k2, k3, k4, k5⟩
    exact ⟨v, sv, R', H', L, rfl, k1, k2, k3, g2.comp k4, k5⟩
end Go.SX
namespace Go.SX
/-- a goal kept shut, so that what is taken apart beside it does not reckon it -/
theorem W.out {p : Prop} (h : W p) : p := by cases h with | mk h => exact h
end Go.SX
