/-
  The plain laws of the script language: parsing joined texts, lines and operations there and back.
-/
import Derived.Lib.ItoaNum
import Derived.Lib.Join
import Derived.Lib.Bytealg
import Derived.Lib.Strings
/- Script, the plain law: what the walk finds, and what is true of it. -/
namespace Go.Sc
open Go.Lib
abbrev Bs := List UInt8

structure Op where
  kind : Int
  node : Int
  n : Int
  set : List Int
  keep : List Bool
  data : Bs

def digv : Bs → Int → Option Int
  | [], a => some a
  | c :: r, a => if c.toNat < 48 ∨ 57 < c.toNat then none else digv r (10 * a + (c.toNat - 48))

/-- a number -/
def numL (t : Bs) : Option Int :=
  if t.length = 0 ∨ 6 < t.length ∨ (1 < t.length ∧ t[0]? = some 48) then none else digv t 0

/-- the pieces between a byte -/
def spl (c : UInt8) : Bs → List Bs
  | [] => [[]]
  | x :: r => if x = c then [] :: spl c r else match spl c r with
    | [] => [[x]]
    | h :: t => (x :: h) :: t

def hexes : Bs := [48, 49, 50, 51, 52, 53, 54, 55, 56, 57, 97, 98, 99, 100, 101, 102]

def hexP : Bs → Option Bs
  | [] => some []
  | [_] => none
  | a :: b :: r => if indexByte hexes a < 0 ∨ indexByte hexes b < 0 then none
    else (hexP r).map (UInt8.ofNat (16 * (indexByte hexes a).toNat + (indexByte hexes b).toNat) :: ·)

def hexL (s : Bs) : Option Bs := if s = [45] then some [] else if s = [] then none else hexP s

/-- all of a list, by a partial function -/
def allL {α β : Type} (f : α → Option β) : List α → Option (List β)
  | [] => some []
  | x :: r => (f x).bind fun y => (allL f r).map (y :: ·)

def powL (s : Bs) : Option (List Int) :=
  if s = [45] then some [] else (allL numL (spl 44 s)).bind fun l => if l.length ≤ 7 then some l else none

def bitL (s : Bs) : Option (List Bool) :=
  if s = [45] then some [] else if (∀ c ∈ s, c = 48 ∨ c = 49) ∧ 0 < s.length ∧ s.length ≤ 64 then some (s.map (· == 49)) else none

def setL (o : Op) (p : UInt8) (s : Bs) : Option Op :=
  if p = 110 then (numL s).map fun x => { o with n := x }
  else if p = 105 then (numL s).map fun x => { o with node := x }
  else if p = 104 then (hexL s).map fun x => { o with data := x }
  else if p = 112 then (powL s).map fun x => { o with set := x }
  else if p = 98 then (bitL s).map fun x => { o with keep := x }
  else none

/-- kinds, their words and parts -/
def forms : List (Int × Bs × Bs) :=
  [(1, [100, 101, 108, 105, 118, 101, 114], [110]), (2, [100, 114, 111, 112], [110]), (3, [99, 111, 112, 121], [110]), (4, [116, 105, 99, 107], [105]),
   (5, [115, 117, 98, 109, 105, 116], [105, 104]), (6, [114, 101, 99, 111, 110, 102], [105, 112]), (7, [97, 114, 109], [105, 110]), (8, [99, 114, 97, 115, 104], [105, 98]),
   (9, [114, 97, 119], [105, 104]), (10, [102, 111, 114, 103, 101], [105, 110, 104])]

def setsL : Op → Bs → List Bs → Option Op
  | o, p :: ps, w :: ws => (setL o p w).bind fun o => setsL o ps ws
  | o, _, _ => some o

def zop (k : Int) : Op := ⟨k, 0, 0, [], [], []⟩

def opF (w : Bs) (ws : List Bs) : List (Int × Bs × Bs) → Option Op
  | [] => none
  | f :: r => if w = f.2.1 ∧ ws.length = f.2.2.length then setsL (zop f.1) f.2.2 ws else opF w ws r

def opL (line : Bs) : Option Op :=
  match spl 32 line with
  | [] => none
  | w :: ws => opF w ws forms

def parG : List Bs → Option (List Op)
  | [] => none
  | [l] => if l = [] then some [] else none
  | l :: m :: r => (opL l).bind fun o => (parG (m :: r)).map (o :: ·)

def parseL (s : Bs) : Option (List Op) := parG (spl 10 s)

def digitsL (n : Int) : Option Bs := if 0 ≤ n ∧ n ≤ 999999 then some (itoa n) else none

def hexc (n : Nat) : UInt8 := hexes.getD n 0

def unhexL (b : Bs) : Bs := if b = [] then [45] else b.flatMap fun c => [hexc (c.toNat / 16), hexc (c.toNat % 16)]

def unpowL (l : List Int) : Option Bs := if l = [] then some [45] else if 7 < l.length then none else (allL digitsL l).map (join · [44])

def unbitL (l : List Bool) : Bs := if l = [] then [45] else l.map fun b => if b then 49 else 48

def getL (o : Op) (p : UInt8) : Option Bs :=
  if p = 110 then digitsL o.n
  else if p = 105 then digitsL o.node
  else if p = 104 then (if o.data.length ≤ 65535 then some (unhexL o.data) else none)
  else if p = 112 then unpowL o.set
  else (if o.keep.length ≤ 64 then some (unbitL o.keep) else none)

def getsL (o : Op) : Bs → Bs → Option Bs
  | [], a => some a
  | p :: ps, a => (getL o p).bind fun s => getsL o ps (a ++ 32 :: s)

def lineF (o : Op) : List (Int × Bs × Bs) → Option Bs
  | [] => none
  | f :: r => if f.1 = o.kind then getsL o f.2.2 f.2.1 else lineF o r

def lineL (o : Op) : Option Bs := lineF o forms

/-- the text, or the error: 1 no line, 2 too long -/
def textG : List Op → Bs → Bool → Except Nat Bs
  | [], out, long => if long then .error 2 else .ok out
  | o :: r, out, long => match lineL o with
    | none => .error 1
    | some l => if long ∨ 65535 ≤ l.length + out.length then textG r out true else textG r (out ++ (l ++ [10])) false

def textL (l : List Op) : Except Nat Bs := textG l [] false

def plain (o : Op) : Op :=
  if o.kind = 1 ∨ o.kind = 2 ∨ o.kind = 3 then { zop o.kind with n := o.n }
  else if o.kind = 4 then { zop o.kind with node := o.node }
  else if o.kind = 5 ∨ o.kind = 9 then { zop o.kind with node := o.node, data := o.data }
  else if o.kind = 6 then { zop o.kind with node := o.node, set := o.set }
  else if o.kind = 7 then { zop o.kind with node := o.node, n := o.n }
  else if o.kind = 8 then { zop o.kind with node := o.node, keep := o.keep }
  else if o.kind = 10 then { zop o.kind with node := o.node, n := o.n, data := o.data }
  else zop o.kind

/-! ### pieces -/
theorem spl_ne (c : UInt8) (s : Bs) : spl c s ≠ [] := by
  cases s with
  | nil => simp [spl]
  | cons x r =>
    simp only [spl]
    split
    · simp
    · split <;> simp

theorem spl_none {c : UInt8} : ∀ {s : Bs}, c ∉ s → spl c s = [s]
  | [], _ => rfl
  | x :: r, h => by
    have h1 : x ≠ c := fun e => h (by simp [e])
    have h2 : c ∉ r := fun e => h (by simp [e])
    simp only [spl, if_neg h1, spl_none h2]

theorem spl_cut {c : UInt8} : ∀ {a : Bs} (b : Bs), c ∉ a → spl c (a ++ c :: b) = a :: spl c b
  | [], b, _ => by simp [spl]
  | x :: r, b, h => by
    have h1 : x ≠ c := fun e => h (by simp [e])
    have h2 : c ∉ r := fun e => h (by simp [e])
    simp only [List.cons_append, spl, if_neg h1, spl_cut b h2]

theorem spl_app {c : UInt8} : ∀ (a b : Bs), ∃ w, (spl c a).getLast? = some w ∧ spl c (a ++ b) = (spl c a).dropLast ++ (match spl c b with | [] => [w] | h :: t => (w ++ h) :: t)
  | [], b => by
    refine ⟨[], rfl, ?_⟩
    simp only [spl, List.nil_append, List.dropLast_singleton]
    cases hb : spl c b with
    | nil => exact absurd hb (spl_ne c b)
    | cons h t => rfl
  | x :: r, b => by
    obtain ⟨w, h1, h2⟩ := spl_app (c := c) r b
    by_cases hx : x = c
    · refine ⟨w, ?_, ?_⟩
      · simp only [spl, if_pos hx]
        rw [List.getLast?_cons, h1]; rfl
      · simp only [spl, List.cons_append, if_pos hx, h2]
        rw [List.dropLast_cons_of_ne_nil (spl_ne c r), List.cons_append]
    · cases hr : spl c r with
      | nil => exact absurd hr (spl_ne c r)
      | cons h t =>
        rw [hr] at h1 h2
        cases t with
        | nil =>
          simp at h1
          subst h1
          refine ⟨x :: h, ?_, ?_⟩
          · simp [spl, if_neg hx, hr]
          · simp only [spl, List.cons_append, if_neg hx, h2, hr]
            cases hb : spl c b with
            | nil => rfl
            | cons h' t' => rfl
        | cons h3 t3 =>
          refine ⟨w, ?_, ?_⟩
          · simp only [spl, if_neg hx, hr]
            rw [List.getLast?_cons_cons] at h1 ⊢; exact h1
          · simp only [spl, List.cons_append, if_neg hx, h2, hr]
            simp

theorem spl_mem {c : UInt8} : ∀ {s w : Bs}, w ∈ spl c s → c ∉ w
  | [], w, h => by simp [spl] at h; subst h; simp
  | x :: r, w, h => by
    simp only [spl] at h
    split at h
    · rcases List.mem_cons.1 h with h | h
      · subst h; simp
      · exact spl_mem h
    · next hx =>
      split at h
      · next hr => exact absurd hr (spl_ne c r)
      · next h1 t hr =>
        rcases List.mem_cons.1 h with h | h
        · subst h
          have := spl_mem (s := r) (w := h1) (by rw [hr]; simp)
          simp [this, Ne.symm hx]
        · exact spl_mem (s := r) (by rw [hr]; simp [h])

theorem join_cons2 (x y : Bs) (r : List Bs) (sep : Bs) : join (x :: y :: r) sep = x ++ (sep ++ join (y :: r) sep) := by simp [join, List.intercalate]

theorem join_spl (c : UInt8) : ∀ s : Bs, join (spl c s) [c] = s
  | [] => by simp [spl, join_one]
  | x :: r => by
    have ih := join_spl c r
    simp only [spl]
    split
    · next hx =>
      subst hx
      cases hr : spl x r with
      | nil => exact absurd hr (spl_ne x r)
      | cons h t => rw [hr] at ih; rw [join_cons2, ih]; simp
    · split
      · next hr => exact absurd hr (spl_ne c r)
      · next h t hr =>
        rw [hr] at ih
        cases t with
        | nil => rw [join_one] at ih ⊢; rw [ih]
        | cons y t => rw [join_cons2] at ih ⊢; rw [← ih]; simp

theorem spl_join {c : UInt8} : ∀ {ws : List Bs}, ws ≠ [] → (∀ w ∈ ws, c ∉ w) → spl c (join ws [c]) = ws
  | [], h, _ => absurd rfl h
  | [w], _, h => by rw [join_one]; exact spl_none (h w (by simp))
  | w :: y :: r, _, h => by
    rw [join_cons2, List.singleton_append, spl_cut _ (h w (by simp)), spl_join (by simp) (fun z hz => h z (by simp [hz]))]

theorem spl_len (c : UInt8) : ∀ s : Bs, (spl c s).length = s.count c + 1
  | [] => rfl
  | x :: r => by
    simp only [spl]
    split
    · next h => subst h; simp [spl_len x r]
    · next h =>
      split
      · next hr => exact absurd hr (spl_ne c r)
      · next h' t hr =>
        have := spl_len c r
        rw [hr] at this
        rw [List.count_cons_of_ne (by simpa using h), ← this]; rfl

theorem spl_le {c : UInt8} {s w : Bs} (h : w ∈ spl c s) : w.length ≤ s.length := by
  induction s generalizing w with
  | nil => simp [spl] at h; simp [h]
  | cons x r ih =>
    simp only [spl] at h
    split at h
    · rcases List.mem_cons.1 h with h | h
      · subst h; simp
      · have := ih h; simp; omega
    · split at h
      · next hr => exact absurd hr (spl_ne c r)
      · next h1 t hr =>
        rw [hr] at ih
        rcases List.mem_cons.1 h with h | h
        · subst h; have := ih (w := h1) (by simp); simp; omega
        · have := ih (w := w) (by simp [h]); simp; omega

/-! ### texts -/
theorem parse_nil : parseL [] = some [] := rfl

theorem parse_cut {l r : Bs} (h : 10 ∉ l) : parseL (l ++ 10 :: r) = (opL l).bind fun o => (parseL r).map (o :: ·) := by
  unfold parseL
  rw [spl_cut _ h]
  cases hr : spl 10 r with
  | nil => exact absurd hr (spl_ne 10 r)
  | cons m t => rfl

theorem parse_bad {l : Bs} (h : 10 ∉ l) (hn : l ≠ []) : parseL l = none := by
  unfold parseL
  rw [spl_none h]
  simp [parG, hn]

theorem cut_of {s : Bs} (c : UInt8) : (c ∉ s) ∨ ∃ l r, s = l ++ c :: r ∧ c ∉ l := by
  by_cases h : c ∈ s
  · right
    induction s with
    | nil => simp at h
    | cons x t ih =>
      by_cases hx : x = c
      · exact ⟨[], t, by simp [hx], by simp⟩
      · obtain ⟨l, r, h1, h2⟩ := ih (by rcases List.mem_cons.1 h with h | h; exact absurd h.symm hx; exact h)
        exact ⟨x :: l, r, by simp [h1], by simp [h2, Ne.symm hx]⟩
  · exact .inl h

/-- A: two texts, one behind the other -/
theorem parse_app : ∀ {a b : Bs} {x y : List Op}, parseL a = some x → parseL b = some y → parseL (a ++ b) = some (x ++ y) := by
  intro a
  induction h : a.length using Nat.strongRecOn generalizing a with
  | _ n ih =>
    intro b x y ha hb
    rcases cut_of (s := a) 10 with h1 | ⟨l, r, h1, h2⟩
    · by_cases hn : a = []
      · subst hn; rw [parse_nil] at ha; cases ha; simpa using hb
      · rw [parse_bad h1 hn] at ha; cases ha
    · subst h1
      rw [parse_cut h2] at ha
      cases ho : opL l with
      | none => rw [ho] at ha; cases ha
      | some o =>
        rw [ho] at ha
        simp only [Option.bind_some] at ha
        cases hr : parseL r with
        | none => rw [hr] at ha; cases ha
        | some z =>
          rw [hr] at ha
          simp only [Option.map_some, Option.some.injEq] at ha
          subst ha
          rw [List.append_assoc, List.cons_append, parse_cut h2, ho, ih r.length (by subst h; simp; omega) rfl hr hb]
          rfl

end Go.Sc

/- Script, the plain law: numbers, bytes, bits, there and back. -/
namespace Go.Sc
open Go.Lib

/-! ### numbers -/
theorem digv_app : ∀ (a b : Bs) (n : Int), digv (a ++ b) n = (digv a n).bind fun m => digv b m
  | [], b, n => rfl
  | c :: r, b, n => by
    simp only [List.cons_append, digv]
    split
    · rfl
    · exact digv_app r b _

theorem dig_toNat {d : Nat} (h : d < 10) : (UInt8.ofNat (48 + d)).toNat = 48 + d := by
  rw [UInt8.toNat_ofNat']; omega

theorem decDigits_small {u : Nat} (h : u < 10) : decDigits u = [UInt8.ofNat (48 + u)] := by rw [decDigits, dif_pos h]
theorem decDigits_big {u : Nat} (h : ¬ u < 10) : decDigits u = decDigits (u / 10) ++ [UInt8.ofNat (48 + u % 10)] := by rw [decDigits, dif_neg h]

theorem digv_dec (u : Nat) : digv (decDigits u) 0 = some (u : Int) := by
  induction u using Nat.strongRecOn with
  | _ u ih =>
    by_cases h : u < 10
    · rw [decDigits_small h]
      simp only [digv, dig_toNat h]
      rw [if_neg (by omega)]
      simp only [Option.some.injEq]; omega
    · rw [decDigits_big h, digv_app, ih (u / 10) (by omega)]
      simp only [Option.bind_some, digv, dig_toNat (show u % 10 < 10 by omega)]
      rw [if_neg (by omega)]
      congr 1
      omega

theorem dec_ne (u : Nat) : decDigits u ≠ [] := by
  by_cases h : u < 10
  · rw [decDigits_small h]; simp
  · rw [decDigits_big h]; simp

theorem dec_digit (u : Nat) : ∀ c ∈ decDigits u, 48 ≤ c.toNat ∧ c.toNat ≤ 57 := by
  induction u using Nat.strongRecOn with
  | _ u ih =>
    by_cases h : u < 10
    · rw [decDigits_small h]
      intro c hc
      simp only [List.mem_singleton] at hc
      subst hc
      rw [dig_toNat h]; omega
    · rw [decDigits_big h]
      intro c hc
      rcases List.mem_append.1 hc with hc | hc
      · exact ih (u / 10) (by omega) c hc
      · simp only [List.mem_singleton] at hc
        subst hc
        rw [dig_toNat (by omega)]; omega

theorem dec_len (u : Nat) (h : u ≤ 999999) : (decDigits u).length ≤ 6 := by
  rw [decDigits_length]
  by_cases h0 : nDigits u ≤ 6
  · exact h0
  · have hu : 10 ^ 6 ≤ u := by
      have aux : ∀ k u, k < nDigits u → 1 ≤ k → 10 ^ k ≤ u := by
        intro k
        induction k with
        | zero => intro u _ h; omega
        | succ k ih =>
          intro u hk _
          by_cases h1 : u < 10
          · rw [nDigits_small h1] at hk; omega
          · rw [nDigits_big h1] at hk
            rcases Nat.eq_zero_or_pos k with h2 | h2
            · subst h2; simp; omega
            · have := ih (u / 10) (by omega) h2
              rw [Nat.pow_succ]; omega
      exact aux 6 u (by omega) (by omega)
    omega

theorem dec_head (u : Nat) (h : 1 ≤ u) : (decDigits u)[0]? ≠ some 48 := by
  induction u using Nat.strongRecOn with
  | _ u ih =>
    by_cases h1 : u < 10
    · rw [decDigits_small h1]
      simp only [List.getElem?_cons_zero, ne_eq, Option.some.injEq]
      intro he
      have := congrArg UInt8.toNat he
      rw [dig_toNat h1] at this
      simp at this; omega
    · rw [decDigits_big h1, List.getElem?_append_left (List.length_pos_iff.2 (dec_ne _))]
      exact ih (u / 10) (by omega) (by omega)

theorem num_dec (u : Nat) (h : u ≤ 999999) : numL (decDigits u) = some (u : Int) := by
  unfold numL
  rw [if_neg, digv_dec]
  rintro (h1 | h1 | ⟨h1, h2⟩)
  · exact dec_ne u (List.length_eq_zero_iff.1 h1)
  · have := dec_len u h; omega
  · by_cases hu : u < 10
    · rw [decDigits_small hu] at h1; simp at h1
    · exact dec_head u (by omega) h2

theorem itoa_pos {n : Int} (h : 0 ≤ n) : itoa n = decDigits n.toNat := by unfold itoa; rw [if_neg (by omega)]

theorem num_digits {n : Int} {s : Bs} (h : digitsL n = some s) : numL s = some n ∧ 0 ≤ n ∧ n ≤ 999999 ∧ s = decDigits n.toNat := by
  unfold digitsL at h
  split at h
  · next hn =>
    cases h
    rw [itoa_pos hn.1]
    refine ⟨?_, hn.1, hn.2, rfl⟩
    rw [num_dec _ (by omega)]
    congr 1; omega
  · cases h

/-- a number's digits are those that are written -/
theorem digv_inv : ∀ (k : Nat) (s : Bs) (a : Nat) (n : Int), s.length = k → 1 ≤ a → digv s a = some n → ∃ m : Nat, n = m ∧ decDigits m = decDigits a ++ s ∧ (m : Nat) < (a + 1) * 10 ^ k ∧ a ≤ m := by
  intro k
  induction k with
  | zero =>
    intro s a n hs _ h
    have : s = [] := List.length_eq_zero_iff.1 hs
    subst this
    simp only [digv, Option.some.injEq] at h
    exact ⟨a, h.symm, by simp, by simp, Nat.le_refl _⟩
  | succ k ih =>
    intro s a n hs ha h
    cases s with
    | nil => simp at hs
    | cons c r =>
      simp only [digv] at h
      split at h
      · cases h
      · next hc =>
        have e : (10 * (a : Int) + ((c.toNat : Int) - 48)) = ((10 * a + (c.toNat - 48) : Nat) : Int) := by omega
        rw [e] at h
        obtain ⟨m, h1, h2, h3, h4⟩ := ih r _ n (by simpa using hs) (by omega) h
        refine ⟨m, h1, ?_, ?_, by omega⟩
        · rw [h2, decDigits_big (u := 10 * a + (c.toNat - 48)) (by omega)]
          rw [show (10 * a + (c.toNat - 48)) / 10 = a by omega, show (10 * a + (c.toNat - 48)) % 10 = c.toNat - 48 by omega, show 48 + (c.toNat - 48) = c.toNat by omega]
          simp
        · rw [Nat.pow_succ, Nat.mul_comm (10 ^ k) 10, ← Nat.mul_assoc]
          refine Nat.lt_of_lt_of_le h3 (Nat.mul_le_mul_right _ ?_)
          have := c.toNat_lt
          omega

theorem digits_num {n : Int} {s : Bs} (h : numL s = some n) : digitsL n = some s ∧ 0 ≤ n ∧ n ≤ 999999 := by
  unfold numL at h
  split at h
  · cases h
  · next hc =>
    have h1 : s.length ≠ 0 := fun e => hc (.inl e)
    have h2 : s.length ≤ 6 := by
      rcases Nat.lt_or_ge 6 s.length with h | h
      · exact absurd (.inr (.inl h)) hc
      · exact h
    cases s with
    | nil => simp at h1
    | cons c r =>
      simp only [digv] at h
      split at h
      · cases h
      · next hd =>
        have hlt := c.toNat_lt
        by_cases hz : c.toNat = 48
        · have hcz : c = 48 := UInt8.toNat_inj.1 hz
          subst hcz
          cases r with
          | nil =>
            simp [digv] at h
            subst h
            refine ⟨?_, by omega, by omega⟩
            rw [digitsL, if_pos (by omega), itoa_pos (by omega), decDigits_small (by omega)]
            rfl
          | cons d r => exact absurd (.inr (.inr ⟨by simp, by simp⟩)) hc
        · have e : (10 * (0 : Int) + ((c.toNat : Int) - 48)) = ((c.toNat - 48 : Nat) : Int) := by omega
          rw [e] at h
          obtain ⟨m, h3, h4, h5, _⟩ := digv_inv r.length r _ n rfl (by omega) h
          subst h3
          have h6 : r.length ≤ 5 := by simpa using h2
          have h7 : (m : Nat) < 10 * 10 ^ r.length := Nat.lt_of_lt_of_le h5 (Nat.mul_le_mul_right _ (by omega))
          have h8 : 10 ^ r.length ≤ 10 ^ 5 := Nat.pow_le_pow_right (by omega) h6
          have h9 : (m : Nat) < 1000000 := by omega
          refine ⟨?_, by omega, by omega⟩
          rw [digitsL, if_pos (by omega), itoa_pos (by omega)]
          congr 1
          rw [show ((m : Int)).toNat = m by omega, h4, decDigits_small (by omega), show 48 + (c.toNat - 48) = c.toNat by omega]
          simp

/-! ### bytes -/
theorem hexes_idx : ∀ x, x < 16 → indexByte hexes (hexc x) = x := by decide

theorem idx_spec : ∀ (l : Bs) (c : UInt8), (indexByte l c = -1) ∨ (0 ≤ indexByte l c ∧ (indexByte l c).toNat < l.length ∧ l.getD (indexByte l c).toNat 0 = c)
  | [], c => .inl rfl
  | b :: l, c => by
    unfold indexByte
    split
    · next h => right; simp at h; subst h; simp
    · split
      · left; rfl
      · next h1 h2 =>
        right
        rcases idx_spec l c with h | ⟨h3, h4, h5⟩
        · simp [h] at h2
        · refine ⟨by omega, by simp; omega, ?_⟩
          rw [show (indexByte l c + 1).toNat = (indexByte l c).toNat + 1 by omega]
          simpa using h5

theorem hexp_inv : ∀ (k : Nat) (s b : Bs), s.length ≤ k → hexP s = some b → (b.flatMap fun c => [hexc (c.toNat / 16), hexc (c.toNat % 16)]) = s
  | _, [], b, _, h => by simp [hexP] at h; subst h; rfl
  | _, [_], b, _, h => by simp [hexP] at h
  | 0, a :: c :: r, b, hk, h => by simp at hk
  | k + 1, a :: c :: r, b, hk, h => by
    simp only [hexP] at h
    split at h
    · cases h
    · next hn =>
      cases hr : hexP r with
      | none => rw [hr] at h; cases h
      | some z =>
        rw [hr] at h
        simp only [Option.map_some, Option.some.injEq] at h
        subst h
        have h1 := hexp_inv k r z (by simp at hk; omega) hr
        have h2 : ¬ indexByte hexes a < 0 := fun e => hn (.inl e)
        have h3 : ¬ indexByte hexes c < 0 := fun e => hn (.inr e)
        rcases idx_spec hexes a with h4 | ⟨h4, h5, h6⟩
        · omega
        rcases idx_spec hexes c with h7 | ⟨h7, h8, h9⟩
        · omega
        have hl : hexes.length = 16 := rfl
        rw [List.flatMap_cons, h1]
        have e : (UInt8.ofNat (16 * (indexByte hexes a).toNat + (indexByte hexes c).toNat)).toNat = 16 * (indexByte hexes a).toNat + (indexByte hexes c).toNat := by
          rw [UInt8.toNat_ofNat']; omega
        rw [e]
        rw [show (16 * (indexByte hexes a).toNat + (indexByte hexes c).toNat) / 16 = (indexByte hexes a).toNat by omega]
        rw [show (16 * (indexByte hexes a).toNat + (indexByte hexes c).toNat) % 16 = (indexByte hexes c).toNat by omega]
        simp only [hexc, h6, h9]
        rfl

theorem hexp_of : ∀ b : Bs, hexP (b.flatMap fun c => [hexc (c.toNat / 16), hexc (c.toNat % 16)]) = some b
  | [] => rfl
  | c :: r => by
    have hlt := c.toNat_lt
    rw [List.flatMap_cons]
    simp only [List.cons_append, List.nil_append, hexP]
    rw [hexes_idx _ (by omega), hexes_idx _ (by omega), if_neg (by omega), hexp_of r]
    simp only [Option.map_some, Option.some.injEq, List.cons.injEq, and_true]
    rw [show 16 * ((c.toNat / 16 : Nat) : Int).toNat + ((c.toNat % 16 : Nat) : Int).toNat = c.toNat by omega]
    simp

theorem flat_len (b : Bs) : (b.flatMap fun c => [hexc (c.toNat / 16), hexc (c.toNat % 16)]).length = 2 * b.length := by
  induction b with
  | nil => rfl
  | cons c r ih => rw [List.flatMap_cons]; simp [ih]; omega

theorem hex_inv {s b : Bs} (h : hexL s = some b) : unhexL b = s ∧ b.length ≤ s.length := by
  unfold hexL at h
  split at h
  · next hs => cases h; exact ⟨by rw [unhexL, if_pos rfl, hs], by simp⟩
  · split at h
    · cases h
    · next hs =>
      have h1 := hexp_inv s.length s b (Nat.le_refl _) h
      have hb : b ≠ [] := by intro e; subst e; simp at h1; exact hs h1
      refine ⟨by rw [unhexL, if_neg hb, h1], ?_⟩
      have := flat_len b
      rw [h1] at this; omega

theorem hex_of (b : Bs) : hexL (unhexL b) = some b := by
  unfold unhexL
  split
  · next h => subst h; rfl
  · next h =>
    unfold hexL
    have h1 := flat_len b
    have h2 : b.length ≠ 0 := fun e => h (List.length_eq_zero_iff.1 e)
    rw [if_neg, if_neg, hexp_of]
    · intro e; rw [e] at h1; simp at h1; omega
    · intro e; rw [e] at h1; simp at h1; omega

theorem hexc_ok : ∀ x, x < 16 → hexc x ≠ 10 ∧ hexc x ≠ 32 ∧ hexc x ≠ 44 := by decide

theorem unhex_mem {b : Bs} : ∀ c ∈ unhexL b, c ≠ 10 ∧ c ≠ 32 ∧ c ≠ 44 := by
  intro c hc
  unfold unhexL at hc
  split at hc
  · simp only [List.mem_singleton] at hc; subst hc; decide
  · rw [List.mem_flatMap] at hc
    obtain ⟨x, _, hx⟩ := hc
    have hlt := x.toNat_lt
    simp only [List.mem_cons, List.not_mem_nil, or_false] at hx
    rcases hx with hx | hx
    · rw [hx]; exact hexc_ok _ (by omega)
    · rw [hx]; exact hexc_ok _ (by omega)

/-! ### bits -/
theorem bit_inv {s : Bs} {b : List Bool} (h : bitL s = some b) : unbitL b = s ∧ b.length ≤ 64 := by
  unfold bitL at h
  split at h
  · next hs => cases h; exact ⟨by rw [unbitL, if_pos rfl, hs], by simp⟩
  · split at h
    · next hs =>
      cases h
      have hn : (s.map (· == 49)) ≠ [] := by
        intro e
        have := congrArg List.length e
        have h0 := hs.2.1
        simp only [List.length_map, List.length_nil] at this
        omega
      refine ⟨?_, by have := hs.2.2; simpa using this⟩
      rw [unbitL, if_neg hn, List.map_map]
      refine (List.map_congr_left fun c hc => ?_).trans (List.map_id s)
      rcases hs.1 c hc with h | h
      · subst h; rfl
      · subst h; rfl
    · cases h

theorem unbit_mem {b : List Bool} : ∀ c ∈ unbitL b, c ≠ 10 ∧ c ≠ 32 ∧ c ≠ 44 := by
  intro c hc
  unfold unbitL at hc
  split at hc
  · simp only [List.mem_singleton] at hc; subst hc; decide
  · rw [List.mem_map] at hc
    obtain ⟨x, _, hx⟩ := hc
    subst hx
    cases x <;> decide

theorem bit_of {b : List Bool} (h : b.length ≤ 64) : bitL (unbitL b) = some b := by
  unfold unbitL
  split
  · next h => subst h; rfl
  · next hn =>
    unfold bitL
    have h2 : b.length ≠ 0 := fun e => hn (List.length_eq_zero_iff.1 e)
    rw [if_neg, if_pos]
    · rw [List.map_map]
      congr 1
      refine (List.map_congr_left fun c _ => ?_).trans (List.map_id b)
      cases c <;> rfl
    · refine ⟨?_, by simp; omega, by simpa using h⟩
      intro c hc
      rw [List.mem_map] at hc
      obtain ⟨x, _, hx⟩ := hc
      subst hx
      cases x <;> simp
    · intro e
      cases b with
      | nil => exact hn rfl
      | cons x r => cases x <;> simp at e

/-! ### powers -/
theorem all_len {α β : Type} {f : α → Option β} : ∀ {l : List α} {m : List β}, allL f l = some m → m.length = l.length
  | [], m, h => by simp [allL] at h; subst h; rfl
  | x :: r, m, h => by
    simp only [allL] at h
    cases hx : f x with
    | none => rw [hx] at h; cases h
    | some y =>
      rw [hx] at h
      simp only [Option.bind_some] at h
      cases hr : allL f r with
      | none => rw [hr] at h; cases h
      | some z => rw [hr] at h; simp at h; subst h; simp [all_len hr]

theorem all_back {α β : Type} {f : α → Option β} {g : β → Option α} (hfg : ∀ x y, f x = some y → g y = some x) : ∀ {l : List α} {m : List β}, allL f l = some m → allL g m = some l
  | [], m, h => by simp [allL] at h; subst h; rfl
  | x :: r, m, h => by
    simp only [allL] at h
    cases hx : f x with
    | none => rw [hx] at h; cases h
    | some y =>
      rw [hx] at h
      simp only [Option.bind_some] at h
      cases hr : allL f r with
      | none => rw [hr] at h; cases h
      | some z => rw [hr] at h; simp at h; subst h; simp [allL, hfg x y hx, all_back hfg hr]

theorem all_mem {α β : Type} {f : α → Option β} : ∀ {l : List α} {m : List β}, allL f l = some m → ∀ y ∈ m, ∃ x ∈ l, f x = some y
  | [], m, h => by simp [allL] at h; subst h; simp
  | x :: r, m, h => by
    simp only [allL] at h
    cases hx : f x with
    | none => rw [hx] at h; cases h
    | some y =>
      rw [hx] at h
      simp only [Option.bind_some] at h
      cases hr : allL f r with
      | none => rw [hr] at h; cases h
      | some z =>
        rw [hr] at h; simp at h; subst h
        intro u hu
        rcases List.mem_cons.1 hu with hu | hu
        · subst hu; exact ⟨x, by simp, hx⟩
        · obtain ⟨v, hv, he⟩ := all_mem hr u hu
          exact ⟨v, by simp [hv], he⟩

theorem digits_mem {n : Int} {s : Bs} (h : digitsL n = some s) : s ≠ [] ∧ s.length ≤ 6 ∧ ∀ c ∈ s, c ≠ 10 ∧ c ≠ 32 ∧ c ≠ 44 ∧ c ≠ 45 := by
  obtain ⟨_, h0, h1, h2⟩ := num_digits h
  subst h2
  refine ⟨dec_ne _, dec_len _ (by omega), fun c hc => ?_⟩
  have := dec_digit _ c hc
  refine ⟨?_, ?_, ?_, ?_⟩ <;> (intro e; subst e; simp at this)

theorem pow_inv {s : Bs} {l : List Int} (h : powL s = some l) : unpowL l = some s ∧ l.length ≤ 7 := by
  unfold powL at h
  split at h
  · next hs => cases h; exact ⟨by rw [unpowL, if_pos rfl, hs], by simp⟩
  · cases ha : allL numL (spl 44 s) with
    | none => rw [ha] at h; cases h
    | some m =>
      rw [ha] at h
      simp only [Option.bind_some] at h
      split at h
      · next hl =>
        cases h
        refine ⟨?_, hl⟩
        have hne : l ≠ [] := by
          intro e; subst e
          have := all_len ha
          exact spl_ne 44 s (List.length_eq_zero_iff.1 this.symm)
        rw [unpowL, if_neg hne, if_neg (by omega), all_back (fun x y hxy => (digits_num hxy).1) ha, Option.map_some, join_spl]
      · cases h

theorem pow_of {l : List Int} {s : Bs} (h : unpowL l = some s) : powL s = some l ∧ (∀ c ∈ s, c ≠ 10 ∧ c ≠ 32) := by
  unfold unpowL at h
  split at h
  · next hl => cases h; subst hl; exact ⟨rfl, by decide⟩
  · next hl =>
    split at h
    · cases h
    · next h7 =>
      cases ha : allL digitsL l with
      | none => rw [ha] at h; cases h
      | some m =>
        rw [ha] at h
        simp only [Option.map_some, Option.some.injEq] at h
        subst h
        have hm : ∀ w ∈ m, w ≠ [] ∧ w.length ≤ 6 ∧ ∀ c ∈ w, c ≠ 10 ∧ c ≠ 32 ∧ c ≠ 44 ∧ c ≠ 45 := by
          intro w hw
          obtain ⟨n, _, he⟩ := all_mem ha w hw
          exact digits_mem he
        have hne : m ≠ [] := by
          intro e; subst e
          exact hl (List.length_eq_zero_iff.1 (all_len ha).symm)
        have hcs : ∀ (m : List Bs), (∀ w ∈ m, w ≠ [] ∧ w.length ≤ 6 ∧ ∀ c ∈ w, c ≠ 10 ∧ c ≠ 32 ∧ c ≠ 44 ∧ c ≠ 45) → ∀ c ∈ join m [44], c ≠ 10 ∧ c ≠ 32 ∧ c ≠ 45 := by
          intro m
          induction m with
          | nil => intro _ c hc; simp [join, List.intercalate] at hc
          | cons w r ih =>
            intro hm c hc
            cases r with
            | nil =>
              rw [join_one] at hc
              have := (hm w (by simp)).2.2 c hc
              exact ⟨this.1, this.2.1, this.2.2.2⟩
            | cons y r =>
              rw [join_cons2] at hc
              rcases List.mem_append.1 hc with hc | hc
              · have := (hm w (by simp)).2.2 c hc
                exact ⟨this.1, this.2.1, this.2.2.2⟩
              · rcases List.mem_append.1 hc with hc | hc
                · simp at hc; subst hc; decide
                · exact ih (fun w hw => hm w (by simp [hw])) c hc
        refine ⟨?_, fun c hc => ⟨(hcs m hm c hc).1, (hcs m hm c hc).2.1⟩⟩
        unfold powL
        rw [if_neg, spl_join hne (fun w hw => fun hc => ((hm w hw).2.2 44 hc).2.2.1 rfl), all_back (fun x y hxy => (num_digits hxy).1) ha]
        · simp only [Option.bind_some]
          rw [if_pos (by omega)]
        · intro e
          exact (hcs m hm 45 (by rw [e]; simp)).2.2 rfl

end Go.Sc

/- Script, the plain law: lines and texts, there and back. -/
namespace Go.Sc
open Go.Lib

def letters : Bs := [110, 105, 104, 112, 98]

theorem get_n (o : Op) : getL o 110 = digitsL o.n := rfl
theorem get_i (o : Op) : getL o 105 = digitsL o.node := rfl
theorem get_h (o : Op) : getL o 104 = if o.data.length ≤ 65535 then some (unhexL o.data) else none := rfl
theorem get_p (o : Op) : getL o 112 = unpowL o.set := rfl
theorem get_b (o : Op) : getL o 98 = if o.keep.length ≤ 64 then some (unbitL o.keep) else none := rfl
theorem set_n (o : Op) (s : Bs) : setL o 110 s = (numL s).map fun x => { o with n := x } := rfl
theorem set_i (o : Op) (s : Bs) : setL o 105 s = (numL s).map fun x => { o with node := x } := rfl
theorem set_h (o : Op) (s : Bs) : setL o 104 s = (hexL s).map fun x => { o with data := x } := rfl
theorem set_p (o : Op) (s : Bs) : setL o 112 s = (powL s).map fun x => { o with set := x } := rfl
theorem set_b (o : Op) (s : Bs) : setL o 98 s = (bitL s).map fun x => { o with keep := x } := rfl

theorem set_inv {o o' : Op} {p : UInt8} {s : Bs} (h : setL o p s = some o') :
    (p = 110 ∧ ∃ x, numL s = some x ∧ o' = { o with n := x }) ∨ (p = 105 ∧ ∃ x, numL s = some x ∧ o' = { o with node := x }) ∨ (p = 104 ∧ ∃ x, hexL s = some x ∧ o' = { o with data := x }) ∨
    (p = 112 ∧ ∃ x, powL s = some x ∧ o' = { o with set := x }) ∨ (p = 98 ∧ ∃ x, bitL s = some x ∧ o' = { o with keep := x }) := by
  unfold setL at h
  split at h
  · next hp => rw [Option.map_eq_some_iff] at h; obtain ⟨x, hx, h⟩ := h; exact .inl ⟨hp, x, hx, h.symm⟩
  split at h
  · next hp => rw [Option.map_eq_some_iff] at h; obtain ⟨x, hx, h⟩ := h; exact .inr (.inl ⟨hp, x, hx, h.symm⟩)
  split at h
  · next hp => rw [Option.map_eq_some_iff] at h; obtain ⟨x, hx, h⟩ := h; exact .inr (.inr (.inl ⟨hp, x, hx, h.symm⟩))
  split at h
  · next hp => rw [Option.map_eq_some_iff] at h; obtain ⟨x, hx, h⟩ := h; exact .inr (.inr (.inr (.inl ⟨hp, x, hx, h.symm⟩)))
  split at h
  · next hp => rw [Option.map_eq_some_iff] at h; obtain ⟨x, hx, h⟩ := h; exact .inr (.inr (.inr (.inr ⟨hp, x, hx, h.symm⟩)))
  · cases h

theorem set_kind {o o' : Op} {p : UInt8} {s : Bs} (h : setL o p s = some o') : o'.kind = o.kind := by
  rcases set_inv h with ⟨_, x, _, h⟩ | ⟨_, x, _, h⟩ | ⟨_, x, _, h⟩ | ⟨_, x, _, h⟩ | ⟨_, x, _, h⟩ <;> subst h <;> rfl

theorem set_other {o o' : Op} {p q : UInt8} {s : Bs} (hq : q ∈ letters) (hpq : p ≠ q) (h : setL o p s = some o') : getL o' q = getL o q := by
  have hq' : q = 110 ∨ q = 105 ∨ q = 104 ∨ q = 112 ∨ q = 98 := by simpa [letters] using hq
  rcases set_inv h with ⟨hp, x, _, h⟩ | ⟨hp, x, _, h⟩ | ⟨hp, x, _, h⟩ | ⟨hp, x, _, h⟩ | ⟨hp, x, _, h⟩ <;> subst h <;> subst hp <;>
    rcases hq' with e | e | e | e | e <;> subst e <;> first | rfl | exact absurd rfl hpq

theorem set_get {o o' : Op} {p : UInt8} {s : Bs} (hs : s.length ≤ 65535) (h : setL o p s = some o') : getL o' p = some s := by
  rcases set_inv h with ⟨hp, x, hx, h⟩ | ⟨hp, x, hx, h⟩ | ⟨hp, x, hx, h⟩ | ⟨hp, x, hx, h⟩ | ⟨hp, x, hx, h⟩ <;> subst h <;> subst hp
  · exact (digits_num hx).1
  · exact (digits_num hx).1
  · obtain ⟨h1, h2⟩ := hex_inv hx; rw [get_h, if_pos (by simp only; omega), h1]
  · exact (pow_inv hx).1
  · obtain ⟨h1, h2⟩ := bit_inv hx; rw [get_b, if_pos h2, h1]

theorem sets_kind : ∀ {ps : Bs} {ws : List Bs} {o o' : Op}, setsL o ps ws = some o' → o'.kind = o.kind
  | [], ws, o, o', h => by simp [setsL] at h; subst h; rfl
  | p :: ps, [], o, o', h => by simp [setsL] at h; subst h; rfl
  | p :: ps, w :: ws, o, o', h => by
    simp only [setsL] at h
    cases ho : setL o p w with
    | none => rw [ho] at h; cases h
    | some o1 => rw [ho] at h; exact (sets_kind h).trans (set_kind ho)

theorem sets_other : ∀ {ps : Bs} {ws : List Bs} {o o' : Op} {q : UInt8}, q ∈ letters → q ∉ ps → setsL o ps ws = some o' → getL o' q = getL o q
  | [], ws, o, o', q, _, _, h => by simp [setsL] at h; subst h; rfl
  | p :: ps, [], o, o', q, _, _, h => by simp [setsL] at h; subst h; rfl
  | p :: ps, w :: ws, o, o', q, hq, hn, h => by
    simp only [setsL] at h
    cases ho : setL o p w with
    | none => rw [ho] at h; cases h
    | some o1 =>
      rw [ho] at h
      exact (sets_other hq (fun e => hn (by simp [e])) h).trans (set_other hq (fun e => hn (by simp [e])) ho)

def flatW (ws : List Bs) : Bs := ws.flatMap (32 :: ·)

theorem sets_gets : ∀ {ps : Bs} {ws : List Bs} {o o' : Op} (a : Bs), ps.Nodup → (∀ p ∈ ps, p ∈ letters) → ws.length = ps.length → (∀ w ∈ ws, w.length ≤ 65535) → setsL o ps ws = some o' →
    getsL o' ps a = some (a ++ flatW ws)
  | [], [], o, o', a, _, _, _, _, h => by simp [getsL, flatW]
  | [], _ :: _, o, o', a, _, _, hl, _, h => by simp at hl
  | p :: ps, [], o, o', a, _, _, hl, _, h => by simp at hl
  | p :: ps, w :: ws, o, o', a, hn, hm, hl, hw, h => by
    simp only [setsL] at h
    cases ho : setL o p w with
    | none => rw [ho] at h; cases h
    | some o1 =>
      rw [ho] at h
      simp only [Option.bind_some] at h
      rw [List.nodup_cons] at hn
      simp only [getsL]
      rw [sets_other (hm p (by simp)) hn.1 h, set_get (hw w (by simp)) ho]
      simp only [Option.bind_some]
      rw [sets_gets _ hn.2 (fun q hq => hm q (by simp [hq])) (by simpa using hl) (fun x hx => hw x (by simp [hx])) h]
      simp [flatW]

theorem join_flat (w : Bs) : ∀ ws : List Bs, join (w :: ws) [32] = w ++ flatW ws
  | [] => by simp [join_one, flatW]
  | y :: r => by rw [join_cons2, join_flat y r]; simp [flatW]

theorem opF_mem {w : Bs} {ws : List Bs} {o : Op} : ∀ {fs : List (Int × Bs × Bs)}, opF w ws fs = some o → ∃ f ∈ fs, w = f.2.1 ∧ ws.length = f.2.2.length ∧ setsL (zop f.1) f.2.2 ws = some o
  | [], h => by simp [opF] at h
  | f :: r, h => by
    simp only [opF] at h
    split at h
    · next hc => exact ⟨f, by simp, hc.1, hc.2, h⟩
    · obtain ⟨g, h1, h2⟩ := opF_mem h; exact ⟨g, by simp [h1], h2⟩

theorem lineF_mem {o : Op} {l : Bs} : ∀ {fs : List (Int × Bs × Bs)}, lineF o fs = some l → ∃ f ∈ fs, f.1 = o.kind ∧ getsL o f.2.2 f.2.1 = some l
  | [], h => by simp [lineF] at h
  | f :: r, h => by
    simp only [lineF] at h
    split at h
    · next hc => exact ⟨f, by simp, hc, h⟩
    · obtain ⟨g, h1, h2⟩ := lineF_mem h; exact ⟨g, by simp [h1], h2⟩

theorem forms_ok : ∀ f ∈ forms, f.2.2.Nodup ∧ (∀ p ∈ f.2.2, p ∈ letters) ∧ 10 ∉ f.2.1 ∧ 32 ∉ f.2.1 ∧ f.2.1.length ≤ 7 ∧ f.2.2.length ≤ 3 := by decide

theorem lineF_of {o : Op} : ∀ f ∈ forms, f.1 = o.kind → lineF o forms = getsL o f.2.2 f.2.1 := by
  intro f hf hk
  simp only [forms, List.mem_cons, List.not_mem_nil, or_false] at hf
  rcases hf with h | h | h | h | h | h | h | h | h | h <;> subst h <;> simp only at hk <;> simp [lineF, forms, ← hk]

theorem opF_of {ws : List Bs} : ∀ f ∈ forms, ws.length = f.2.2.length → opF f.2.1 ws forms = setsL (zop f.1) f.2.2 ws := by
  intro f hf hk
  simp only [forms, List.mem_cons, List.not_mem_nil, or_false] at hf
  rcases hf with h | h | h | h | h | h | h | h | h | h <;> subst h <;> simp only [List.length_cons, List.length_nil] at hk <;> simp [opF, forms, hk]

/-- B: a line that is read is written the same -/
theorem line_op {l : Bs} {o : Op} (hl : l.length ≤ 65535) (h : opL l = some o) : lineL o = some l := by
  unfold opL at h
  cases hs : spl 32 l with
  | nil => exact absurd hs (spl_ne 32 l)
  | cons w ws =>
    rw [hs] at h
    simp only at h
    obtain ⟨f, hf, hw, hlen, ho⟩ := opF_mem h
    have hj := join_spl 32 l
    rw [hs, join_flat] at hj
    obtain ⟨h1, h2, _⟩ := forms_ok f hf
    have hk : f.1 = o.kind := by rw [sets_kind ho]; rfl
    unfold lineL
    rw [lineF_of f hf hk, sets_gets f.2.1 h1 h2 hlen (fun x hx => by have := spl_le (c := 32) (s := l) (w := x) (by rw [hs]; simp [hx]); omega) ho, ← hw, hj]

theorem op_clean {l : Bs} {o : Op} (h : opL l = some o) : o.data.length ≤ 65535 → True := fun _ => trivial

/-- what is written of an op -/
def putF (o : Op) (o0 : Op) (p : UInt8) : Op :=
  if p = 110 then { o0 with n := o.n }
  else if p = 105 then { o0 with node := o.node }
  else if p = 104 then { o0 with data := o.data }
  else if p = 112 then { o0 with set := o.set }
  else { o0 with keep := o.keep }

theorem get_set {o o0 : Op} {p : UInt8} {s : Bs} (hp : p ∈ letters) (h : getL o p = some s) : setL o0 p s = some (putF o o0 p) := by
  have hp' : p = 110 ∨ p = 105 ∨ p = 104 ∨ p = 112 ∨ p = 98 := by simpa [letters] using hp
  rcases hp' with e | e | e | e | e <;> subst e
  · rw [get_n] at h; rw [set_n, (num_digits h).1]; rfl
  · rw [get_i] at h; rw [set_i, (num_digits h).1]; rfl
  · rw [get_h] at h
    split at h
    · cases h
      rw [set_h, hex_of]; rfl
    · cases h
  · rw [get_p] at h; rw [set_p, (pow_of h).1]; rfl
  · rw [get_b] at h
    split at h
    · next hk =>
      cases h
      rw [set_b, bit_of hk]; rfl
    · cases h

theorem gets_inv {o : Op} : ∀ {ps : Bs} {a l : Bs}, getsL o ps a = some l → ∃ ws, allL (getL o) ps = some ws ∧ l = a ++ flatW ws
  | [], a, l, h => by simp [getsL] at h; subst h; exact ⟨[], rfl, by simp [flatW]⟩
  | p :: ps, a, l, h => by
    simp only [getsL] at h
    cases hg : getL o p with
    | none => rw [hg] at h; cases h
    | some s =>
      rw [hg] at h
      simp only [Option.bind_some] at h
      obtain ⟨ws, h1, h2⟩ := gets_inv h
      exact ⟨s :: ws, by simp [allL, hg, h1], by rw [h2]; simp [flatW]⟩

theorem gets_sets {o : Op} : ∀ {ps : Bs} {ws : List Bs} (o0 : Op), (∀ p ∈ ps, p ∈ letters) → allL (getL o) ps = some ws → setsL o0 ps ws = some (ps.foldl (putF o) o0)
  | [], ws, o0, _, h => by simp [allL] at h; subst h; rfl
  | p :: ps, ws, o0, hm, h => by
    simp only [allL] at h
    cases hg : getL o p with
    | none => rw [hg] at h; cases h
    | some s =>
      rw [hg] at h
      simp only [Option.bind_some, Option.map_eq_some_iff] at h
      obtain ⟨z, h1, h2⟩ := h
      subst h2
      simp only [setsL]
      rw [get_set (hm p (by simp)) hg]
      exact gets_sets _ (fun q hq => hm q (by simp [hq])) h1

theorem get_mem {o : Op} {p : UInt8} {s : Bs} (hp : p ∈ letters) (h : getL o p = some s) : ∀ c ∈ s, c ≠ 10 ∧ c ≠ 32 := by
  have hp' : p = 110 ∨ p = 105 ∨ p = 104 ∨ p = 112 ∨ p = 98 := by simpa [letters] using hp
  rcases hp' with e | e | e | e | e <;> subst e
  · rw [get_n] at h; exact fun c hc => ⟨((digits_mem h).2.2 c hc).1, ((digits_mem h).2.2 c hc).2.1⟩
  · rw [get_i] at h; exact fun c hc => ⟨((digits_mem h).2.2 c hc).1, ((digits_mem h).2.2 c hc).2.1⟩
  · rw [get_h] at h
    split at h
    · cases h; exact fun c hc => ⟨(unhex_mem c hc).1, (unhex_mem c hc).2.1⟩
    · cases h
  · exact (pow_of h).2
  · rw [get_b] at h
    split at h
    · cases h; exact fun c hc => ⟨(unbit_mem c hc).1, (unbit_mem c hc).2.1⟩
    · cases h

theorem join_len6 : ∀ {m : List Bs}, (∀ w ∈ m, w.length ≤ 6) → (join m [44]).length ≤ 7 * m.length
  | [], _ => by simp [join, List.intercalate]
  | [w], h => by rw [join_one]; have := h w (by simp); simp; omega
  | w :: y :: r, h => by
    have := join_len6 (m := y :: r) (fun x hx => h x (by simp [hx]))
    rw [join_cons2]
    have h1 := h w (by simp)
    simp at this ⊢; omega

theorem get_len {o : Op} {p : UInt8} {s : Bs} (hp : p ∈ letters) (h : getL o p = some s) : s.length ≤ 64 + 2 * o.data.length := by
  have hp' : p = 110 ∨ p = 105 ∨ p = 104 ∨ p = 112 ∨ p = 98 := by simpa [letters] using hp
  rcases hp' with e | e | e | e | e <;> subst e
  · have := (digits_mem h).2.1; omega
  · have := (digits_mem h).2.1; omega
  · rw [get_h] at h
    split at h
    · cases h
      unfold unhexL
      split
      · simp; omega
      · rw [flat_len]; omega
    · cases h
  · rw [get_p] at h
    unfold unpowL at h
    split at h
    · cases h; simp; omega
    · split at h
      · cases h
      · next h7 =>
        rw [Option.map_eq_some_iff] at h
        obtain ⟨m, ha, h⟩ := h
        subst h
        have := join_len6 (m := m) (fun w hw => by obtain ⟨n, _, he⟩ := all_mem ha w hw; exact (digits_mem he).2.1)
        have := all_len ha
        omega
  · rw [get_b] at h
    split at h
    · cases h
      unfold unbitL
      split
      · simp; omega
      · simp; omega
    · cases h

theorem flatW_mem {ws : List Bs} (h : ∀ w ∈ ws, ∀ c ∈ w, c ≠ 10 ∧ c ≠ 32) : 10 ∉ flatW ws := by
  intro hc
  unfold flatW at hc
  rw [List.mem_flatMap] at hc
  obtain ⟨w, hw, hc⟩ := hc
  rcases List.mem_cons.1 hc with hc | hc
  · cases hc
  · exact (h w hw 10 hc).1 rfl

theorem flatW_len {N : Nat} : ∀ {ws : List Bs}, (∀ w ∈ ws, w.length ≤ N) → (flatW ws).length ≤ ws.length * (N + 1)
  | [], _ => by simp [flatW]
  | w :: r, h => by
    have h1 := flatW_len (ws := r) (fun x hx => h x (by simp [hx]))
    have h2 := h w (by simp)
    unfold flatW at h1 ⊢
    rw [List.flatMap_cons]
    simp only [List.length_append, List.length_cons, Nat.add_mul, Nat.one_mul]
    omega

theorem fold_plain {o : Op} : ∀ f ∈ forms, f.1 = o.kind → f.2.2.foldl (putF o) (zop f.1) = plain o := by
  intro f hf hk
  simp only [forms, List.mem_cons, List.not_mem_nil, or_false] at hf
  rcases hf with h | h | h | h | h | h | h | h | h | h <;> subst h <;> simp only at hk <;> simp [plain, ← hk, List.foldl, putF, zop]

/-- D: a line that is written is read as what belongs to its kind -/
theorem op_line {o : Op} {l : Bs} (h : lineL o = some l) : opL l = some (plain o) ∧ 10 ∉ l ∧ l.length ≤ 202 + 6 * o.data.length := by
  obtain ⟨f, hf, hk, hg⟩ := lineF_mem h
  obtain ⟨h1, h2, h3, h4, h5, h6⟩ := forms_ok f hf
  obtain ⟨ws, ha, hl⟩ := gets_inv hg
  have hlen := all_len ha
  have hmem : ∀ w ∈ ws, (∀ c ∈ w, c ≠ 10 ∧ c ≠ 32) ∧ w.length ≤ 64 + 2 * o.data.length := by
    intro w hw
    obtain ⟨p, hp, he⟩ := all_mem ha w hw
    exact ⟨get_mem (h2 p hp) he, get_len (h2 p hp) he⟩
  subst hl
  refine ⟨?_, ?_, ?_⟩
  · unfold opL
    rw [← join_flat, spl_join (by simp)]
    · simp only
      rw [opF_of f hf hlen, gets_sets _ h2 ha, fold_plain f hf hk]
    · intro w hw
      rcases List.mem_cons.1 hw with hw | hw
      · subst hw; exact h4
      · exact fun hc => ((hmem w hw).1 32 hc).2 rfl
  · intro hc
    rcases List.mem_append.1 hc with hc | hc
    · exact h3 hc
    · exact flatW_mem (fun w hw => (hmem w hw).1) hc
  · have := flatW_len (N := 64 + 2 * o.data.length) (fun w hw => (hmem w hw).2)
    have h8 : ws.length * (64 + 2 * o.data.length + 1) ≤ 3 * (64 + 2 * o.data.length + 1) := Nat.mul_le_mul_right _ (by omega)
    rw [List.length_append]
    omega

/-! ### texts -/
def flatN (ls : List Bs) : Bs := ls.flatMap (· ++ [10])

theorem text_ok : ∀ {ops : List Op} {ls : List Bs} (out : Bs), allL lineL ops = some ls → (out ++ flatN ls).length ≤ 65535 → textG ops out false = .ok (out ++ flatN ls)
  | [], ls, out, h, _ => by simp [allL] at h; subst h; simp [textG, flatN]
  | o :: r, ls, out, h, hl => by
    simp only [allL] at h
    cases ho : lineL o with
    | none => rw [ho] at h; cases h
    | some l =>
      rw [ho] at h
      simp only [Option.bind_some, Option.map_eq_some_iff] at h
      obtain ⟨m, h1, h2⟩ := h
      subst h2
      simp only [textG, ho]
      have e : out ++ flatN (l :: m) = (out ++ (l ++ [10])) ++ flatN m := by simp [flatN]
      rw [e] at hl ⊢
      rw [if_neg, text_ok _ h1 hl]
      simp only [List.length_append, List.length_cons, List.length_nil] at hl
      simp; omega

theorem text_bad : ∀ {ops : List Op} (out : Bs) (long : Bool), allL lineL ops = none → textG ops out long = .error 1
  | [], out, long, h => by simp [allL] at h
  | o :: r, out, long, h => by
    simp only [allL] at h
    cases ho : lineL o with
    | none => simp only [textG, ho]
    | some l =>
      rw [ho] at h
      simp only [Option.bind_some, Option.map_eq_none_iff] at h
      simp only [textG, ho]
      split <;> exact text_bad _ _ h

theorem text_longT : ∀ {ops : List Op} {ls : List Bs} (out : Bs), allL lineL ops = some ls → textG ops out true = .error 2
  | [], ls, out, h => rfl
  | o :: r, ls, out, h => by
    simp only [allL] at h
    cases ho : lineL o with
    | none => rw [ho] at h; cases h
    | some l =>
      rw [ho] at h
      simp only [Option.bind_some, Option.map_eq_some_iff] at h
      obtain ⟨m, h1, h2⟩ := h
      simp only [textG, ho]
      rw [if_pos (.inl trivial)]
      exact text_longT out h1

theorem text_long : ∀ {ops : List Op} {ls : List Bs} (out : Bs), allL lineL ops = some ls → out.length ≤ 65535 → 65535 < (out ++ flatN ls).length → textG ops out false = .error 2
  | [], ls, out, h, h0, hl => by simp [allL] at h; subst h; simp [flatN] at hl; omega
  | o :: r, ls, out, h, h0, hl => by
    simp only [allL] at h
    cases ho : lineL o with
    | none => rw [ho] at h; cases h
    | some l =>
      rw [ho] at h
      simp only [Option.bind_some, Option.map_eq_some_iff] at h
      obtain ⟨m, h1, h2⟩ := h
      subst h2
      simp only [textG, ho]
      split
      · exact text_longT out h1
      · next hc =>
        have hc' : ¬ 65535 ≤ l.length + out.length := fun e => hc (.inr e)
        have e : out ++ flatN (l :: m) = (out ++ (l ++ [10])) ++ flatN m := by simp [flatN]
        rw [e] at hl
        exact text_long _ h1 (by simp; omega) hl

theorem parse_flat : ∀ {ops : List Op} {ls : List Bs}, allL lineL ops = some ls → parseL (flatN ls) = some (ops.map plain)
  | [], ls, h => by simp [allL] at h; subst h; rfl
  | o :: r, ls, h => by
    simp only [allL] at h
    cases ho : lineL o with
    | none => rw [ho] at h; cases h
    | some l =>
      rw [ho] at h
      simp only [Option.bind_some, Option.map_eq_some_iff] at h
      obtain ⟨m, h1, h2⟩ := h
      subst h2
      obtain ⟨h3, h4, _⟩ := op_line ho
      have e : flatN (l :: m) = l ++ 10 :: flatN m := by simp [flatN]
      rw [e, parse_cut h4, h3, parse_flat h1]
      rfl

theorem parse_lines : ∀ {s : Bs} {ops : List Op}, s.length ≤ 65535 → parseL s = some ops → ∃ ls, allL lineL ops = some ls ∧ s = flatN ls := by
  intro s
  induction hn : s.length using Nat.strongRecOn generalizing s with
  | _ n ih =>
    intro ops hl h
    rcases cut_of (s := s) 10 with h1 | ⟨l, r, h1, h2⟩
    · by_cases hs : s = []
      · subst hs; rw [parse_nil] at h; cases h; exact ⟨[], rfl, rfl⟩
      · rw [parse_bad h1 hs] at h; cases h
    · subst h1
      rw [parse_cut h2] at h
      cases ho : opL l with
      | none => rw [ho] at h; cases h
      | some o =>
        rw [ho] at h
        simp only [Option.bind_some, Option.map_eq_some_iff] at h
        obtain ⟨z, h3, h4⟩ := h
        subst h4
        simp only [List.length_append, List.length_cons] at hn
        obtain ⟨ls, h5, h6⟩ := ih r.length (by omega) rfl (by omega) h3
        refine ⟨l :: ls, ?_, ?_⟩
        · simp [allL, line_op (by omega) ho, h5]
        · rw [h6]; simp [flatN]

/-- C: a text that is read is written the same -/
theorem text_parse {s : Bs} {ops : List Op} (hl : s.length ≤ 65535) (h : parseL s = some ops) : textL ops = .ok s := by
  obtain ⟨ls, h1, h2⟩ := parse_lines hl h
  unfold textL
  rw [text_ok [] h1 (by rw [← h2]; simpa using hl), ← h2]
  rfl

end Go.Sc

/- Script, the plain law: which ops have lines; the longest texts. -/
namespace Go.Sc
open Go.Lib

def inR (n : Int) : Prop := 0 ≤ n ∧ n ≤ 999999

/-- has an op of few bytes a line -/
def rightP (o : Op) : Prop :=
  1 ≤ o.kind ∧ o.kind ≤ 10 ∧ inR o.n ∧ inR o.node ∧ o.set.length ≤ 7 ∧ o.keep.length ≤ 64 ∧ ∀ x ∈ o.set, inR x

theorem digits_iff {n : Int} : (digitsL n).isSome = true ↔ inR n := by
  unfold digitsL inR
  split
  · next h => simp [h]
  · next h => simp; omega

theorem all_some {α β : Type} {f : α → Option β} : ∀ {l : List α}, (allL f l).isSome = true ↔ ∀ x ∈ l, (f x).isSome = true
  | [] => by simp [allL]
  | x :: r => by
    have ih := all_some (f := f) (l := r)
    simp only [allL]
    cases hx : f x with
    | none => simp [hx]
    | some y => simp [hx, ih]

theorem unpow_iff {l : List Int} : (unpowL l).isSome = true ↔ l.length ≤ 7 ∧ ∀ x ∈ l, inR x := by
  unfold unpowL
  split
  · next h => subst h; simp
  · split
    · next h => simp; omega
    · next h =>
      rw [Option.isSome_map, all_some]
      simp only [digits_iff]
      exact ⟨fun g => ⟨by omega, g⟩, fun g => g.2⟩

theorem gets_some {o : Op} : ∀ {ps : Bs} {a : Bs}, (getsL o ps a).isSome = true ↔ ∀ p ∈ ps, (getL o p).isSome = true
  | [], a => by simp [getsL]
  | p :: ps, a => by
    simp only [getsL]
    cases hg : getL o p with
    | none => simp [hg]
    | some s => simp [hg, gets_some (ps := ps)]

theorem get_b_iff {o : Op} : (getL o 98).isSome = true ↔ o.keep.length ≤ 64 := by
  rw [get_b]; split <;> simp [*]
theorem get_h_iff {o : Op} (h : o.data.length ≤ 65535) : (getL o 104).isSome = true := by
  rw [get_h, if_pos h]; rfl

theorem inR0 : inR 0 := by unfold inR; omega

/-- which ops have lines -/
theorem line_some {o : Op} (hd : o.data.length ≤ 65535) : (lineL o).isSome = true ↔ rightP (plain o) := by
  by_cases hk : 1 ≤ o.kind ∧ o.kind ≤ 10
  · obtain ⟨f, hf, hfk⟩ : ∃ f ∈ forms, f.1 = o.kind := by
      have h1 : o.kind = 1 ∨ o.kind = 2 ∨ o.kind = 3 ∨ o.kind = 4 ∨ o.kind = 5 ∨ o.kind = 6 ∨ o.kind = 7 ∨ o.kind = 8 ∨ o.kind = 9 ∨ o.kind = 10 := by omega
      rcases h1 with h | h | h | h | h | h | h | h | h | h <;> rw [h] <;> simp [forms]
    unfold lineL
    rw [lineF_of f hf hfk, gets_some]
    simp only [forms, List.mem_cons, List.not_mem_nil, or_false] at hf
    rcases hf with h | h | h | h | h | h | h | h | h | h <;> subst h <;> simp only at hfk <;>
      simp only [List.mem_cons, List.not_mem_nil, or_false, forall_eq_or_imp, forall_eq, get_n, get_i, get_p, get_b_iff, get_h_iff hd, digits_iff, unpow_iff] <;>
      simp [plain, ← hfk, rightP, zop, inR0]
    all_goals (try (intros; omega))
    all_goals (constructor <;> intro h <;> simp_all)
  · have h1 : lineL o = none := by
      cases hl : lineL o with
      | none => rfl
      | some l =>
        obtain ⟨f, hf, hfk, _⟩ := lineF_mem hl
        simp only [forms, List.mem_cons, List.not_mem_nil, or_false] at hf
        rcases hf with h | h | h | h | h | h | h | h | h | h <;> subst h <;> simp only at hfk <;> omega
    rw [h1]
    have h2 : (plain o).kind = o.kind := by unfold plain; (repeat' split) <;> rfl
    constructor
    · intro h; cases h
    · intro h; unfold rightP at h; rw [h2] at h; exact absurd ⟨h.1, h.2.1⟩ hk

theorem plain_kind (o : Op) : (plain o).kind = o.kind := by unfold plain; (repeat' split) <;> rfl

/-! ### the longest texts -/
def tickB : Bs := [116, 105, 99, 107, 32, 48]
theorem line_tick : lineL (zop 4) = some tickB := by
  have : itoa 0 = [48] := by rw [itoa_pos (by omega), decDigits_small (by decide)]; rfl
  simp [lineL, lineF, forms, zop, getsL, getL, digitsL, this, tickB]

/-- so many ones -/
def ones : Nat → Int
  | 0 => 0
  | k + 1 => 10 * ones k + 1

theorem ones_len : ∀ k, 1 ≤ k → k ≤ 6 → ∃ s, digitsL (ones k) = some s ∧ s.length = k := by
  intro k h1 h2
  have h : k = 1 ∨ k = 2 ∨ k = 3 ∨ k = 4 ∨ k = 5 ∨ k = 6 := by omega
  rcases h with h | h | h | h | h | h <;> subst h <;> refine ⟨_, by rw [digitsL, if_pos (by simp [ones])], ?_⟩ <;> rw [itoa_pos (by simp [ones]), decDigits_length] <;> simp only [ones] <;> (repeat (first | rw [nDigits_small (by decide)] | rw [nDigits_big (by decide)])) 

def dropO (k : Nat) : Op := { zop 2 with n := ones k }

theorem line_drop (k : Nat) (h1 : 1 ≤ k) (h2 : k ≤ 6) : ∃ s, lineL (dropO k) = some s ∧ s.length = 5 + k := by
  obtain ⟨s, h3, h4⟩ := ones_len k h1 h2
  refine ⟨[100, 114, 111, 112] ++ 32 :: s, ?_, by simp; omega⟩
  simp [lineL, lineF, forms, dropO, zop, getsL, getL, h3]

theorem all_rep {α β : Type} {f : α → Option β} {x : α} {y : β} (h : f x = some y) : ∀ n, allL f (List.replicate n x) = some (List.replicate n y)
  | 0 => rfl
  | n + 1 => by simp [List.replicate_succ, allL, h, all_rep h n]

theorem all_app {α β : Type} {f : α → Option β} : ∀ {l m : List α} {a b : List β}, allL f l = some a → allL f m = some b → allL f (l ++ m) = some (a ++ b)
  | [], m, a, b, h, g => by simp [allL] at h; subst h; simpa using g
  | x :: r, m, a, b, h, g => by
    simp only [allL, Option.bind_eq_some_iff, Option.map_eq_some_iff] at h
    obtain ⟨y, h1, z, h2, h3⟩ := h
    subst h3
    simp [allL, h1, all_app h2 g]

theorem flatN_len : ∀ ls : List Bs, (flatN ls).length = (ls.map fun l => l.length + 1).sum
  | [] => rfl
  | l :: r => by
    have := flatN_len r
    unfold flatN at this ⊢
    rw [List.flatMap_cons, List.length_append, this]
    simp

/-- ticks, and a last line that fills up -/
theorem long_law (k r : Nat) (h1 : 1 ≤ r) (h2 : r ≤ 6) :
    ∃ ls, allL lineL (List.replicate k (zop 4) ++ [dropO r]) = some ls ∧ (flatN ls).length = 7 * k + 6 + r := by
  obtain ⟨s, h3, h4⟩ := line_drop r h1 h2
  refine ⟨_, all_app (all_rep line_tick k) (show allL lineL [dropO r] = some [s] by simp [allL, h3]), ?_⟩
  rw [flatN_len]
  have hr : ∀ n : Nat, (List.replicate n 7).sum = 7 * n := by
    intro n
    induction n with
    | zero => rfl
    | succ n ih => rw [List.replicate_succ, List.sum_cons, ih]; omega
  rw [List.map_append, List.sum_append, List.map_replicate]
  have : tickB.length + 1 = 7 := rfl
  rw [this, hr]
  simp [h4]
  omega

end Go.Sc

/- Script, the plain law: pieces by an index. -/
namespace Go.Sc
open Go.Lib
theorem idx_cut : ∀ (l : Bs) (c : UInt8), (indexByte l c = -1 ∧ c ∉ l) ∨ (0 ≤ indexByte l c ∧ (indexByte l c).toNat < l.length ∧ c ∉ l.take (indexByte l c).toNat ∧ l = l.take (indexByte l c).toNat ++ c :: l.drop ((indexByte l c).toNat + 1))
  | [], c => .inl ⟨rfl, by simp⟩
  | b :: l, c => by
    unfold indexByte
    split
    · next h => right; simp at h; subst h; simp
    · next hb =>
      have hb' : ¬ b = c := by simpa using hb
      rcases idx_cut l c with ⟨h1, h2⟩ | ⟨h1, h2, h3, h4⟩
      · left
        rw [h1]
        exact ⟨by decide, by simp [h2]; exact fun e => hb' e.symm⟩
      · right
        have h5 : ¬ (indexByte l c == -1) = true := by simp; omega
        rw [if_neg h5, show (indexByte l c + 1).toNat = (indexByte l c).toNat + 1 by omega]
        refine ⟨by omega, by simp; omega, ?_, ?_⟩
        · simp only [List.take_succ_cons, List.mem_cons, not_or]
          exact ⟨fun e => hb' e.symm, h3⟩
        · simp only [List.take_succ_cons, List.drop_succ_cons, List.cons_append]
          rw [← h4]
theorem spl_idx_none {l : Bs} {c : UInt8} (h : indexByte l c < 0) : spl c l = [l] := by
  rcases idx_cut l c with ⟨_, h2⟩ | ⟨h1, _⟩
  · exact spl_none h2
  · omega
theorem spl_idx {l : Bs} {c : UInt8} (h : 0 ≤ indexByte l c) : spl c l = l.take (indexByte l c).toNat :: spl c (l.drop ((indexByte l c).toNat + 1)) := by
  rcases idx_cut l c with ⟨h1, _⟩ | ⟨h1, h2, h3, h4⟩
  · omega
  · conv => lhs; rw [h4]
    exact spl_cut _ h3
theorem hasSuf1 (l : Bs) : hasSuffix (l ++ [10]) [10] = true := by
  unfold hasSuffix
  rw [List.isSuffixOf_iff_suffix]
  exact ⟨l, rfl⟩
theorem trimSuf1 (l : Bs) : trimSuffix (l ++ [10]) [10] = l := by
  unfold trimSuffix
  rw [if_pos (hasSuf1 l)]
  simp
theorem hasSuf0 {l : Bs} (h : 10 ∉ l) : hasSuffix l [10] = false := by
  cases hb : hasSuffix l [10] with
  | false => rfl
  | true =>
    unfold hasSuffix at hb
    rw [List.isSuffixOf_iff_suffix] at hb
    exact absurd (hb.subset (by simp)) h
end Go.Sc
