/- Contracts of functions of a page: forms and weights of entries. -/
import Derived.Test.YtfddiediieblhaaTa
set_option linter.unusedVariables false
set_option linter.unusedSimpArgs false
namespace Go.Proofs
open Go Go.Abs

structure Dg where
  (b0 b1 b2 b3 b4 b5 b6 b7 b8 b9 b10 b11 b12 b13 b14 b15 : UInt8)
  deriving DecidableEq
structure Entry where
  key : Str
  val : Str
  over : Int
  len : Int
  child : Int
  count : Int
  sum : Dg
  deriving DecidableEq

def Dg.cells (d : Dg) : List AV := [u8 d.b0, u8 d.b1, u8 d.b2, u8 d.b3, u8 d.b4, u8 d.b5, u8 d.b6, u8 d.b7, u8 d.b8, u8 d.b9, u8 d.b10, u8 d.b11, u8 d.b12, u8 d.b13, u8 d.b14, u8 d.b15]
def Entry.cells (e : Entry) : List AV := .str e.key :: .str e.val :: i64 e.over :: i64 e.len :: i64 e.child :: i64 e.count :: e.sum.cells
def Entry.av (e : Entry) : AV := .agg e.cells
def Dg.zero : Dg := ⟨0, 0, 0, 0, 0, 0, 0, 0, 0, 0, 0, 0, 0, 0, 0, 0⟩


def within (x lo hi : Int) : Bool := decide (lo ≤ x) && decide (x ≤ hi)
def numbered (n : Int) : Bool := within n 2 4095

section
variable {n : Nat} {h : AHeap}

theorem within_eq (hn : 1 ≤ n) (x lo hi : Int) : C n 38 [i64 x, i64 lo, i64 hi] h = some (.ret (.bool (within x lo hi)), h) := by
  obtain ⟨m, rfl⟩ : ∃ m, n = m + 1 := ⟨n - 1, by omega⟩
  refine fun_pure F38 rfl rfl rfl rfl ?_
  refine br (fun a => ?_) (fun a => ?_)
  · exact ⟨rfl, _, rfl, frz_bool (by simp [within, a])⟩
  · exact ⟨rfl, _, rfl, frz_bool (by simp [within, a])⟩

theorem numbered_eq (hn : 2 ≤ n) (x : Int) : C n 51 [i64 x] h = some (.ret (.bool (numbered x)), h) := by
  obtain ⟨m, rfl⟩ : ∃ m, n = m + 1 := ⟨n - 1, by omega⟩
  refine fun_pure F51 rfl rfl rfl rfl ?_
  refine clI (within_eq (by omega) _ _ _) ?_
  exact ⟨rfl, _, rfl, frz_bool rfl⟩

theorem isNaN_eq (hn : 1 ≤ n) (x : Str) : C n 75 [.str x] h = some (.ret (.bool false), h) := by
  obtain ⟨m, rfl⟩ : ∃ m, n = m + 1 := ⟨n - 1, by omega⟩
  refine fun_pure F75 rfl rfl rfl rfl ?_
  exact ⟨rfl, _, rfl, frz_bool (by simp)⟩

def cmpS (x y : Str) : Int := if Op.bytesLess x y then -1 else if Op.bytesLess y x then 1 else 0

theorem less_irrefl : ∀ (x : Str), Op.bytesLess x x = false
  | [] => rfl
  | a :: x => by simp [Op.bytesLess, less_irrefl x]
theorem less_asymm : ∀ (x y : Str), Op.bytesLess x y = true → Op.bytesLess y x = false
  | [], [], h => by simp [Op.bytesLess] at h
  | [], b :: y, _ => by simp [Op.bytesLess]
  | a :: x, [], h => by simp [Op.bytesLess] at h
  | a :: x, b :: y, h => by
    simp [Op.bytesLess] at h ⊢
    rcases h with h | ⟨h1, h2⟩
    · exact ⟨UInt8.le_of_lt h, fun e => by subst e; simp at h⟩
    · subst h1; exact ⟨UInt8.le_refl _, fun _ => less_asymm x y h2⟩
theorem less_total : ∀ (x y : Str), Op.bytesLess x y = false → Op.bytesLess y x = false → x = y
  | [], [], _, _ => rfl
  | [], b :: y, h, _ => by simp [Op.bytesLess] at h
  | a :: x, [], _, h => by simp [Op.bytesLess] at h
  | a :: x, b :: y, h1, h2 => by
    simp [Op.bytesLess] at h1 h2
    have e : a = b := UInt8.le_antisymm h2.1 h1.1
    subst e
    rw [less_total x y (h1.2 rfl) (h2.2 rfl)]
theorem bytesLess_tri (x y : Str) : (Op.bytesLess x y || x == y) = !Op.bytesLess y x := by
  cases h : Op.bytesLess x y with
  | true => simp [less_asymm x y h]
  | false =>
    cases h2 : Op.bytesLess y x with
    | true =>
      simp
      intro e; subst e; rw [less_irrefl] at h2; cases h2
    | false => simp [less_total x y h h2]

theorem cmpCompare_eq (hn : 2 ≤ n) (x y : Str) : C n 65 [.str x, .str y] h = some (.ret (i64 (cmpS x y)), h) := by
  obtain ⟨m, rfl⟩ : ∃ m, n = m + 1 := ⟨n - 1, by omega⟩
  refine fun_pure F65 rfl rfl rfl rfl ?_
  refine clI (isNaN_eq (by omega) _) ?_
  refine clI (isNaN_eq (by omega) _) ?_
  refine br (fun a => ?_) (fun a => ?_)
  · exact ⟨rfl, _, rfl, frz_int (by simp [cmpS, a])⟩
  · refine br (fun b => ?_) (fun b => ?_)
    · rw [bytesLess_tri] at b
      exact ⟨rfl, _, rfl, frz_int (by simp at b; simp [cmpS, a, b])⟩
    · rw [bytesLess_tri] at b
      exact ⟨rfl, _, rfl, frz_int (by simp at b; simp [cmpS, a, b])⟩

theorem compare_eq (hn : 3 ≤ n) (x y : Str) : C n 42 [.str x, .str y] h = some (.ret (i64 (cmpS x y)), h) := by
  obtain ⟨m, rfl⟩ : ∃ m, n = m + 1 := ⟨n - 1, by omega⟩
  refine fun_pure F42 rfl rfl rfl rfl ?_
  refine clI (cmpCompare_eq (by omega) _ _) ?_
  exact ⟨rfl, _, rfl, frz_int rfl⟩

def branches (e : Entry) : Bool := decide (e.key.length ≤ 48) && e.val == [] && e.over == 0 && e.len == 0 && numbered e.child && within e.count 1 2147483647

theorem branches_eq (hn : 3 ≤ n) (e : Entry) : C n 41 [e.av] h = some (.ret (.bool (branches e)), h) := by
  obtain ⟨m, rfl⟩ : ∃ m, n = m + 1 := ⟨n - 1, by omega⟩
  refine fun_pure F41 rfl rfl rfl rfl ?_
  repeat' (conv => whnf); first
    | refine br (fun _ => ?_) (fun _ => ?_)
    | refine ldI rfl ?_
    | refine clI (numbered_eq (by omega) _) ?_
    | refine clI (within_eq (by omega) _ _ _) ?_
    | refine retP rfl (frz_bool ?_)
  all_goals simp_all [branches]
  all_goals omega

def isShort (e : Entry) : Bool := e.over == 0 && e.len == 0 && e.child == 0 && e.count == 0 && e.sum == Dg.zero && decide (e.val.length ≤ 64)
def isLong (e : Entry) : Bool := e.child == 0 && e.count == 0 && numbered e.over && within e.len 65 4000
def isNest (e : Entry) : Bool := e.over == 0 && e.len == 0 && numbered e.child && within e.count 1 2147483647
def formOf (e : Entry) : Int := if within e.key.length 1 48 = false then 0 else if isShort e then 1 else if e.val ≠ [] then 0 else if isLong e then 2 else if isNest e then 3 else 0

def Dg.list (d : Dg) : List UInt8 := [d.b0, d.b1, d.b2, d.b3, d.b4, d.b5, d.b6, d.b7, d.b8, d.b9, d.b10, d.b11, d.b12, d.b13, d.b14, d.b15]
theorem Dg.list_inj {a b : Dg} : a.list = b.list ↔ a = b := by
  constructor
  · intro h
    obtain ⟨a0, a1, a2, a3, a4, a5, a6, a7, a8, a9, a10, a11, a12, a13, a14, a15⟩ := a
    obtain ⟨c0, c1, c2, c3, c4, c5, c6, c7, c8, c9, c10, c11, c12, c13, c14, c15⟩ := b
    simpa [Dg.list] using h
  · intro h; rw [h]
theorem eq_u8 (x y : UInt8) : ((((x.toNat : Nat) : Int) == y.toNat) : Bool) = decide (x = y) := by
  by_cases h : x = y
  · subst h; simp
  · simp [h]; intro h'; exact h (UInt8.toNat_inj.1 (by omega))
theorem allEq_u8 {f : Nat → AV → AV → Option Bool} {t : Nat} (hf : ∀ x y, f t (u8 x) (u8 y) = some (decide (x = y))) : ∀ (xs ys : List UInt8), xs.length = ys.length → allEq f (zipE t (xs.map u8) (ys.map u8)) = some (decide (xs = ys))
  | [], [], _ => rfl
  | [], y :: ys, h => by simp at h
  | x :: xs, [], h => by simp at h
  | x :: xs, y :: ys, h => by
    have ih := allEq_u8 hf xs ys (by simpa using h)
    show (match f t (u8 x) (u8 y) with | some true => allEq f (zipE t (xs.map u8) (ys.map u8)) | some false => some false | none => none) = _
    rw [hf, ih]
    by_cases h : x = y <;> simp [h]
theorem eq_dg (a b : Dg) : eqA Try.prog 20 49 (.agg a.cells) (.agg b.cells) = some (decide (a = b)) := by
  have e1 : eqA Try.prog 20 49 (.agg a.cells) (.agg b.cells) = allEq (eqA Try.prog 19) (zipE 5 (a.list.map u8) (b.list.map u8)) := by kernel_rfl
  have e2 : ∀ (x y : UInt8), eqA Try.prog 19 5 (.int .u8 x.toNat) (.int .u8 y.toNat) = some (((x.toNat : Nat) : Int) == y.toNat) := fun x y => by kernel_rfl
  rw [e1, allEq_u8 (fun x y => by rw [e2, eq_u8]) a.list b.list rfl]
  simp only [Dg.list_inj]

theorem formOf_eq (hn : 3 ≤ n) (e : Entry) : C n 40 [e.av] h = some (.ret (i64 (formOf e)), h) := by
  obtain ⟨m, rfl⟩ : ∃ m, n = m + 1 := ⟨n - 1, by omega⟩
  refine fun_pure F40 rfl rfl rfl rfl ?_
  repeat' (conv => whnf); first
    | refine br (fun _ => ?_) (fun _ => ?_)
    | refine ldI rfl ?_
    | refine clI (numbered_eq (by omega) _) ?_
    | refine clI (within_eq (by omega) _ _ _) ?_
    | refine eqI (eq_dg e.sum Dg.zero) ?_
    | refine retP rfl (frz_int ?_)
  all_goals simp_all [formOf, isShort, isLong, isNest]
  all_goals omega


def weighW (e : Entry) (lv : Int) : Int := if 0 < lv then e.key.length + 27 else if formOf e = 1 then e.key.length + e.val.length + 5 else if formOf e = 2 then e.key.length + 27 else if formOf e = 3 then e.key.length + 29 else 0
def weighB (e : Entry) (lv : Int) : Bool := if 0 < lv then branches e else formOf e == 1 || formOf e == 2 || formOf e == 3
/-- Strings are short enough for a machine. -/
def Entry.Ok (e : Entry) : Prop := e.key.length < 1099511627776 ∧ e.val.length < 1099511627776

theorem weigh_eq (hn : 4 ≤ n) (e : Entry) (he : e.Ok) (lv : Int) : C n 39 [e.av, i64 lv] h = some (.ret (.tup [i64 (weighW e lv), .bool (weighB e lv)]), h) := by
  obtain ⟨m, rfl⟩ : ∃ m, n = m + 1 := ⟨n - 1, by omega⟩
  obtain ⟨h1, h2⟩ := he
  refine fun_pure F39 rfl rfl rfl rfl ?_
  repeat' (conv => whnf); first
    | refine br (fun _ => ?_) (fun _ => ?_)
    | refine ldI rfl ?_
    | refine clI (branches_eq (by omega) e) ?_
    | refine clI (formOf_eq (by omega) e) ?_
    | refine zI (wrap_i64 (by omega) (by omega)) ?_
    | refine retP rfl (frz_ib ?_ ?_)
  all_goals simp_all [weighW, weighB]
  all_goals (intros; omega)

def wsum (lv : Int) : List Entry → Option Int
  | [] => some 0
  | e :: r => if weighB e lv then (wsum lv r).map (weighW e lv + ·) else none
def weight (l : List Entry) (lv : Int) : Option Int := if within lv 0 20 then (wsum lv l).map (6 + ·) else none
def weightR (l : List Entry) (lv : Int) : AV := match weight l lv with
  | some n => .tup [i64 n, i64 0]
  | none => .tup [i64 0, i64 2]

theorem wsum_append (lv : Int) : ∀ (a b : List Entry), wsum lv (a ++ b) = match wsum lv a, wsum lv b with | some x, some y => some (x + y) | _, _ => none
  | [], b => by cases h : wsum lv b <;> simp [wsum, h]
  | e :: a, b => by
    simp only [List.cons_append, wsum, wsum_append lv a b]
    by_cases hw : weighB e lv
    · simp only [hw, if_true]
      cases wsum lv a <;> cases wsum lv b <;> simp
      omega
    · simp [hw]

theorem within_iff {x lo hi : Int} : within x lo hi = true ↔ lo ≤ x ∧ x ≤ hi := by simp [within]
theorem form_key {e : Entry} (hf : formOf e ≠ 0) : 1 ≤ e.key.length ∧ e.key.length ≤ 48 := by
  by_cases h : within e.key.length 1 48
  · rw [within_iff] at h; omega
  · simp [formOf, h] at hf
theorem form_short {e : Entry} (hf : formOf e = 1) : e.val.length ≤ 64 := by
  by_cases hs : isShort e
  · simp [isShort] at hs; exact hs.2
  · simp only [formOf, hs] at hf
    split at hf
    · simp at hf
    · simp at hf
      repeat' (first | split at hf)
      all_goals simp at hf
theorem weigh_bound {e : Entry} {lv : Int} (hb : weighB e lv = true) : 5 ≤ weighW e lv ∧ weighW e lv ≤ 117 := by
  unfold weighB at hb
  unfold weighW
  split
  · rename_i hl
    rw [if_pos hl] at hb
    simp [branches] at hb
    omega
  · rename_i hl
    rw [if_neg hl] at hb
    have hk := @form_key e (by intro e0; simp [e0] at hb)
    split
    · rename_i h1; have := form_short h1; omega
    · split
      · omega
      · split
        · omega
        · exfalso; simp_all
theorem wsum_take {lv : Int} {l : List Entry} {j : Nat} (hj : j < l.length) {s : Int} (hs : wsum lv (l.take j) = some s) : wsum lv (l.take (j + 1)) = if weighB l[j] lv then some (s + weighW l[j] lv) else none := by
  rw [List.take_succ_eq_append_getElem hj, wsum_append, hs]
  by_cases hw : weighB l[j] lv <;> simp [wsum, hw]
theorem wsum_none {lv : Int} {l : List Entry} {j : Nat} (hs : wsum lv (l.take j) = none) : wsum lv l = none := by
  have := wsum_append lv (l.take j) (l.drop j)
  rw [List.take_append_drop, hs] at this
  exact this

theorem entry_cells (e : Entry) : e.av.cells? = some e.cells := rfl

theorem pure_map {α : Type} {f : α → AV} (hf : ∀ a, (f a).pureB = true) : ∀ (l : List α), pureBs (l.map f) = true
  | [] => rfl
  | a :: r => by simp [pureBs, hf a, pure_map hf r]
theorem pure_lst {α : Type} {f : α → AV} (hf : ∀ a, (f a).pureB = true) (l : List α) {sz : Nat} {c : Bool} {r : List AV} (hr : pureBs r = true) : pureBs (.lst sz (l.map f) c :: r) = true := by
  simp [pureBs, AV.pureB, pure_map hf l, hr]
theorem entry_pure (e : Entry) : e.av.pureB = true := rfl

end
end Go.Proofs
