/- Texts put together: Tb, Wb, Wc, Wd0, Wd, Rb, Rc, We, Rd, Rh0, Re, Rf. -/
import Derived.Test.YtfddiediieblhaaSea7
/- Contracts of functions of a page: forms and weights of entries. -/
set_option linter.unusedVariables false
set_option linter.unusedSimpArgs false
namespace Go.Proofs
open Go Go.Abs

structure Dg where
  (b0 b1 b2 b3 b4 b5 b6 b7 b8 b9 b10 b11 b12 b13 b14 b15 : UInt8)
  deriving DecidableEq
structure Entry where
  key : Str
  val : Str
  over : Int
  len : Int
  child : Int
  count : Int
  sum : Dg
  deriving DecidableEq

def Dg.cells (d : Dg) : List AV := [u8 d.b0, u8 d.b1, u8 d.b2, u8 d.b3, u8 d.b4, u8 d.b5, u8 d.b6, u8 d.b7, u8 d.b8, u8 d.b9, u8 d.b10, u8 d.b11, u8 d.b12, u8 d.b13, u8 d.b14, u8 d.b15]
def Entry.cells (e : Entry) : List AV := .str e.key :: .str e.val :: i64 e.over :: i64 e.len :: i64 e.child :: i64 e.count :: e.sum.cells
def Entry.av (e : Entry) : AV := .agg e.cells
def Dg.zero : Dg := ⟨0, 0, 0, 0, 0, 0, 0, 0, 0, 0, 0, 0, 0, 0, 0, 0⟩


def within (x lo hi : Int) : Bool := decide (lo ≤ x) && decide (x ≤ hi)
def numbered (n : Int) : Bool := within n 2 4095

section
variable {n : Nat} {h : AHeap}

theorem within_eq (hn : 1 ≤ n) (x lo hi : Int) : C n 38 [i64 x, i64 lo, i64 hi] h = some (.ret (.bool (within x lo hi)), h) := by
  obtain ⟨m, rfl⟩ : ∃ m, n = m + 1 := ⟨n - 1, by omega⟩
  refine fun_pure F38 rfl rfl rfl rfl ?_
  refine br (fun a => ?_) (fun a => ?_)
  · exact ⟨rfl, _, rfl, frz_bool (by simp [within, a])⟩
  · exact ⟨rfl, _, rfl, frz_bool (by simp [within, a])⟩

theorem numbered_eq (hn : 2 ≤ n) (x : Int) : C n 51 [i64 x] h = some (.ret (.bool (numbered x)), h) := by
  obtain ⟨m, rfl⟩ : ∃ m, n = m + 1 := ⟨n - 1, by omega⟩
  refine fun_pure F51 rfl rfl rfl rfl ?_
  refine clI (within_eq (by omega) _ _ _) ?_
  exact ⟨rfl, _, rfl, frz_bool rfl⟩

theorem isNaN_eq (hn : 1 ≤ n) (x : Str) : C n 75 [.str x] h = some (.ret (.bool false), h) := by
  obtain ⟨m, rfl⟩ : ∃ m, n = m + 1 := ⟨n - 1, by omega⟩
  refine fun_pure F75 rfl rfl rfl rfl ?_
  exact ⟨rfl, _, rfl, frz_bool (by simp)⟩

def cmpS (x y : Str) : Int := if Op.bytesLess x y then -1 else if Op.bytesLess y x then 1 else 0

theorem less_irrefl : ∀ (x : Str), Op.bytesLess x x = false
  | [] => rfl
  | a :: x => by simp [Op.bytesLess, less_irrefl x]
theorem less_asymm : ∀ (x y : Str), Op.bytesLess x y = true → Op.bytesLess y x = false
  | [], [], h => by simp [Op.bytesLess] at h
  | [], b :: y, _ => by simp [Op.bytesLess]
  | a :: x, [], h => by simp [Op.bytesLess] at h
  | a :: x, b :: y, h => by
    simp [Op.bytesLess] at h ⊢
    rcases h with h | ⟨h1, h2⟩
    · exact ⟨UInt8.le_of_lt h, fun e => by subst e; simp at h⟩
    · subst h1; exact ⟨UInt8.le_refl _, fun _ => less_asymm x y h2⟩
theorem less_total : ∀ (x y : Str), Op.bytesLess x y = false → Op.bytesLess y x = false → x = y
  | [], [], _, _ => rfl
  | [], b :: y, h, _ => by simp [Op.bytesLess] at h
  | a :: x, [], _, h => by simp [Op.bytesLess] at h
  | a :: x, b :: y, h1, h2 => by
    simp [Op.bytesLess] at h1 h2
    have e : a = b := UInt8.le_antisymm h2.1 h1.1
    subst e
    rw [less_total x y (h1.2 rfl) (h2.2 rfl)]
theorem bytesLess_tri (x y : Str) : (Op.bytesLess x y || x == y) = !Op.bytesLess y x := by
  cases h : Op.bytesLess x y with
  | true => simp [less_asymm x y h]
  | false =>
    cases h2 : Op.bytesLess y x with
    | true =>
      simp
      intro e; subst e; rw [less_irrefl] at h2; cases h2
    | false => simp [less_total x y h h2]

theorem cmpCompare_eq (hn : 2 ≤ n) (x y : Str) : C n 65 [.str x, .str y] h = some (.ret (i64 (cmpS x y)), h) := by
  obtain ⟨m, rfl⟩ : ∃ m, n = m + 1 := ⟨n - 1, by omega⟩
  refine fun_pure F65 rfl rfl rfl rfl ?_
  refine clI (isNaN_eq (by omega) _) ?_
  refine clI (isNaN_eq (by omega) _) ?_
  refine br (fun a => ?_) (fun a => ?_)
  · exact ⟨rfl, _, rfl, frz_int (by simp [cmpS, a])⟩
  · refine br (fun b => ?_) (fun b => ?_)
    · rw [bytesLess_tri] at b
      exact ⟨rfl, _, rfl, frz_int (by simp at b; simp [cmpS, a, b])⟩
    · rw [bytesLess_tri] at b
      exact ⟨rfl, _, rfl, frz_int (by simp at b; simp [cmpS, a, b])⟩

theorem compare_eq (hn : 3 ≤ n) (x y : Str) : C n 42 [.str x, .str y] h = some (.ret (i64 (cmpS x y)), h) := by
  obtain ⟨m, rfl⟩ : ∃ m, n = m + 1 := ⟨n - 1, by omega⟩
  refine fun_pure F42 rfl rfl rfl rfl ?_
  refine clI (cmpCompare_eq (by omega) _ _) ?_
  exact ⟨rfl, _, rfl, frz_int rfl⟩

def branches (e : Entry) : Bool := decide (e.key.length ≤ 48) && e.val == [] && e.over == 0 && e.len == 0 && numbered e.child && within e.count 1 2147483647

theorem branches_eq (hn : 3 ≤ n) (e : Entry) : C n 41 [e.av] h = some (.ret (.bool (branches e)), h) := by
  obtain ⟨m, rfl⟩ : ∃ m, n = m + 1 := ⟨n - 1, by omega⟩
  refine fun_pure F41 rfl rfl rfl rfl ?_
  repeat' (conv => whnf); first
    | refine br (fun _ => ?_) (fun _ => ?_)
    | refine ldI rfl ?_
    | refine clI (numbered_eq (by omega) _) ?_
    | refine clI (within_eq (by omega) _ _ _) ?_
    | refine retP rfl (frz_bool ?_)
  all_goals simp_all [branches]
  all_goals omega

def isShort (e : Entry) : Bool := e.over == 0 && e.len == 0 && e.child == 0 && e.count == 0 && e.sum == Dg.zero && decide (e.val.length ≤ 64)
def isLong (e : Entry) : Bool := e.child == 0 && e.count == 0 && numbered e.over && within e.len 65 4000
def isNest (e : Entry) : Bool := e.over == 0 && e.len == 0 && numbered e.child && within e.count 1 2147483647
def formOf (e : Entry) : Int := if within e.key.length 1 48 = false then 0 else if isShort e then 1 else if e.val ≠ [] then 0 else if isLong e then 2 else if isNest e then 3 else 0

def Dg.list (d : Dg) : List UInt8 := [d.b0, d.b1, d.b2, d.b3, d.b4, d.b5, d.b6, d.b7, d.b8, d.b9, d.b10, d.b11, d.b12, d.b13, d.b14, d.b15]
theorem Dg.list_inj {a b : Dg} : a.list = b.list ↔ a = b := by
  constructor
  · intro h
    obtain ⟨a0, a1, a2, a3, a4, a5, a6, a7, a8, a9, a10, a11, a12, a13, a14, a15⟩ := a
    obtain ⟨c0, c1, c2, c3, c4, c5, c6, c7, c8, c9, c10, c11, c12, c13, c14, c15⟩ := b
    simpa [Dg.list] using h
  · intro h; rw [h]
theorem eq_u8 (x y : UInt8) : ((((x.toNat : Nat) : Int) == y.toNat) : Bool) = decide (x = y) := by
  by_cases h : x = y
  · subst h; simp
  · simp [h]; intro h'; exact h (UInt8.toNat_inj.1 (by omega))
theorem allEq_u8 {f : Nat → AV → AV → Option Bool} {t : Nat} (hf : ∀ x y, f t (u8 x) (u8 y) = some (decide (x = y))) : ∀ (xs ys : List UInt8), xs.length = ys.length → allEq f (zipE t (xs.map u8) (ys.map u8)) = some (decide (xs = ys))
  | [], [], _ => rfl
  | [], y :: ys, h => by simp at h
  | x :: xs, [], h => by simp at h
  | x :: xs, y :: ys, h => by
    have ih := allEq_u8 hf xs ys (by simpa using h)
    show (match f t (u8 x) (u8 y) with | some true => allEq f (zipE t (xs.map u8) (ys.map u8)) | some false => some false | none => none) = _
    rw [hf, ih]
    by_cases h : x = y <;> simp [h]
theorem eq_dg (a b : Dg) : eqA Try.prog 20 49 (.agg a.cells) (.agg b.cells) = some (decide (a = b)) := by
  have e1 : eqA Try.prog 20 49 (.agg a.cells) (.agg b.cells) = allEq (eqA Try.prog 19) (zipE 5 (a.list.map u8) (b.list.map u8)) := by kernel_rfl
  have e2 : ∀ (x y : UInt8), eqA Try.prog 19 5 (.int .u8 x.toNat) (.int .u8 y.toNat) = some (((x.toNat : Nat) : Int) == y.toNat) := fun x y => by kernel_rfl
  rw [e1, allEq_u8 (fun x y => by rw [e2, eq_u8]) a.list b.list rfl]
  simp only [Dg.list_inj]

theorem formOf_eq (hn : 3 ≤ n) (e : Entry) : C n 40 [e.av] h = some (.ret (i64 (formOf e)), h) := by
  obtain ⟨m, rfl⟩ : ∃ m, n = m + 1 := ⟨n - 1, by omega⟩
  refine fun_pure F40 rfl rfl rfl rfl ?_
  repeat' (conv => whnf); first
    | refine br (fun _ => ?_) (fun _ => ?_)
    | refine ldI rfl ?_
    | refine clI (numbered_eq (by omega) _) ?_
    | refine clI (within_eq (by omega) _ _ _) ?_
    | refine eqI (eq_dg e.sum Dg.zero) ?_
    | refine retP rfl (frz_int ?_)
  all_goals simp_all [formOf, isShort, isLong, isNest]
  all_goals omega


def weighW (e : Entry) (lv : Int) : Int := if 0 < lv then e.key.length + 27 else if formOf e = 1 then e.key.length + e.val.length + 5 else if formOf e = 2 then e.key.length + 27 else if formOf e = 3 then e.key.length + 29 else 0
def weighB (e : Entry) (lv : Int) : Bool := if 0 < lv then branches e else formOf e == 1 || formOf e == 2 || formOf e == 3
/-- Strings are short enough for a machine. -/
def Entry.Ok (e : Entry) : Prop := e.key.length < 1099511627776 ∧ e.val.length < 1099511627776

theorem weigh_eq (hn : 4 ≤ n) (e : Entry) (he : e.Ok) (lv : Int) : C n 39 [e.av, i64 lv] h = some (.ret (.tup [i64 (weighW e lv), .bool (weighB e lv)]), h) := by
  obtain ⟨m, rfl⟩ : ∃ m, n = m + 1 := ⟨n - 1, by omega⟩
  obtain ⟨h1, h2⟩ := he
  refine fun_pure F39 rfl rfl rfl rfl ?_
  repeat' (conv => whnf); first
    | refine br (fun _ => ?_) (fun _ => ?_)
    | refine ldI rfl ?_
    | refine clI (branches_eq (by omega) e) ?_
    | refine clI (formOf_eq (by omega) e) ?_
    | refine zI (wrap_i64 (by omega) (by omega)) ?_
    | refine retP rfl (frz_ib ?_ ?_)
  all_goals simp_all [weighW, weighB]
  all_goals (intros; omega)

def wsum (lv : Int) : List Entry → Option Int
  | [] => some 0
  | e :: r => if weighB e lv then (wsum lv r).map (weighW e lv + ·) else none
def weight (l : List Entry) (lv : Int) : Option Int := if within lv 0 20 then (wsum lv l).map (6 + ·) else none
def weightR (l : List Entry) (lv : Int) : AV := match weight l lv with
  | some n => .tup [i64 n, i64 0]
  | none => .tup [i64 0, i64 2]

theorem wsum_append (lv : Int) : ∀ (a b : List Entry), wsum lv (a ++ b) = match wsum lv a, wsum lv b with | some x, some y => some (x + y) | _, _ => none
  | [], b => by cases h : wsum lv b <;> simp [wsum, h]
  | e :: a, b => by
    simp only [List.cons_append, wsum, wsum_append lv a b]
    by_cases hw : weighB e lv
    · simp only [hw, if_true]
      cases wsum lv a <;> cases wsum lv b <;> simp
      omega
    · simp [hw]

theorem within_iff {x lo hi : Int} : within x lo hi = true ↔ lo ≤ x ∧ x ≤ hi := by simp [within]
theorem form_key {e : Entry} (hf : formOf e ≠ 0) : 1 ≤ e.key.length ∧ e.key.length ≤ 48 := by
  by_cases h : within e.key.length 1 48
  · rw [within_iff] at h; omega
  · simp [formOf, h] at hf
theorem form_short {e : Entry} (hf : formOf e = 1) : e.val.length ≤ 64 := by
  by_cases hs : isShort e
  · simp [isShort] at hs; exact hs.2
  · simp only [formOf, hs] at hf
    split at hf
    · simp at hf
    · simp at hf
      repeat' (first | split at hf)
      all_goals simp at hf
theorem weigh_bound {e : Entry} {lv : Int} (hb : weighB e lv = true) : 5 ≤ weighW e lv ∧ weighW e lv ≤ 117 := by
  unfold weighB at hb
  unfold weighW
  split
  · rename_i hl
    rw [if_pos hl] at hb
    simp [branches] at hb
    omega
  · rename_i hl
    rw [if_neg hl] at hb
    have hk := @form_key e (by intro e0; simp [e0] at hb)
    split
    · rename_i h1; have := form_short h1; omega
    · split
      · omega
      · split
        · omega
        · exfalso; simp_all
theorem wsum_take {lv : Int} {l : List Entry} {j : Nat} (hj : j < l.length) {s : Int} (hs : wsum lv (l.take j) = some s) : wsum lv (l.take (j + 1)) = if weighB l[j] lv then some (s + weighW l[j] lv) else none := by
  rw [List.take_succ_eq_append_getElem hj, wsum_append, hs]
  by_cases hw : weighB l[j] lv <;> simp [wsum, hw]
theorem wsum_none {lv : Int} {l : List Entry} {j : Nat} (hs : wsum lv (l.take j) = none) : wsum lv l = none := by
  have := wsum_append lv (l.take j) (l.drop j)
  rw [List.take_append_drop, hs] at this
  exact this

theorem entry_cells (e : Entry) : e.av.cells? = some e.cells := rfl

theorem pure_map {α : Type} {f : α → AV} (hf : ∀ a, (f a).pureB = true) : ∀ (l : List α), pureBs (l.map f) = true
  | [] => rfl
  | a :: r => by simp [pureBs, hf a, pure_map hf r]
theorem pure_lst {α : Type} {f : α → AV} (hf : ∀ a, (f a).pureB = true) (l : List α) {sz : Nat} {c : Bool} {r : List AV} (hr : pureBs r = true) : pureBs (.lst sz (l.map f) c :: r) = true := by
  simp [pureBs, AV.pureB, pure_map hf l, hr]
theorem entry_pure (e : Entry) : e.av.pureB = true := rfl

end
end Go.Proofs
/- Contracts: a builder of strings, and numbers and digests that are written into it. -/
set_option linter.unusedVariables false
set_option linter.unusedSimpArgs false
namespace Go.Proofs
open Go Go.Abs

/-- What is not in F stays. -/
def Keep (hp hp' : AHeap) (F : List Nat) : Prop := hp.length ≤ hp'.length ∧ ∀ x, x < hp.length → x ∉ F → hp'[x]? = hp[x]?
theorem Keep.refl (hp : AHeap) (F : List Nat) : Keep hp hp F := ⟨Nat.le_refl _, fun _ _ _ => rfl⟩
theorem Keep.trans {a b c : AHeap} {F G : List Nat} (h1 : Keep a b F) (h2 : Keep b c G) (hs : ∀ x ∈ G, x ∈ F ∨ a.length ≤ x) : Keep a c F :=
  ⟨Nat.le_trans h1.1 h2.1, fun x hx hn => by
    rw [h2.2 x (Nat.lt_of_lt_of_le hx h1.1) fun hg => ?_, h1.2 x hx hn]
    rcases hs x hg with h | h
    · exact hn h
    · omega⟩
theorem Keep.mono {a b : AHeap} {F G : List Nat} (h : Keep a b F) (hs : ∀ x ∈ F, x ∈ G) : Keep a b G := ⟨h.1, fun x hx hn => h.2 x hx fun hf => hn (hs x hf)⟩
theorem Keep.app (h : AHeap) (x : AB) (F : List Nat) : Keep h (h ++ [x]) F := ⟨by simp, fun y hy _ => List.getElem?_append_left hy⟩
theorem Keep.set {h : AHeap} {b : Nat} {x : AB} {F : List Nat} (hb : b ∈ F) : Keep h (h.set b x) F := ⟨by simp, fun y hy hn => by rw [List.getElem?_set_ne]; rintro rfl; exact hn hb⟩
theorem Keep.set' {h h' : AHeap} {b : Nat} {x : AB} {F : List Nat} (k : Keep h h' F) (hb : b ∈ F ∨ h.length ≤ b) : Keep h (h'.set b x) F := ⟨by simp [k.1], fun y hy hn => by
  rw [List.getElem?_set_ne, k.2 y hy hn]
  rintro rfl
  rcases hb with hb | hb
  · exact hn hb
  · omega⟩
theorem lt_of_get {h : AHeap} {b : Nat} {x : AB} (hb : h[b]? = some x) : b < h.length := by
  rcases Nat.lt_or_ge b h.length with q | q
  · exact q
  · rw [List.getElem?_eq_none q] at hb; cases hb

def Buf (hp : AHeap) (b : Nat) (buf : AV) (bs : Str) (F : List Nat) : Prop :=
  (buf = .lst 0 [] true ∧ bs = [] ∧ F = [b]) ∨ (∃ bb ver frz, buf = .sl 1 bb ver 0 bs.length ∧ hp[bb]? = some (.cells ver (some 5) (bs.map u8) frz) ∧ b ≠ bb ∧ frz ≤ bs.length ∧ F = [b, bb])
abbrev tBld : Nat := 66
abbrev tWri : Nat := 68
/-- A builder in memory: its bytes, the blocks that are its own. -/
def BW (hp : AHeap) (b : Nat) (bs : Str) (F : List Nat) : Prop :=
  ∃ t a buf, hp[b]? = some (.cells 0 (some t) [a, buf] 0) ∧ (a = .nilp ∨ a = .ptr b 0 0) ∧ (t = tBld ∨ t = tWri) ∧ Buf hp b buf bs F
def Wrote (hp hp' : AHeap) (b : Nat) (F F' : List Nat) (bs : Str) : Prop := BW hp' b bs F' ∧ Keep hp hp' F ∧ ∀ x ∈ F', x ∈ F ∨ hp.length ≤ x
theorem Wrote.trans {h0 h1 h2 : AHeap} {b : Nat} {F F1 F2 : List Nat} {s1 s2 : Str} (w1 : Wrote h0 h1 b F F1 s1) (w2 : Wrote h1 h2 b F1 F2 s2) : Wrote h0 h2 b F F2 s2 :=
  ⟨w2.1, w1.2.1.trans w2.2.1 w1.2.2, fun x hx => by
    rcases w2.2.2 x hx with h | h
    · exact w1.2.2 x h
    · exact .inr (Nat.le_trans w1.2.1.1 h)⟩
theorem Wrote.refl {h : AHeap} {b : Nat} {F : List Nat} {s : Str} (w : BW h b s F) : Wrote h h b F F s := ⟨w, Keep.refl _ _, fun x hx => .inl hx⟩
theorem Buf.lt {hp : AHeap} {b : Nat} {buf : AV} {bs : Str} {F : List Nat} (h : Buf hp b buf bs F) : ∀ x ∈ F, x = b ∨ x < hp.length := by
  intro x hx
  rcases h with ⟨_, _, rfl⟩ | ⟨bb, ver, frz, _, h2, _, _, rfl⟩
  · simp at hx; exact .inl hx
  · simp at hx
    rcases hx with rfl | rfl
    · exact .inl rfl
    · exact .inr (lt_of_get h2)
theorem BW.lt {hp : AHeap} {b : Nat} {bs : Str} {F : List Nat} (h : BW hp b bs F) : ∀ x ∈ F, x < hp.length := by
  obtain ⟨t, a, buf, h1, _, _, h4⟩ := h
  intro x hx
  rcases h4.lt x hx with rfl | h
  · exact lt_of_get h1
  · exact h
theorem Buf.mem {hp : AHeap} {b : Nat} {buf : AV} {bs : Str} {F : List Nat} (h : Buf hp b buf bs F) : b ∈ F := by
  rcases h with ⟨_, _, rfl⟩ | ⟨bb, ver, frz, _, h2, _, _, rfl⟩ <;> simp
theorem BW.mem {hp : AHeap} {b : Nat} {bs : Str} {F : List Nat} (h : BW hp b bs F) : b ∈ F := by
  obtain ⟨t, a, buf, h1, _, _, h4⟩ := h
  exact h4.mem
/-- A builder stays where its blocks stay. -/
theorem BW.stays {hp hp' : AHeap} {b : Nat} {bs : Str} {F G : List Nat} (h : BW hp b bs F) (k : Keep hp hp' G) (hd : ∀ x ∈ F, x ∉ G) : BW hp' b bs F := by
  have hl := h.lt
  obtain ⟨t, a, buf, h1, h2, h3, h4⟩ := h
  refine ⟨t, a, buf, ?_, h2, h3, ?_⟩
  · rw [k.2 b (lt_of_get h1) (hd b h4.mem)]; exact h1
  · rcases h4 with h4 | ⟨bb, ver, frz, g1, g2, g3, g4, rfl⟩
    · exact .inl h4
    · refine .inr ⟨bb, ver, frz, g1, ?_, g3, g4, rfl⟩
      rw [k.2 bb (hl bb (by simp)) (hd bb (by simp))]; exact g2

theorem u8_scal (s : Str) : ((s.map u8).all AV.scal) = true := by
  rw [List.all_eq_true]
  intro x hx
  obtain ⟨b, _, rfl⟩ := List.mem_map.1 hx
  rfl
theorem toBytes_map : ∀ (s : Str), toBytes (s.map u8) = some s
  | [] => rfl
  | b :: r => by
    show (toBytes (r.map u8)).map (UInt8.ofNat (b.toNat : Int).toNat :: ·) = _
    rw [toBytes_map r]; simp
theorem bytesB_map (s : Str) : ((s.map u8).all AV.byteB) = true := by
  rw [List.all_eq_true]
  intro x hx
  obtain ⟨b, _, rfl⟩ := List.mem_map.1 hx
  have := b.toNat_lt
  show (decide (0 ≤ (b.toNat : Int)) && decide ((b.toNat : Int) < 256)) = true
  simp; omega
theorem first_str (h : AHeap) (s : Str) : firstA h 1 s.length (.str s) = some (s.map u8) := by
  simp [firstA]
theorem flat_u8 : ∀ (s : Str), (((s.map u8).map AV.cells?).flatMap fun o => o.getD []) = s.map u8
  | [] => rfl
  | b :: r => by
    show [u8 b] ++ (((r.map u8).map AV.cells?).flatMap fun o => o.getD []) = _
    rw [flat_u8 r]; rfl
theorem first_lst (h : AHeap) (s : Str) (c : Bool) : firstA h 1 s.length (.lst 1 (s.map u8) c) = some (s.map u8) := by
  unfold firstA
  simp only
  rw [if_pos ⟨by simp, .inl trivial⟩]
  rw [show (s.map u8).take s.length = s.map u8 from List.take_of_length_le (by simp), flat_u8]
  rw [if_pos]
  rw [List.all_eq_true]
  intro x hx
  obtain ⟨y, hy, rfl⟩ := List.mem_map.1 hx
  obtain ⟨b, _, rfl⟩ := List.mem_map.1 hy
  rfl

/-- Bytes that are appended. -/
def Data (h : AHeap) (x : AV) (s : Str) : Prop := lenA x = some s.length ∧ firstA h 1 s.length x = some (s.map u8)
theorem buf_app {hp : AHeap} {b : Nat} {buf x : AV} {bs s : Str} {F : List Nat} (hB : Buf hp b buf bs F) (hx : Data hp x s) (hb : b < hp.length) (hl : bs.length + s.length ≤ 1073741824) :
    ∃ v oh, appR hp 5 1 buf x = some (v, oh) ∧ ∃ hp' F', hp' = oh.getD hp ∧ hp'[b]? = hp[b]? ∧ Buf hp' b v (bs ++ s) F' ∧ Keep hp hp' F ∧ (∀ x ∈ F', x ∈ F ∨ hp.length ≤ x) ∧ (∃ xs, v.cells? = some xs ∧ xs = [v]) := by
  obtain ⟨h1, h2⟩ := hx
  unfold appR
  rw [h1]
  simp only
  rw [h2]
  simp only [u8_scal, Bool.not_true, Bool.false_eq_true, if_false]
  rcases hB with ⟨rfl, rfl, rfl⟩ | ⟨bb, ver, frz, rfl, g1, g2, g3, rfl⟩
  · by_cases e : s.length = 0
    · have : s = [] := List.length_eq_zero_iff.1 e
      subst this
      simp only [List.length_nil, if_true]
      exact ⟨_, _, rfl, hp, [b], rfl, rfl, .inl ⟨rfl, rfl, rfl⟩, Keep.refl _ _, fun x hx => .inl hx, _, rfl, rfl⟩
    · simp only
      rw [if_neg e]
      have h3 : firstA hp 1 ([] : List AV).length (.lst 0 [] true) = some [] := rfl
      rw [h3]
      simp only [List.length_nil, Nat.zero_add]
      rw [if_pos ⟨by simpa using hl, rfl⟩]
      refine ⟨_, _, rfl, _, [b, hp.length], rfl, ?_, .inr ⟨hp.length, 0, 0, rfl, ?_, by omega, Nat.zero_le _, rfl⟩, Keep.app _ _ _, ?_, _, rfl, rfl⟩
      · simp only [Option.getD_some]; rw [List.getElem?_append_left hb]
      · simp
      · intro x hx; simp at hx; rcases hx with rfl | rfl <;> simp
  · simp only
    rw [g1]
    simp only
    rw [if_pos ⟨.inl trivial, trivial, trivial, trivial, by simp, u8_scal _, hl, by simpa using g3⟩]
    by_cases e : s.length = 0
    · have : s = [] := List.length_eq_zero_iff.1 e
      subst this
      rw [if_pos (show ([] : Str).length = 0 from rfl)]
      exact ⟨_, _, rfl, hp, [b, bb], rfl, rfl, .inr ⟨bb, ver, frz, by simp, by simpa using g1, g2, by simpa using g3, rfl⟩, Keep.refl _ _, fun x hx => .inl hx, _, rfl, rfl⟩
    · rw [if_neg e]
      refine ⟨_, _, rfl, _, [b, bb], rfl, ?_, .inr ⟨bb, ver + 1, frz, by simp, ?_, g2, by simp; omega, rfl⟩, Keep.set (by simp), fun x hx => .inl hx, _, rfl, rfl⟩
      · simp only [Option.getD_some]; rw [List.getElem?_set_ne (fun e => g2 e.symm)]
      · simp only [Option.getD_some, List.map_append]; rw [List.getElem?_set_self (lt_of_get g1)]

theorem eq_bld (b : Nat) : eqA Try.prog 20 64 (.ptr b 0 0) (.ptr b 0 0) = some true := by
  have h1 : Try.prog.underlying 64 = some (.pointer tBld) := by kernel_rfl
  have h2 : (ti Try.prog tBld).isSome = true := by kernel_rfl
  unfold eqA
  rw [h1]
  simp only
  rw [if_pos ⟨trivial, trivial, trivial, h2⟩]
theorem lies_bld : liesAt Try.prog Try.prog.depth tBld (2 / Try.prog.cellsOf tBld) 0 tBld 1 = true := by kernel_rfl
theorem lies_wri : liesAt Try.prog Try.prog.depth tWri (2 / Try.prog.cellsOf tWri) 0 tBld 1 = true := by kernel_rfl

section
variable {n : Nat}
theorem copyCheck_eq (hn : 1 ≤ n) {hp : AHeap} {b : Nat} {bs : Str} {F : List Nat} (w : BW hp b bs F) :
    ∃ hp' t buf, C n 56 [.ptr b 0 0] hp = some (.ret (.tup []), hp') ∧ hp'[b]? = some (.cells 0 (some t) [.ptr b 0 0, buf] 0) ∧ (t = tBld ∨ t = tWri) ∧ Buf hp' b buf bs F ∧ Keep hp hp' F := by
  obtain ⟨m, rfl⟩ : ∃ m, n = m + 1 := ⟨n - 1, by omega⟩
  obtain ⟨t, a, buf, h1, h2, h3, h4⟩ := w
  rcases h2 with rfl | rfl
  · refine ⟨hp.set b (.cells 0 (some t) (putAt [.nilp, buf] 0 [.ptr b 0 0]) 0), t, buf, ?_, ?_, h3, ?_, Keep.set h4.mem⟩
    · refine fun_inl F56 rfl rfl ?_
      conv => whnf
      refine ldI h1 ?_
      conv => whnf
      refine ⟨_, _, _, h1, by show 0 < 2; decide, ?_⟩
      conv => whnf
      refine ⟨_, _, _, h1, ?_, ?_⟩
      · rcases h3 with rfl | rfl
        · exact lies_bld
        · exact lies_wri
      conv => whnf
      refine stI h1 (by rfl) (by rfl) (by rfl) (by rfl) ?_
      exact ⟨rfl, [], rfl, rfl, rfl⟩
    · rw [List.getElem?_set_self (lt_of_get h1)]; rfl
    · rcases h4 with h4 | ⟨bb, ver, frz, g1, g2, g3, g4, rfl⟩
      · exact .inl h4
      · exact .inr ⟨bb, ver, frz, g1, by rw [List.getElem?_set_ne g3]; exact g2, g3, g4, rfl⟩
  · refine ⟨hp, t, buf, ?_, h1, h3, h4, Keep.refl _ _⟩
    refine fun_inl F56 rfl rfl ?_
    conv => whnf
    refine ldI h1 ?_
    conv => whnf
    refine ldI h1 ?_
    conv => whnf
    refine eqI (eq_bld b) ?_
    exact ⟨rfl, [], rfl, rfl, rfl⟩

theorem wrote_of {hp hp1 hp2 : AHeap} {b t : Nat} {F F' : List Nat} {bs : Str} {v : AV} (h3 : t = tBld ∨ t = tWri) (k1 : Keep hp hp1 F) (e2 : hp2[b]? = some (.cells 0 (some t) [.ptr b 0 0, v] 0)) (hb : b ∈ F) (hB : Buf hp2 b v bs F') (k2 : Keep hp1 hp2 F) (hF : ∀ x ∈ F', x ∈ F ∨ hp1.length ≤ x) : Wrote hp hp2 b F F' bs :=
  ⟨⟨t, _, _, e2, .inr rfl, h3, hB⟩, k1.trans k2 (fun x hx => .inl hx), fun x hx => (hF x hx).imp id fun h => Nat.le_trans k1.1 h⟩

theorem buf_set {hp : AHeap} {b : Nat} {x : AB} {buf : AV} {bs : Str} {F : List Nat} (h : Buf hp b buf bs F) : Buf (hp.set b x) b buf bs F := by
  rcases h with h | ⟨bb, ver, frz, g1, g2, g3, g4, rfl⟩
  · exact .inl h
  · exact .inr ⟨bb, ver, frz, g1, by rw [List.getElem?_set_ne g3]; exact g2, g3, g4, rfl⟩

theorem WriteString_eq (hn : 2 ≤ n) {hp : AHeap} {b : Nat} {bs : Str} {F : List Nat} (w : BW hp b bs F) (s : Str) (hl : bs.length + s.length ≤ 1073741824) :
    ∃ hp' F', C n 29 [.ptr b 0 0, .str s] hp = some (.ret (.tup [i64 s.length, .nili]), hp') ∧ Wrote hp hp' b F F' (bs ++ s) := by
  obtain ⟨m, rfl⟩ : ∃ m, n = m + 1 := ⟨n - 1, by omega⟩
  have hm := w.mem
  obtain ⟨hp1, t, buf, e1, h1, h3, h4, k1⟩ := copyCheck_eq (n := m) (by omega) w
  obtain ⟨v, oh, e2, hp2, F', rfl, g1, g2, g3, g4, xs, g5, rfl⟩ := buf_app h4 (x := .str s) ⟨rfl, first_str _ _⟩ (lt_of_get h1) hl
  have g1' := g1.trans h1
  refine ⟨(oh.getD hp1).set b (.cells 0 (some t) (putAt [.ptr b 0 0, buf] 1 [v]) 0), F', ?_, ?_⟩
  · refine fun_inl F29 rfl rfl ?_
    conv => whnf
    refine clI e1 ?_
    conv => whnf
    refine ldI h1 ?_
    refine ⟨_, e2, ?_⟩
    cases oh with
    | none =>
      conv => whnf
      refine stI h1 g5 (by rfl) (by rfl) (by rfl) ?_
      exact ⟨rfl, [i64 s.length, .nili], rfl, rfl, rfl⟩
    | some h2 =>
      conv => whnf
      refine stI g1' g5 (by rfl) (by rfl) (by rfl) ?_
      exact ⟨rfl, [i64 s.length, .nili], rfl, rfl, rfl⟩
  · exact wrote_of h3 k1 (by rw [List.getElem?_set_self (lt_of_get g1')]; rfl) hm (buf_set g2) (g3.set' (.inl hm)) g4

theorem WriteByte_eq (hn : 2 ≤ n) {hp : AHeap} {b : Nat} {bs : Str} {F : List Nat} (w : BW hp b bs F) (c : UInt8) (hl : bs.length + 1 ≤ 1073741824) :
    ∃ hp' F', C n 26 [.ptr b 0 0, u8 c] hp = some (.ret .nili, hp') ∧ Wrote hp hp' b F F' (bs ++ [c]) := by
  obtain ⟨m, rfl⟩ : ∃ m, n = m + 1 := ⟨n - 1, by omega⟩
  have hm := w.mem
  obtain ⟨hp1, t, buf, e1, h1, h3, h4, k1⟩ := copyCheck_eq (n := m) (by omega) w
  obtain ⟨v, oh, e2, hp2, F', rfl, g1, g2, g3, g4, xs, g5, rfl⟩ := buf_app h4 (x := .lst 1 ([c].map u8) true) ⟨rfl, first_lst _ _ _⟩ (lt_of_get h1) hl
  have g1' := g1.trans h1
  refine ⟨(oh.getD hp1).set b (.cells 0 (some t) (putAt [.ptr b 0 0, buf] 1 [v]) 0), F', ?_, ?_⟩
  · refine fun_inl F26 rfl rfl ?_
    conv => whnf
    refine clI e1 ?_
    conv => whnf
    refine ldI h1 ?_
    conv => whnf
    refine ⟨rfl, ?_⟩
    refine ⟨_, e2, ?_⟩
    cases oh with
    | none =>
      conv => whnf
      refine stI h1 g5 (by rfl) (by rfl) (by rfl) ?_
      exact ⟨rfl, [.nili], rfl, rfl, rfl⟩
    | some h2 =>
      conv => whnf
      refine stI g1' g5 (by rfl) (by rfl) (by rfl) ?_
      exact ⟨rfl, [.nili], rfl, rfl, rfl⟩
  · exact wrote_of h3 k1 (by rw [List.getElem?_set_self (lt_of_get g1')]; rfl) hm (buf_set g2) (g3.set' (.inl hm)) g4

theorem Len_eq (hn : 1 ≤ n) {hp : AHeap} {b : Nat} {bs : Str} {F : List Nat} (w : BW hp b bs F) : C n 31 [.ptr b 0 0] hp = some (.ret (i64 bs.length), hp) := by
  obtain ⟨m, rfl⟩ : ∃ m, n = m + 1 := ⟨n - 1, by omega⟩
  obtain ⟨t, a, buf, h1, h2, h3, h4⟩ := w
  refine fun_inl F31 rfl rfl ?_
  conv => whnf
  refine ldI h1 ?_
  rcases h4 with ⟨rfl, rfl, rfl⟩ | ⟨bb, ver, frz, rfl, g2, g3, g4, rfl⟩
  · exact ⟨rfl, [i64 0], rfl, rfl, rfl⟩
  · exact ⟨rfl, [i64 bs.length], rfl, rfl, rfl⟩

theorem String_eq (hn : 1 ≤ n) {hp : AHeap} {b : Nat} {bs : Str} {F : List Nat} (w : BW hp b bs F) (h0 : bs ≠ []) (hl : bs.length ≤ 1073741824) : ∃ hp', C n 33 [.ptr b 0 0] hp = some (.ret (.str bs), hp') ∧ Wrote hp hp' b F F bs := by
  obtain ⟨m, rfl⟩ : ∃ m, n = m + 1 := ⟨n - 1, by omega⟩
  obtain ⟨t, a, buf, h1, h2, h3, h4⟩ := w
  rcases h4 with ⟨rfl, rfl, rfl⟩ | ⟨bb, ver, frz, rfl, g2, g3, g4, rfl⟩
  · exact (h0 rfl).elim
  · have hpos : 0 < bs.length := by cases bs with | nil => exact (h0 rfl).elim | cons => simp
    have e1 : (hp.set bb (.cells ver (some 5) (bs.map u8) (max frz bs.length)))[b]? = some (.cells 0 (some t) [a, .sl 1 bb ver 0 bs.length] 0) := by rw [List.getElem?_set_ne (fun e => g3 e.symm)]; exact h1
    refine ⟨hp.set bb (.cells ver (some 5) (bs.map u8) (max frz bs.length)), ?_, ⟨t, a, _, e1, h2, h3, .inr ⟨bb, ver, _, rfl, by rw [List.getElem?_set_self (lt_of_get g2)], g3, by omega, rfl⟩⟩, Keep.set (by simp), fun x hx => .inl hx⟩
    refine fun_inl F33 rfl rfl ?_
    conv => whnf
    refine ldI h1 ?_
    conv => whnf
    refine ⟨by omega, ?_⟩
    conv => whnf
    refine ldI h1 ?_
    conv => whnf
    have e : (bs.map u8).take (bs.length : Int).toNat = bs.map u8 := by rw [Int.toNat_natCast]; exact List.take_of_length_le (by simp)
    refine ⟨by omega, _, _, bs, g2, ⟨by simp, by simpa using hl⟩, by rw [e]; exact bytesB_map bs, by rw [e]; exact toBytes_map bs, ?_⟩
    conv => whnf
    refine ⟨?_, ?_⟩
    · refine ⟨?_, ?_⟩
      · conv => whnf
        exact ldI e1 rfl
      · conv => whnf
        exact ldI e1 rfl
    · exact ⟨rfl, [.str bs], rfl, rfl, by simp⟩
end
end Go.Proofs
/- Contracts: numbers and digests that are written into a builder. -/
set_option linter.unusedVariables false
set_option linter.unusedSimpArgs false
namespace Go.Proofs
open Go Go.Abs

/-- A number of so many bytes, the most significant one first. -/
def num (k : Nat) : Nat → Str
  | 0 => []
  | w + 1 => UInt8.ofNat (k / 256 ^ w) :: num k w
theorem num_len (k : Nat) : ∀ w, (num k w).length = w
  | 0 => rfl
  | w + 1 => by simp [num, num_len k w]
theorem byte_of {k i : Nat} (hi : i ≤ 7) : IntKind.u8.wrap (((k : Int)).fdiv (2 ^ (min ((8 * (i : Int))).toNat IntKind.i64.bits))) = ((UInt8.ofNat (k / 256 ^ i)).toNat : Int) := by
  have h1 : min (8 * (i : Int)).toNat IntKind.i64.bits = 8 * i := by show min (8 * (i : Int)).toNat 64 = 8 * i; omega
  rw [h1, Int.fdiv_eq_ediv_of_nonneg _ (by exact Int.pow_nonneg (by decide))]
  have h2 : ((k : Int)) / (2 ^ (8 * i) : Int) = ((k / 256 ^ i : Nat) : Int) := by
    rw [show (256 : Nat) = 2 ^ 8 by rfl, ← Nat.pow_mul]
    norm_cast
  rw [h2]
  show (if (IntKind.u8.signed && decide (((k / 256 ^ i : Nat) : Int) % (2 ^ 8 : Int) ≥ (2 ^ (8 - 1) : Int))) = true then ((k / 256 ^ i : Nat) : Int) % (2 ^ 8 : Int) - 2 ^ 8 else ((k / 256 ^ i : Nat) : Int) % (2 ^ 8 : Int)) = _
  rw [if_neg (by simp [IntKind.signed]), UInt8.toNat_ofNat']
  omega
def Dg.bytes (d : Dg) : Str := d.list
theorem Dg.bytes_len (d : Dg) : d.bytes.length = 16 := rfl
theorem Dg.cells_map (d : Dg) : d.cells = d.bytes.map u8 := rfl

section
variable {n : Nat}
theorem number_eq (hn : 3 ≤ n) {hp : AHeap} {b : Nat} {bs : Str} {F : List Nat} (w : BW hp b bs F) (k wd : Nat) (hw : wd ≤ 8) (hl : bs.length + wd ≤ 1073741824) :
    ∃ hp' F', C n 27 [.ptr b 0 0, i64 k, i64 wd] hp = some (.ret (.tup []), hp') ∧ Wrote hp hp' b F F' (bs ++ num k wd) := by
  obtain ⟨m, rfl⟩ : ∃ m, n = m + 1 := ⟨n - 1, by omega⟩
  have := fun_inlR (n := m) (c := cfg0) (args := [.ptr b 0 0, i64 k, i64 wd]) (h := hp) (R := fun v hp' => v = .tup [] ∧ ∃ F', Wrote hp hp' b F F' (bs ++ num k wd)) F27 rfl rfl ?_
  · obtain ⟨v, hp', e, rfl, F', hW⟩ := this
    exact ⟨hp', F', e, hW⟩
  conv => whnf
  refine zI (wrap_i64 (by omega) (by omega)) ?_
  conv => whnf
  refine loopI (by decide) rfl (α := Nat × Str × List Nat × AHeap) (fun x => ⟨[(0, .ptr b 0 0), (1, i64 k), (6, i64 ((x.1 : Int) - 1))], x.2.2.2, []⟩)
    (fun x => x.1 ≤ wd ∧ Wrote hp x.2.2.2 b F x.2.2.1 (bs ++ x.2.1) ∧ x.2.1 ++ num k x.1 = num k wd) (fun x => x.1) (wd, [], F, hp) ⟨⟨rfl, rfl, rfl⟩, rfl, rfl⟩ ?_ (by simp only [KK]; omega) ?_
  · exact ⟨Nat.le_refl _, by simpa using Wrote.refl w, rfl⟩
  · rintro ⟨r, o, G, h1⟩ ⟨g1, g2, g3⟩
    simp only at g1 g2 g3
    conv => whnf
    refine brd (fun a => ?_) (fun a => ?_)
    · simp only at a
      obtain ⟨q, rfl⟩ : ∃ q, r = q + 1 := ⟨r - 1, by omega⟩
      have hlen : o.length + (q + 1) = wd := by
        have := congrArg List.length g3
        simpa [num_len] using this
      conv => whnf
      refine zI (z := 8 * (q : Int)) (by rw [wrap_i64 (by omega) (by omega)]; omega) ?_
      conv => whnf
      refine ⟨by omega, _, rfl, ?_⟩
      conv => whnf
      refine zI (byte_of (k := k) (i := q) (by omega)) ?_
      obtain ⟨h2, G2, e2, w2⟩ := WriteByte_eq (n := m) (by omega) g2.1 (UInt8.ofNat (k / 256 ^ q)) (by simp; omega)
      conv => whnf
      refine clI e2 ?_
      conv => whnf
      refine zI (z := (q : Int) - 1) (by rw [wrap_i64 (by omega) (by omega)]; omega) ?_
      refine nxI (q, o ++ [UInt8.ofNat (k / 256 ^ q)], G2, h2) ⟨by omega, ?_, ?_⟩ (by simp) ⟨⟨rfl, rfl, rfl⟩, rfl, rfl⟩
      · have := g2.trans w2
        simpa using this
      · rw [← g3]; simp [num]
    · simp only at a
      have : r = 0 := by omega
      subst this
      conv => whnf
      refine ⟨rfl, [], rfl, rfl, G, ?_⟩
      have g4 : Wrote hp h1 b F G (bs ++ num k wd) := by rw [← g3]; simpa [num] using g2
      exact g4

theorem first_sl (h : AHeap) {bb ver : Nat} {el : Option TypeId} {s : Str} {frz : Nat} (hb : h[bb]? = some (.cells ver el (s.map u8) frz)) : firstA h 1 s.length (.sl 1 bb ver 0 s.length) = some (s.map u8) := by
  unfold firstA
  simp only
  rw [if_pos ⟨Nat.le_refl _, trivial⟩, hb]
  simp only
  rw [if_pos ⟨trivial, by simp⟩]
  rw [List.drop_zero, Nat.mul_one, List.take_of_length_le (by simp)]

theorem wsum_eq (hn : 3 ≤ n) {hp : AHeap} {b : Nat} {bs : Str} {F : List Nat} (w : BW hp b bs F) (d : Dg) (hl : bs.length + 16 ≤ 1073741824) :
    ∃ hp' F', C n 102 [.ptr b 0 0, .agg d.cells] hp = some (.ret (.tup []), hp') ∧ Wrote hp hp' b F F' (bs ++ d.bytes) := by
  obtain ⟨m, rfl⟩ : ∃ m, n = m + 1 := ⟨n - 1, by omega⟩
  have hb := w.lt b w.mem
  have k0 : Keep hp (hp ++ [.cells 0 (some 49) d.cells 0]) [] := Keep.app _ _ _
  have w1 := w.stays k0 (by simp)
  obtain ⟨h2, G2, e2, w2⟩ := WriteString_eq (n := m) (by omega) w1 d.bytes (by rw [d.bytes_len]; exact hl)
  refine ⟨h2, G2, ?_, w2.1, (k0.mono (by simp)).trans w2.2.1 (fun x hx => .inl hx), fun x hx => (w2.2.2 x hx).imp id fun h => by simp at h; omega⟩
  have hd : (hp ++ [.cells 0 (some 49) d.cells 0])[hp.length]? = some (.cells 0 (some 49) (d.bytes.map u8) 0) := get_last _ _
  have hs : h2[hp.length]? = some (.cells 0 (some 49) (d.bytes.map u8) 0) := by
    rw [w2.2.1.2 hp.length (by simp) (fun h => by have := w.lt _ h; omega)]
    exact hd
  refine fun_inl F102 rfl rfl ?_
  conv => whnf
  refine ⟨_, _, _, hd, ⟨by rw [List.length_map, d.bytes_len]; decide, by decide⟩, ?_⟩
  refine slI (v := .sl 1 hp.length 0 0 16) rfl ?_
  conv => whnf
  refine ⟨_, d.bytes, first_sl _ hd, toBytes_map _, ?_⟩
  conv => whnf
  refine clI e2 ?_
  · exact ⟨rfl, [], rfl, rfl, rfl⟩
end
end Go.Proofs
/- The looked-up text of the functions. -/
namespace Go.Proofs
open Go Go.Abs
-- 104 functions
/- f101 (understory/page.node).entry: 86 temporaries, depth 7, 4 parameters, results [] -/
def c101 : RC :=
  (.seq (.ops [⟨some 4, none, .op (.box 115 (.t 0))⟩,
    ⟨some 6, none, .op (.box 51 (.t 2))⟩])
  (.seq (.ops [⟨some 8, none, .op (.mv (.t 1))⟩,
    ⟨some 9, none, .op (.fieldAddr 0 (.t 6))⟩,
    ⟨some 10, none, .op (.load false 1 (.t 9))⟩,
    ⟨some 11, none, .op (.lenS (.t 10))⟩,
    ⟨some 12, none, .op (.mv (.t 3))⟩,
    ⟨some 13, none, .op (.bin .sub (.t 11) (.t 12))⟩,
    ⟨some 14, none, .op (.callF 27 [(.t 8), (.t 13), (.c (.int .i64 1))])⟩])
  (.seq (.draw [(⟨some 15, none, .op (.mv (.t 1))⟩, 0),
    (⟨some 16, none, .op (.nilCheck (.t 15))⟩, 0),
    (⟨some 17, none, .op (.fieldAddr 0 (.t 16))⟩, 0),
    (⟨some 18, none, .op (.fieldAddr 0 (.t 6))⟩, 0),
    (⟨some 19, none, .op (.load false 1 (.t 18))⟩, 1),
    (⟨some 20, none, .op (.mv (.t 3))⟩, 0),
    (⟨some 21, none, .op (.sliceS (.t 19) (some (.t 20)) none)⟩, 1),
    (⟨some 22, none, .op (.callF 29 [(.t 17), (.t 21)])⟩, 2)])
  (.block 0
    (.seq (.ops [⟨some 35, none, .op (.fieldAddr 1 (.t 4))⟩,
      ⟨some 36, none, .op (.load false 1 (.t 35))⟩,
      ⟨some 37, none, .op (.bin .gtr (.t 36) (.c (.int .i64 0)))⟩,
      ⟨some 34, none, .op (.mv (.t 37))⟩])
    (.cond (.t 34)
      (.seq (.ops [⟨some 38, none, .op (.mv (.t 1))⟩,
        ⟨some 39, none, .op (.fieldAddr 4 (.t 6))⟩,
        ⟨some 40, none, .op (.load false 1 (.t 39))⟩,
        ⟨some 41, none, .op (.callF 27 [(.t 38), (.t 40), (.c (.int .i64 4))])⟩])
      (.seq (.ops [⟨some 42, none, .op (.mv (.t 1))⟩,
        ⟨some 43, none, .op (.fieldAddr 5 (.t 6))⟩,
        ⟨some 44, none, .op (.load false 1 (.t 43))⟩,
        ⟨some 45, none, .op (.callF 27 [(.t 42), (.t 44), (.c (.int .i64 4))])⟩])
      (.ops [⟨some 46, none, .op (.mv (.t 1))⟩,
        ⟨some 47, none, .op (.fieldAddr 6 (.t 6))⟩,
        ⟨some 48, none, .op (.load true 16 (.t 47))⟩,
        ⟨some 49, none, .op (.callF 102 [(.t 46), (.t 48)])⟩])))
      (.seq (.ops [⟨some 51, none, .op (.fieldAddr 2 (.t 6))⟩,
        ⟨some 52, none, .op (.load false 1 (.t 51))⟩,
        ⟨some 53, none, .op (.bin .gtr (.t 52) (.c (.int .i64 0)))⟩,
        ⟨some 50, none, .op (.mv (.t 53))⟩])
      (.cond (.t 50)
        (.seq (.ops [⟨some 54, none, .op (.mv (.t 1))⟩,
          ⟨some 55, none, .op (.callF 27 [(.t 54), (.c (.int .i64 65535)), (.c (.int .i64 2))])⟩])
        (.seq (.ops [⟨some 56, none, .op (.mv (.t 1))⟩,
          ⟨some 57, none, .op (.fieldAddr 2 (.t 6))⟩,
          ⟨some 58, none, .op (.load false 1 (.t 57))⟩,
          ⟨some 59, none, .op (.callF 27 [(.t 56), (.t 58), (.c (.int .i64 4))])⟩])
        (.seq (.ops [⟨some 60, none, .op (.mv (.t 1))⟩,
          ⟨some 61, none, .op (.fieldAddr 3 (.t 6))⟩,
          ⟨some 62, none, .op (.load false 1 (.t 61))⟩,
          ⟨some 63, none, .op (.callF 27 [(.t 60), (.t 62), (.c (.int .i64 2))])⟩])
        (.ops [⟨some 64, none, .op (.mv (.t 1))⟩,
          ⟨some 65, none, .op (.fieldAddr 6 (.t 6))⟩,
          ⟨some 66, none, .op (.load true 16 (.t 65))⟩,
          ⟨some 67, none, .op (.callF 102 [(.t 64), (.t 66)])⟩]))))
        (.seq (.ops [⟨some 69, none, .op (.fieldAddr 4 (.t 6))⟩,
          ⟨some 70, none, .op (.load false 1 (.t 69))⟩,
          ⟨some 71, none, .op (.bin .gtr (.t 70) (.c (.int .i64 0)))⟩,
          ⟨some 68, none, .op (.mv (.t 71))⟩])
        (.cond (.t 68)
          (.seq (.ops [⟨some 72, none, .op (.mv (.t 1))⟩,
            ⟨some 73, none, .op (.callF 27 [(.t 72), (.c (.int .i64 65534)), (.c (.int .i64 2))])⟩])
          (.seq (.ops [⟨some 74, none, .op (.mv (.t 1))⟩,
            ⟨some 75, none, .op (.fieldAddr 4 (.t 6))⟩,
            ⟨some 76, none, .op (.load false 1 (.t 75))⟩,
            ⟨some 77, none, .op (.callF 27 [(.t 74), (.t 76), (.c (.int .i64 4))])⟩])
          (.seq (.ops [⟨some 78, none, .op (.mv (.t 1))⟩,
            ⟨some 79, none, .op (.fieldAddr 5 (.t 6))⟩,
            ⟨some 80, none, .op (.load false 1 (.t 79))⟩,
            ⟨some 81, none, .op (.callF 27 [(.t 78), (.t 80), (.c (.int .i64 4))])⟩])
          (.ops [⟨some 82, none, .op (.mv (.t 1))⟩,
            ⟨some 83, none, .op (.fieldAddr 6 (.t 6))⟩,
            ⟨some 84, none, .op (.load true 16 (.t 83))⟩,
            ⟨some 85, none, .op (.callF 102 [(.t 82), (.t 84)])⟩]))))
          (.seq (.ops [⟨some 23, none, .op (.mv (.t 1))⟩,
            ⟨some 24, none, .op (.fieldAddr 1 (.t 6))⟩,
            ⟨some 25, none, .op (.load false 1 (.t 24))⟩,
            ⟨some 26, none, .op (.lenS (.t 25))⟩,
            ⟨some 27, none, .op (.callF 27 [(.t 23), (.t 26), (.c (.int .i64 2))])⟩])
          (.draw [(⟨some 28, none, .op (.mv (.t 1))⟩, 0),
            (⟨some 29, none, .op (.nilCheck (.t 28))⟩, 0),
            (⟨some 30, none, .op (.fieldAddr 0 (.t 29))⟩, 0),
            (⟨some 31, none, .op (.fieldAddr 1 (.t 6))⟩, 0),
            (⟨some 32, none, .op (.load false 1 (.t 31))⟩, 1),
            (⟨some 33, none, .op (.callF 29 [(.t 30), (.t 32)])⟩, 2)]))))))))))))
theorem F101 : FI 101 4 86 7 [] c101 := ⟨⟨Try.f101, Try.func101, by kernel_rfl, by kernel_rfl, by kernel_rfl⟩, by kernel_rfl, by decide, by kernel_rfl⟩
/- f100 (understory/page.node).write: 86 temporaries, depth 7, 2 parameters, results [] -/
def c100 : RC :=
  (.seq (.ops [⟨some 2, none, .op (.box 115 (.t 0))⟩])
  (.seq (.ops [⟨some 11, none, .op (.fieldAddr 3 (.t 2))⟩,
    ⟨some 12, none, .op (.load false 1 (.t 11))⟩,
    ⟨some 13, none, .op (.fieldAddr 1 (.t 2))⟩,
    ⟨some 14, none, .op (.load false 1 (.t 13))⟩,
    ⟨some 15, none, .op (.callF 37 [(.t 12), (.t 14)])⟩,
    ⟨some 4, none, .op (.mv (.t 15))⟩])
  (.seq (.ops [⟨some 16, none, .op (.mv (.t 1))⟩,
    ⟨some 17, none, .op (.fieldAddr 0 (.t 2))⟩,
    ⟨some 18, none, .op (.load false 1 (.t 17))⟩,
    ⟨some 19, none, .op (.callF 27 [(.t 16), (.t 18), (.c (.int .i64 1))])⟩])
  (.seq (.ops [⟨some 20, none, .op (.mv (.t 1))⟩,
    ⟨some 21, none, .op (.fieldAddr 1 (.t 2))⟩,
    ⟨some 22, none, .op (.load false 1 (.t 21))⟩,
    ⟨some 23, none, .op (.callF 27 [(.t 20), (.t 22), (.c (.int .i64 1))])⟩])
  (.seq (.ops [⟨some 5, none, .op (.mv (.c (.int .i64 0)))⟩])
  (.seq (.seq (.ops [⟨some 24, none, .op (.fieldAddr 2 (.t 2))⟩,
    ⟨some 25, none, .op (.load false 1 (.t 24))⟩])
  (.cond (.t 25)
    (.ops [⟨some 5, none, .op (.mv (.c (.int .i64 1)))⟩])
    .skip))
  (.cut (.seq (.ops [⟨some 26, none, .op (.mv (.t 1))⟩,
    ⟨some 27, none, .op (.mv (.t 5))⟩,
    ⟨some 28, none, .op (.callF 27 [(.t 26), (.t 27), (.c (.int .i64 1))])⟩])
  (.seq (.ops [⟨some 29, none, .op (.mv (.t 1))⟩,
    ⟨some 30, none, .op (.mv (.t 4))⟩,
    ⟨some 31, none, .op (.lenS (.t 30))⟩,
    ⟨some 32, none, .op (.callF 27 [(.t 29), (.t 31), (.c (.int .i64 1))])⟩])
  (.seq (.ops [⟨some 33, none, .op (.mv (.t 1))⟩,
    ⟨some 34, none, .op (.fieldAddr 3 (.t 2))⟩,
    ⟨some 35, none, .op (.load false 1 (.t 34))⟩,
    ⟨some 36, none, .op (.lenL (.t 35))⟩,
    ⟨some 37, none, .op (.callF 27 [(.t 33), (.t 36), (.c (.int .i64 2))])⟩])
  (.seq (.ops [⟨some 38, none, .op (.mv (.t 1))⟩,
    ⟨some 39, none, .op (.nilCheck (.t 38))⟩,
    ⟨some 40, none, .op (.fieldAddr 0 (.t 39))⟩,
    ⟨some 41, none, .op (.mv (.t 4))⟩,
    ⟨some 42, none, .op (.callF 29 [(.t 40), (.t 41)])⟩])
  (.seq (.ops [⟨some 6, none, .op (.alloc 68 [.nilp, (.lst 0 [] true)])⟩])
  (.seq (.draw [(⟨some 43, none, .op (.mv (.t 1))⟩, 0),
    (⟨some 44, none, .op (.nilCheck (.t 43))⟩, 0),
    (⟨some 45, none, .op (.fieldAddr 0 (.t 44))⟩, 0),
    (⟨some 47, none, .op (.fieldAddr 3 (.t 2))⟩, 0),
    (⟨some 48, none, .op (.load false 1 (.t 47))⟩, 1),
    (⟨some 49, none, .op (.lenL (.t 48))⟩, 0),
    (⟨some 50, none, .op (.bin .mul (.c (.int .i64 2)) (.t 49))⟩, 0),
    (⟨some 46, none, .op (.callF 31 [(.t 45)])⟩, 2),
    (⟨some 51, none, .op (.bin .add (.t 46) (.t 50))⟩, 0),
    (⟨some 7, none, .op (.mv (.t 51))⟩, 0)])
  (.seq (.seq (.ops [⟨some 52, none, .op (.fieldAddr 3 (.t 2))⟩,
    ⟨some 53, none, .op (.load false 1 (.t 52))⟩,
    ⟨some 54, none, .op (.lenL (.t 53))⟩,
    ⟨some 55, none, .op (.mv (.c (.int .i64 0)))⟩])
  (.block 0
    (.loop
      (.seq (.ops [⟨some 56, none, .op (.bin .lss (.t 55) (.t 54))⟩])
      (.seq (.cond (.t 56)
        .skip
        (.exit 0))
      (.seq (.block 1
        (.seq (.ops [⟨some 57, none, .op (.mv (.t 55))⟩,
          ⟨some 58, none, .op (.indexAddrL 22 (.t 53) (.t 55))⟩,
          ⟨some 59, none, .op (.load true 22 (.t 58))⟩,
          ⟨some 9, none, .op (.alloc 51 [(.str []), (.str []), (.int .i64 0), (.int .i64 0), (.int .i64 0), (.int .i64 0), (.int .u8 0), (.int .u8 0), (.int .u8 0), (.int .u8 0), (.int .u8 0), (.int .u8 0), (.int .u8 0), (.int .u8 0), (.int .u8 0), (.int .u8 0), (.int .u8 0), (.int .u8 0), (.int .u8 0), (.int .u8 0), (.int .u8 0), (.int .u8 0)])⟩,
          ⟨some 8, none, .op (.mv (.t 57))⟩,
          ⟨none, none, .op (.store 22 (.t 9) (.t 59))⟩])
        (.seq (.ops [⟨some 60, none, .op (.mv (.t 1))⟩,
          ⟨some 61, none, .op (.mv (.t 7))⟩,
          ⟨some 62, none, .op (.fieldAddr 0 (.t 6))⟩,
          ⟨some 63, none, .op (.callF 31 [(.t 62)])⟩,
          ⟨some 64, none, .op (.bin .add (.t 61) (.t 63))⟩,
          ⟨some 65, none, .op (.callF 27 [(.t 60), (.t 64), (.c (.int .i64 2))])⟩])
        (.seq (.ops [⟨some 66, none, .op (.mv (.t 4))⟩,
          ⟨some 67, none, .op (.lenS (.t 66))⟩,
          ⟨some 10, none, .op (.mv (.t 67))⟩])
        (.seq (.seq (.ops [⟨some 68, none, .op (.mv (.t 8))⟩,
          ⟨some 69, none, .op (.bin .eql (.t 68) (.c (.int .i64 0)))⟩,
          ⟨some 70, none, .op (.mv (.t 69))⟩,
          ⟨some 71, some (70, true), .op (.fieldAddr 1 (.t 2))⟩,
          ⟨some 72, some (70, true), .op (.load false 1 (.t 71))⟩,
          ⟨some 73, some (70, true), .op (.bin .gtr (.t 72) (.c (.int .i64 0)))⟩,
          ⟨some 74, none, .op (.pick (.t 70) (.t 73) (.c (.bool false)))⟩])
        (.cond (.t 74)
          (.ops [⟨some 10, none, .op (.mv (.c (.int .i64 0)))⟩])
          .skip))
        (.cut (.ops [⟨some 75, none, .op (.load true 4 (.t 2))⟩,
          ⟨some 76, none, .op (.load true 22 (.t 9))⟩,
          ⟨some 77, none, .op (.mv (.t 10))⟩,
          ⟨some 78, none, .op (.callF 101 [(.t 75), (.t 6), (.t 76), (.t 77)])⟩])))))))
      (.cut (.ops [⟨some 79, none, .op (.bin .add (.t 55) (.c (.int .i64 1)))⟩,
        ⟨some 55, none, .op (.mv (.t 79))⟩]))))))))
  (.cut (.draw [(⟨some 80, none, .op (.mv (.t 1))⟩, 0),
    (⟨some 81, none, .op (.nilCheck (.t 80))⟩, 0),
    (⟨some 82, none, .op (.fieldAddr 0 (.t 81))⟩, 0),
    (⟨some 83, none, .op (.fieldAddr 0 (.t 6))⟩, 0),
    (⟨some 84, none, .op (.callF 33 [(.t 83)])⟩, 2),
    (⟨some 85, none, .op (.callF 29 [(.t 82), (.t 84)])⟩, 2)]))))))))))))))))
theorem F100 : FI 100 2 86 7 [] c100 := ⟨⟨Try.f100, Try.func100, by kernel_rfl, by kernel_rfl, by kernel_rfl⟩, by kernel_rfl, by decide, by kernel_rfl⟩
/- f98 (understory/page.piece).write: 19 temporaries, depth 5, 2 parameters, results [] -/
def c98 : RC :=
  (.seq (.ops [⟨some 2, none, .op (.box 111 (.t 0))⟩])
  (.seq (.ops [⟨some 4, none, .op (.mv (.t 1))⟩,
    ⟨some 5, none, .op (.fieldAddr 0 (.t 2))⟩,
    ⟨some 6, none, .op (.load false 1 (.t 5))⟩,
    ⟨some 7, none, .op (.callF 27 [(.t 4), (.t 6), (.c (.int .i64 4))])⟩])
  (.seq (.ops [⟨some 8, none, .op (.mv (.t 1))⟩,
    ⟨some 9, none, .op (.fieldAddr 1 (.t 2))⟩,
    ⟨some 10, none, .op (.load false 1 (.t 9))⟩,
    ⟨some 11, none, .op (.lenS (.t 10))⟩,
    ⟨some 12, none, .op (.callF 27 [(.t 8), (.t 11), (.c (.int .i64 2))])⟩])
  (.draw [(⟨some 13, none, .op (.mv (.t 1))⟩, 0),
    (⟨some 14, none, .op (.nilCheck (.t 13))⟩, 0),
    (⟨some 15, none, .op (.fieldAddr 0 (.t 14))⟩, 0),
    (⟨some 16, none, .op (.fieldAddr 1 (.t 2))⟩, 0),
    (⟨some 17, none, .op (.load false 1 (.t 16))⟩, 1),
    (⟨some 18, none, .op (.callF 29 [(.t 15), (.t 17)])⟩, 2)]))))
theorem F98 : FI 98 2 19 5 [] c98 := ⟨⟨Try.f98, Try.func98, by kernel_rfl, by kernel_rfl, by kernel_rfl⟩, by kernel_rfl, by decide, by kernel_rfl⟩
/- f99 (understory/page.list).write: 45 temporaries, depth 6, 2 parameters, results [] -/
def c99 : RC :=
  (.seq (.ops [⟨some 2, none, .op (.box 113 (.t 0))⟩])
  (.seq (.ops [⟨some 8, none, .op (.mv (.t 1))⟩,
    ⟨some 9, none, .op (.fieldAddr 0 (.t 2))⟩,
    ⟨some 10, none, .op (.load false 1 (.t 9))⟩,
    ⟨some 11, none, .op (.callF 27 [(.t 8), (.t 10), (.c (.int .i64 4))])⟩])
  (.seq (.ops [⟨some 12, none, .op (.mv (.t 1))⟩,
    ⟨some 13, none, .op (.fieldAddr 1 (.t 2))⟩,
    ⟨some 14, none, .op (.load false 1 (.t 13))⟩,
    ⟨some 15, none, .op (.lenL (.t 14))⟩,
    ⟨some 16, none, .op (.callF 27 [(.t 12), (.t 15), (.c (.int .i64 2))])⟩])
  (.seq (.ops [⟨some 17, none, .op (.fieldAddr 1 (.t 2))⟩,
    ⟨some 18, none, .op (.load false 1 (.t 17))⟩,
    ⟨some 19, none, .op (.lenL (.t 18))⟩,
    ⟨some 20, none, .op (.mv (.c (.int .i64 0)))⟩])
  (.block 0
    (.loop
      (.seq (.ops [⟨some 21, none, .op (.bin .lss (.t 20) (.t 19))⟩])
      (.seq (.cond (.t 21)
        .skip
        (.exit 0))
      (.seq (.block 1
        (.seq (.ops [⟨some 22, none, .op (.indexAddrL 2 (.t 18) (.t 20))⟩,
          ⟨some 23, none, .op (.load true 2 (.t 22))⟩,
          ⟨some 5, none, .op (.alloc 109 [(.int .i64 0), (.lst 0 [] true)])⟩,
          ⟨none, none, .op (.store 2 (.t 5) (.t 23))⟩])
        (.seq (.ops [⟨some 24, none, .op (.mv (.t 1))⟩,
          ⟨some 25, none, .op (.fieldAddr 0 (.t 5))⟩,
          ⟨some 26, none, .op (.load false 1 (.t 25))⟩,
          ⟨some 27, none, .op (.callF 27 [(.t 24), (.t 26), (.c (.int .i64 6))])⟩])
        (.seq (.ops [⟨some 28, none, .op (.mv (.t 1))⟩,
          ⟨some 29, none, .op (.fieldAddr 1 (.t 5))⟩,
          ⟨some 30, none, .op (.load false 1 (.t 29))⟩,
          ⟨some 31, none, .op (.lenL (.t 30))⟩,
          ⟨some 32, none, .op (.callF 27 [(.t 28), (.t 31), (.c (.int .i64 2))])⟩])
        (.seq (.ops [⟨some 33, none, .op (.fieldAddr 1 (.t 5))⟩,
          ⟨some 34, none, .op (.load false 1 (.t 33))⟩,
          ⟨some 35, none, .op (.lenL (.t 34))⟩,
          ⟨some 36, none, .op (.mv (.c (.int .i64 0)))⟩])
        (.block 2
          (.loop
            (.seq (.ops [⟨some 37, none, .op (.bin .lss (.t 36) (.t 35))⟩])
            (.seq (.cond (.t 37)
              .skip
              (.exit 2))
            (.seq (.block 3
              (.seq (.ops [⟨some 38, none, .op (.indexAddrL 1 (.t 34) (.t 36))⟩,
                ⟨some 39, none, .op (.load false 1 (.t 38))⟩,
                ⟨some 7, none, .op (.mv (.t 39))⟩])
              (.ops [⟨some 40, none, .op (.mv (.t 1))⟩,
                ⟨some 41, none, .op (.mv (.t 7))⟩,
                ⟨some 42, none, .op (.callF 27 [(.t 40), (.t 41), (.c (.int .i64 4))])⟩])))
            (.ops [⟨some 43, none, .op (.bin .add (.t 36) (.c (.int .i64 1)))⟩,
              ⟨some 36, none, .op (.mv (.t 43))⟩])))))))))))
      (.cut (.ops [⟨some 44, none, .op (.bin .add (.t 20) (.c (.int .i64 1)))⟩,
        ⟨some 20, none, .op (.mv (.t 44))⟩])))))))))))
theorem F99 : FI 99 2 45 6 [] c99 := ⟨⟨Try.f99, Try.func99, by kernel_rfl, by kernel_rfl, by kernel_rfl⟩, by kernel_rfl, by decide, by kernel_rfl⟩
end Go.Proofs
/- Contracts: entries, pieces and lists that are written into a builder. -/
set_option linter.unusedVariables false
set_option linter.unusedSimpArgs false
namespace Go.Proofs
open Go Go.Abs

theorem Wrote.keep {h h' : AHeap} {b x : Nat} {F F' : List Nat} {s : Str} {v : AB} (w : Wrote h h' b F F' s) (hx : h[x]? = some v) (hn : x ∉ F) : h'[x]? = some v ∧ x ∉ F' := by
  have hl := lt_of_get hx
  refine ⟨by rw [w.2.1.2 x hl hn]; exact hx, fun hf => ?_⟩
  rcases w.2.2 x hf with h | h
  · exact hn h
  · omega
theorem BW.app {h : AHeap} {b : Nat} {F : List Nat} {s : Str} (w : BW h b s F) (x : AB) : BW (h ++ [x]) b s F ∧ (h ++ [x])[h.length]? = some x ∧ h.length ∉ F :=
  ⟨w.stays (Keep.app h x []) (by simp), get_last _ _, fun hf => by have := w.lt _ hf; omega⟩
theorem get_app {h : AHeap} {i : Nat} {v x : AB} (hi : h[i]? = some v) : (h ++ [x])[i]? = some v := by rw [List.getElem?_append_left (lt_of_get hi)]; exact hi
/-- What was written since. -/
def Since (h0 h : AHeap) (b : Nat) (F0 F : List Nat) (s : Str) : Prop := Wrote h0 h b F0 F s
theorem Wrote.of_app {h h' : AHeap} {b : Nat} {F F' : List Nat} {s : Str} {x : AB} (w : Wrote (h ++ [x]) h' b F F' s) : Wrote h h' b F F' s :=
  ⟨w.1, ((Keep.app h x []).mono (by simp)).trans w.2.1 (fun x hx => .inl hx), fun y hy => (w.2.2 y hy).imp id fun h => by simp at h; omega⟩

section
variable {n : Nat} {hp : AHeap} {b : Nat} {bs : Str} {F : List Nat} {K X : AV → AHeap → Prop}
theorem numC (hn : 3 ≤ n) (w : BW hp b bs F) (k : Int) (h0 : 0 ≤ k) (wd : Nat) (hw : wd ≤ 8) (hl : bs.length + wd ≤ 1073741824) (hk : ∀ hp' F', Wrote hp hp' b F F' (bs ++ num k.toNat wd) → K (.tup []) hp') :
    ∃ r h', C n 27 [.ptr b 0 0, i64 k, i64 wd] hp = some (r, h') ∧ WpR K X h' r := by
  obtain ⟨q, rfl⟩ := Int.eq_ofNat_of_zero_le h0
  obtain ⟨hp', F', e, h⟩ := number_eq hn w q wd hw hl
  exact clI e (hk hp' F' h)
theorem sumC (hn : 3 ≤ n) (w : BW hp b bs F) (d : Dg) (hl : bs.length + 16 ≤ 1073741824) (hk : ∀ hp' F', Wrote hp hp' b F F' (bs ++ d.bytes) → K (.tup []) hp') :
    ∃ r h', C n 102 [.ptr b 0 0, .agg d.cells] hp = some (r, h') ∧ WpR K X h' r := by
  obtain ⟨hp', F', e, h⟩ := wsum_eq hn w d hl
  exact clI e (hk hp' F' h)
theorem strC (hn : 2 ≤ n) (w : BW hp b bs F) (s : Str) (hl : bs.length + s.length ≤ 1073741824) (hk : ∀ hp' F', Wrote hp hp' b F F' (bs ++ s) → K (.tup [i64 s.length, .nili]) hp') :
    ∃ r h', C n 29 [.ptr b 0 0, .str s] hp = some (r, h') ∧ WpR K X h' r := by
  obtain ⟨hp', F', e, h⟩ := WriteString_eq hn w s hl
  exact clI e (hk hp' F' h)
theorem byteC (hn : 2 ≤ n) (w : BW hp b bs F) (c : UInt8) (hl : bs.length + 1 ≤ 1073741824) (hk : ∀ hp' F', Wrote hp hp' b F F' (bs ++ [c]) → K .nili hp') :
    ∃ r h', C n 26 [.ptr b 0 0, u8 c] hp = some (r, h') ∧ WpR K X h' r := by
  obtain ⟨hp', F', e, h⟩ := WriteByte_eq hn w c hl
  exact clI e (hk hp' F' h)

def restB (e : Entry) (lv : Int) : Str :=
  if 0 < lv then num e.child.toNat 4 ++ (num e.count.toNat 4 ++ e.sum.bytes)
  else if 0 < e.over then num 65535 2 ++ (num e.over.toNat 4 ++ (num e.len.toNat 2 ++ e.sum.bytes))
  else if 0 < e.child then num 65534 2 ++ (num e.child.toNat 4 ++ (num e.count.toNat 4 ++ e.sum.bytes))
  else num e.val.length 2 ++ e.val
def entB (c : Nat) (e : Entry) (lv : Int) : Str := num (e.key.length - c) 1 ++ (e.key.drop c ++ restB e lv)
def Entry.Nn (e : Entry) : Prop := 0 ≤ e.over ∧ 0 ≤ e.len ∧ 0 ≤ e.child ∧ 0 ≤ e.count
theorem restB_len (e : Entry) (lv : Int) : (restB e lv).length ≤ 26 + e.val.length := by
  unfold restB
  repeat' split
  all_goals simp [num_len, Dg.bytes_len]
  all_goals omega

theorem entry_eq (hn : 4 ≤ n) (w : BW hp b bs F) (xs : List AV) (lv : Int) (hx : xs[1]? = some (i64 lv)) (hs : AV.cells? (.agg xs) = some xs) (e : Entry) (hN : e.Nn) (c : Nat) (hc : c ≤ e.key.length) (hl : bs.length + e.key.length + e.val.length + 32 ≤ 1073741824) :
    ∃ hp' F', C n 101 [.agg xs, .ptr b 0 0, e.av, i64 c] hp = some (.ret (.tup []), hp') ∧ Wrote hp hp' b F F' (bs ++ entB c e lv) := by
  obtain ⟨m, rfl⟩ : ∃ m, n = m + 1 := ⟨n - 1, by omega⟩
  have hR := restB_len e lv
  have := fun_inlR (n := m) (c := cfg0) (args := [.agg xs, .ptr b 0 0, e.av, i64 c]) (h := hp) (R := fun v hp' => v = .tup [] ∧ ∃ F', Wrote hp hp' b F F' (bs ++ entB c e lv)) F101 rfl rfl ?_
  · obtain ⟨v, hp', e, rfl, F', hW⟩ := this
    exact ⟨hp', F', e, hW⟩
  obtain ⟨w0, x0, nx0⟩ := w.app (.cells 0 (some 115) xs 0)
  obtain ⟨w1, e1, ne1⟩ := w0.app (.cells 0 (some 51) e.cells 0)
  have x1 := get_app (x := .cells 0 (some 51) e.cells 0) x0
  have hk : (e.key.drop c).length = e.key.length - c := by simp
  unfold Entry.Nn at hN
  conv => whnf
  rw [hs]
  conv => whnf
  refine ldI e1 ?_
  conv => whnf
  refine zI (z := (e.key.length : Int) - c) (wrap_i64 (by omega) (by omega)) ?_
  conv => whnf
  refine numC (by omega) w1 ((e.key.length : Int) - c) (by omega) 1 (by omega) (by omega) fun h2 F2 w2 => ?_
  obtain ⟨x2, nx2⟩ := w2.keep x1 nx0
  have e2 := (w2.keep e1 ne1).1
  have ne2 := (w2.keep e1 ne1).2
  conv => whnf
  refine ldI e2 ?_
  conv => whnf
  refine ss_lo hc ?_
  conv => whnf
  refine strC (hp := h2) (by omega) w2.1 (e.key.drop c) (by simp only [List.length_append, num_len, hk, Dg.bytes_len]; omega) fun h3 F3 w3 => ?_
  obtain ⟨x3, nx3⟩ := w3.keep x2 nx2
  have e3 := (w3.keep e2 ne2).1
  have ne3 := (w3.keep e2 ne2).2
  conv => whnf
  refine ⟨⟨?_, ?_⟩, ?_⟩
  · conv => whnf
    refine ss_lo hc ?_
    rfl
  · conv => whnf
    exact ldI e3 rfl
  conv => whnf
  refine ldI x3 ?_
  refine wpartI hx ?_
  have fin : ∀ {h' : AHeap} {F' : List Nat} {t : Str}, Wrote hp h' b F F' t → t = bs ++ entB c e lv → ∃ F', Wrote hp h' b F F' (bs ++ entB c e lv) := fun w q => ⟨_, q ▸ w⟩
  have w3' := (w2.trans w3).of_app.of_app
  have hk1 : (e.key.drop c).length = e.key.length - c := by simp
  have hk2 : ((e.key.length : Int) - c).toNat = e.key.length - c := by omega
  conv => whnf
  refine brd (fun a => ?_) (fun a => ?_)
  · conv => whnf
    refine ldI e3 ?_
    conv => whnf
    refine numC (n := m) (hp := h3) (by omega) w3.1 _ (by omega) 4 (by omega) (by simp only [List.length_append, num_len, hk, Dg.bytes_len]; omega) fun h4 F4 w4 => ?_
    have e4 := (w4.keep e3 ne3).1
    have ne4 := (w4.keep e3 ne3).2
    conv => whnf
    refine ldI e4 ?_
    conv => whnf
    refine numC (n := m) (hp := h4) (by omega) w4.1 _ (by omega) 4 (by omega) (by simp only [List.length_append, num_len, hk, Dg.bytes_len]; omega) fun h5 F5 w5 => ?_
    have e5 := (w5.keep e4 ne4).1
    have ne5 := (w5.keep e4 ne4).2
    conv => whnf
    refine ldI e5 ?_
    conv => whnf
    refine sumC (n := m) (hp := h5) (by omega) w5.1 e.sum (by simp only [List.length_append, num_len, hk, Dg.bytes_len]; omega) fun h6 F6 w6 => ?_
    refine ⟨rfl, [], rfl, rfl, fin (w3'.trans (w4.trans (w5.trans w6))) ?_⟩
    simp [entB, restB, a, hk2, List.append_assoc]
  · conv => whnf
    refine ldI e3 ?_
    conv => whnf
    refine brd (fun d => ?_) (fun d => ?_)
    · conv => whnf
      refine numC (n := m) (hp := h3) (by omega) w3.1 65535 (by omega) 2 (by omega) (by simp only [List.length_append, num_len, hk, Dg.bytes_len]; omega) fun h4 F4 w4 => ?_
      have e4 := (w4.keep e3 ne3).1
      have ne4 := (w4.keep e3 ne3).2
      conv => whnf
      refine ldI e4 ?_
      conv => whnf
      refine numC (n := m) (hp := h4) (by omega) w4.1 _ (by omega) 4 (by omega) (by simp only [List.length_append, num_len, hk, Dg.bytes_len]; omega) fun h5 F5 w5 => ?_
      have e5 := (w5.keep e4 ne4).1
      have ne5 := (w5.keep e4 ne4).2
      conv => whnf
      refine ldI e5 ?_
      conv => whnf
      refine numC (n := m) (hp := h5) (by omega) w5.1 _ (by omega) 2 (by omega) (by simp only [List.length_append, num_len, hk, Dg.bytes_len]; omega) fun h6 F6 w6 => ?_
      have e6 := (w6.keep e5 ne5).1
      have ne6 := (w6.keep e5 ne5).2
      conv => whnf
      refine ldI e6 ?_
      conv => whnf
      refine sumC (n := m) (hp := h6) (by omega) w6.1 e.sum (by simp only [List.length_append, num_len, hk, Dg.bytes_len]; omega) fun h7 F7 w7 => ?_
      refine ⟨rfl, [], rfl, rfl, fin (w3'.trans (w4.trans (w5.trans (w6.trans w7)))) ?_⟩
      simp [entB, restB, a, d, hk2, List.append_assoc]
    · conv => whnf
      refine ldI e3 ?_
      conv => whnf
      refine brd (fun f => ?_) (fun f => ?_)
      · conv => whnf
        refine numC (n := m) (hp := h3) (by omega) w3.1 65534 (by omega) 2 (by omega) (by simp only [List.length_append, num_len, hk, Dg.bytes_len]; omega) fun h4 F4 w4 => ?_
        have e4 := (w4.keep e3 ne3).1
        have ne4 := (w4.keep e3 ne3).2
        conv => whnf
        refine ldI e4 ?_
        conv => whnf
        refine numC (n := m) (hp := h4) (by omega) w4.1 _ (by omega) 4 (by omega) (by simp only [List.length_append, num_len, hk, Dg.bytes_len]; omega) fun h5 F5 w5 => ?_
        have e5 := (w5.keep e4 ne4).1
        have ne5 := (w5.keep e4 ne4).2
        conv => whnf
        refine ldI e5 ?_
        conv => whnf
        refine numC (n := m) (hp := h5) (by omega) w5.1 _ (by omega) 4 (by omega) (by simp only [List.length_append, num_len, hk, Dg.bytes_len]; omega) fun h6 F6 w6 => ?_
        have e6 := (w6.keep e5 ne5).1
        have ne6 := (w6.keep e5 ne5).2
        conv => whnf
        refine ldI e6 ?_
        conv => whnf
        refine sumC (n := m) (hp := h6) (by omega) w6.1 e.sum (by simp only [List.length_append, num_len, hk, Dg.bytes_len]; omega) fun h7 F7 w7 => ?_
        refine ⟨rfl, [], rfl, rfl, fin (w3'.trans (w4.trans (w5.trans (w6.trans w7)))) ?_⟩
        simp [entB, restB, a, d, f, hk2, List.append_assoc]
      · conv => whnf
        refine ldI e3 ?_
        conv => whnf
        refine numC (n := m) (hp := h3) (by omega) w3.1 _ (by omega) 2 (by omega) (by simp only [List.length_append, num_len, hk, Dg.bytes_len]; omega) fun h4 F4 w4 => ?_
        have e4 := (w4.keep e3 ne3).1
        have ne4 := (w4.keep e3 ne3).2
        conv => whnf
        refine ldI e4 ?_
        conv => whnf
        refine strC (hp := h4) (by omega) w4.1 e.val (by simp only [List.length_append, num_len, hk, Dg.bytes_len]; omega) fun h5 F5 w5 => ?_
        have e5 := (w5.keep e4 ne4).1
        have ne5 := (w5.keep e4 ne4).2
        conv => whnf
        refine ⟨?_, ?_⟩
        · conv => whnf
          exact ldI e5 rfl
        refine ⟨rfl, [], rfl, rfl, fin (w3'.trans (w4.trans w5)) ?_⟩
        simp [entB, restB, a, d, f, hk2, List.append_assoc]
end
end Go.Proofs
/- Contracts: a reader of strings. -/
set_option linter.unusedVariables false
set_option linter.unusedSimpArgs false
namespace Go.Proofs
open Go Go.Abs
abbrev tRdr : Nat := 128
def badV : AV := .ifc 131 (.agg [])
/-- A reader in memory: what it has yet to read. -/
def RDs (hp : AHeap) (b : Nat) (s : Str) : Prop := ∃ (all : Str) (at' : Nat), hp[b]? = some (.cells 0 (some tRdr) [.str all, i64 at'] 0) ∧ at' ≤ all.length ∧ all.length < 1073741824 ∧ all.drop at' = s
theorem RDs.stays {hp hp' : AHeap} {b : Nat} {s : Str} {F : List Nat} (r : RDs hp b s) (k : Keep hp hp' F) (hb : b ∉ F) : RDs hp' b s := by
  obtain ⟨all, a, h1, h2, h3, h4⟩ := r
  exact ⟨all, a, by rw [k.2 b (lt_of_get h1) hb]; exact h1, h2, h3, h4⟩
theorem RDs.lt {hp : AHeap} {b : Nat} {s : Str} (r : RDs hp b s) : b < hp.length := by
  obtain ⟨all, a, h1, _⟩ := r; exact lt_of_get h1
theorem RDs.len {hp : AHeap} {b : Nat} {s : Str} (r : RDs hp b s) : s.length < 1073741824 := by
  obtain ⟨all, a, h1, h2, h3, rfl⟩ := r
  simp; omega
theorem Keep.get {h h' : AHeap} {F : List Nat} {x : Nat} {v : AB} (k : Keep h h' F) (hx : h[x]? = some v) (hn : x ∉ F) : h'[x]? = some v := by
  rw [k.2 x (lt_of_get hx) hn]; exact hx
section
variable {n : Nat} {hp : AHeap} {b : Nat} {s : Str} {K X : AV → AHeap → Prop}
theorem text_ok (hn : 1 ≤ n) (r : RDs hp b s) (k : Nat) (hk : k ≤ s.length) : ∃ hp', C n 73 [.ptr b 0 0, i64 k] hp = some (.ret (.str (s.take k)), hp') ∧ RDs hp' b (s.drop k) ∧ Keep hp hp' [b] := by
  obtain ⟨m, rfl⟩ : ∃ m, n = m + 1 := ⟨n - 1, by omega⟩
  obtain ⟨all, a, h1, h2, h3, rfl⟩ := r
  rw [List.length_drop] at hk
  refine ⟨hp.set b (.cells 0 (some tRdr) [.str all, i64 ((a + k : Nat))] 0), ?_, ⟨all, a + k, by rw [List.getElem?_set_self (lt_of_get h1)], by omega, h3, by rw [List.drop_drop]⟩, Keep.set (by simp)⟩
  refine fun_inl F73 rfl rfl ?_
  conv => whnf
  refine ldI h1 ?_
  conv => whnf
  refine ldI h1 ?_
  conv => whnf
  refine zI (z := (all.length : Int) - a) (wrap_i64 (by omega) (by omega)) ?_
  conv => whnf
  refine brd (fun q => absurd q (by omega)) (fun _ => ?_)
  conv => whnf
  refine ldI h1 ?_
  conv => whnf
  refine ldI h1 ?_
  conv => whnf
  refine ldI h1 ?_
  conv => whnf
  refine zI (z := ((a + k : Nat) : Int)) (by rw [wrap_i64 (by omega) (by omega)]; rfl) ?_
  conv => whnf
  refine ss_lh (by omega) (by omega) ?_
  conv => whnf
  refine ldI h1 ?_
  conv => whnf
  refine zI (z := ((a + k : Nat) : Int)) (by rw [wrap_i64 (by omega) (by omega)]; rfl) ?_
  conv => whnf
  refine stI h1 (by rfl) (by rfl) (by rfl) (by rfl) ?_
  refine ⟨rfl, [.str ((all.take (a + k)).drop a)], rfl, ?_, rfl⟩
  show AV.str _ = AV.str _
  rw [List.drop_take, Nat.add_sub_cancel_left]
theorem text_bad (hn : 1 ≤ n) (r : RDs hp b s) (k : Nat) (hk : s.length < k) (hk2 : k < 1099511627776) : C n 73 [.ptr b 0 0, i64 k] hp = some (.pan badV, hp) := by
  obtain ⟨m, rfl⟩ : ∃ m, n = m + 1 := ⟨n - 1, by omega⟩
  obtain ⟨all, a, h1, h2, h3, rfl⟩ := r
  rw [List.length_drop] at hk
  have := fun_inlE (n := m) (c := cfg0) (args := [.ptr b 0 0, i64 k]) (h := hp) (R := fun r h => r = .pan badV ∧ h = hp) F73 rfl rfl ?_
  · obtain ⟨r, h', e, rfl, rfl⟩ := this; exact e
  conv => whnf
  refine ldI h1 ?_
  conv => whnf
  refine ldI h1 ?_
  conv => whnf
  refine zI (z := (all.length : Int) - a) (wrap_i64 (by omega) (by omega)) ?_
  conv => whnf
  refine brd (fun _ => ?_) (fun q => absurd (by omega) q)
  conv => whnf
  exact ⟨rfl, rfl⟩
theorem textC (hn : 1 ≤ n) (r : RDs hp b s) (k : Nat) (hk2 : k < 1099511627776) (ok : ∀ hp', k ≤ s.length → RDs hp' b (s.drop k) → Keep hp hp' [b] → K (.str (s.take k)) hp') (bad : s.length < k → X badV hp) :
    ∃ r h', C n 73 [.ptr b 0 0, i64 k] hp = some (r, h') ∧ WpR K X h' r := by
  by_cases hk : k ≤ s.length
  · obtain ⟨hp', e, g1, g2⟩ := text_ok hn r k hk
    exact clI e (ok hp' hk g1 g2)
  · exact clP (text_bad hn r k (by omega) hk2) (bad (by omega))

def unnum (s : Str) : Nat := s.foldl (fun n b => n * 256 + b.toNat) 0
theorem unnum_app (s : Str) (c : UInt8) : unnum (s ++ [c]) = unnum s * 256 + c.toNat := by simp [unnum]
theorem unnum_lt : ∀ (k : Nat) (s : Str), s.length = k → unnum s < 256 ^ k
  | 0, s, h => by have := List.length_eq_zero_iff.1 h; subst this; simp [unnum]
  | k + 1, s, h => by
    obtain ⟨t, c, rfl⟩ : ∃ t c, s = t ++ [c] := ⟨s.dropLast, s.getLast (by intro e; subst e; simp at h), (List.dropLast_concat_getLast _).symm⟩
    have := unnum_lt k t (by simpa using h)
    have hc := c.toNat_lt
    rw [unnum_app, Nat.pow_succ]
    omega
theorem or_byte (x : Nat) (c : UInt8) (hx : x < 36028797018963968) : IntKind.i64.wrap (BitVec.ofInt IntKind.i64.bits ((x * 256 : Nat) : Int) ||| BitVec.ofInt IntKind.i64.bits ((c.toNat : Nat) : Int)).toNat = ((x * 256 + c.toNat : Nat) : Int) := by
  have hc := c.toNat_lt
  have e : (BitVec.ofInt 64 ((x * 256 : Nat) : Int) ||| BitVec.ofInt 64 ((c.toNat : Nat) : Int)).toNat = x * 256 + c.toNat := by
    rw [BitVec.toNat_or, BitVec.ofInt_natCast, BitVec.ofInt_natCast, BitVec.toNat_ofNat, BitVec.toNat_ofNat, Nat.mod_eq_of_lt (by omega), Nat.mod_eq_of_lt (by omega)]
    have := Nat.shiftLeft_add_eq_or_of_lt (show c.toNat < 2 ^ 8 by omega) x
    rw [Nat.shiftLeft_eq] at this
    exact this.symm
  show IntKind.i64.wrap ((BitVec.ofInt 64 ((x * 256 : Nat) : Int) ||| BitVec.ofInt 64 ((c.toNat : Nat) : Int)).toNat : Int) = _
  rw [e]
  exact wrap_i64 (by omega) (by omega)
theorem shl_byte (x : Nat) (hx : x < 36028797018963968) : IntKind.i64.wrap ((x : Int) * 2 ^ (min (8 : Int).toNat IntKind.i64.bits)) = ((x * 256 : Nat) : Int) := by
  have : min (8 : Int).toNat IntKind.i64.bits = 8 := by decide
  rw [this, wrap_i64 (by omega) (by omega)]
  omega

theorem rnum_ok (hn : 2 ≤ n) (r : RDs hp b s) (w : Nat) (hw : w ≤ 6) (hk : w ≤ s.length) : ∃ hp', C n 61 [.ptr b 0 0, i64 w] hp = some (.ret (i64 (unnum (s.take w))), hp') ∧ RDs hp' b (s.drop w) ∧ Keep hp hp' [b] := by
  obtain ⟨m, rfl⟩ : ∃ m, n = m + 1 := ⟨n - 1, by omega⟩
  obtain ⟨h1, e1, r1, k1⟩ := text_ok (n := m) (by omega) r w hk
  have ht : (s.take w).length = w := by rw [List.length_take]; omega
  refine ⟨h1 ++ [.cells 0 none ((s.take w).map u8) 0], ?_, r1.stays (Keep.app h1 _ []) (by simp), k1.trans ((Keep.app h1 _ []).mono (by simp)) (fun x hx => .inl hx)⟩
  refine fun_inl F61 rfl rfl ?_
  conv => whnf
  refine clI e1 ?_
  conv => whnf
  refine loopI (by decide) rfl (α := Nat) (fun j => ⟨[(5, i64 (unnum ((s.take w).take j))), (11, .sl 1 h1.length 0 0 (s.take w).length), (12, i64 (s.take w).length), (13, i64 j)], h1 ++ [.cells 0 none ((s.take w).map u8) 0], []⟩) (fun j => j ≤ w) (fun j => w - j) 0 ⟨⟨rfl, rfl, rfl, rfl⟩, rfl, rfl⟩ (Nat.zero_le _) (by show w - 0 < KK; simp only [KK]; omega) ?_
  intro j hj
  conv => whnf
  refine brd (fun a => ?_) (fun a => ?_)
  · have hjw : j < w := by omega
    have hjt : j < (s.take w).length := by omega
    have hb := unnum_lt j ((s.take w).take j) (by rw [List.length_take]; omega)
    have hb2 : 256 ^ j ≤ 256 ^ 5 := Nat.pow_le_pow_right (by decide) (by omega)
    have hst : unnum ((s.take w).take j) * 256 + ((s.take w)[j]).toNat = unnum ((s.take w).take (j + 1)) := by
      rw [List.take_succ_eq_append_getElem hjt, unnum_app]
    have hx : unnum ((s.take w).take j) < 36028797018963968 := by
      have : (256 : Nat) ^ 5 = 1099511627776 := by decide
      omega
    conv => whnf
    refine ⟨by omega, by omega, rfl, ?_⟩
    conv => whnf
    refine ldI (get_last _ _) ?_
    refine wpartI (v := u8 ((s.take w)[j])) (by show ((s.take w).map u8)[0 + (j : Int).toNat * 1]? = _; rw [Int.toNat_natCast, Nat.zero_add, Nat.mul_one, List.getElem?_map, List.getElem?_eq_getElem hjt]; rfl) ?_
    conv => whnf
    refine ⟨by decide, _, shl_byte _ hx, ?_⟩
    conv => whnf
    refine zI (z := (((s.take w)[j]).toNat : Int)) (by have := ((s.take w)[j]).toNat_lt; exact wrap_i64 (by omega) (by omega)) ?_
    conv => whnf
    refine zI (or_byte _ _ hx) ?_
    conv => whnf
    refine zI (z := ((j + 1 : Nat) : Int)) (by rw [wrap_i64 (by omega) (by omega)]; rfl) ?_
    exact nxI (j + 1) hjw (by omega) ⟨⟨by rw [← hst]; rfl, rfl, rfl, rfl⟩, rfl, rfl⟩
  · have hjw : j = w := by omega
    subst hjw
    conv => whnf
    refine cutI (by decide) rfl (t := ⟨[(5, i64 (unnum (s.take j)))], h1 ++ [.cells 0 none ((s.take j).map u8) 0], []⟩) ⟨by show some (i64 (unnum ((s.take j).take j))) = _; rw [List.take_take, Nat.min_self], rfl, rfl⟩ ?_
    exact ⟨rfl, [i64 (unnum (s.take j))], rfl, rfl, rfl⟩
theorem rnum_bad (hn : 2 ≤ n) (r : RDs hp b s) (w : Nat) (hw : w ≤ 6) (hk : s.length < w) : C n 61 [.ptr b 0 0, i64 w] hp = some (.pan badV, hp) := by
  obtain ⟨m, rfl⟩ : ∃ m, n = m + 1 := ⟨n - 1, by omega⟩
  have := fun_inlE (n := m) (c := cfg0) (args := [.ptr b 0 0, i64 w]) (h := hp) (R := fun r h => r = .pan badV ∧ h = hp) F61 rfl rfl ?_
  · obtain ⟨r, h', e, rfl, rfl⟩ := this; exact e
  conv => whnf
  refine clP (text_bad (n := m) (by omega) r w hk (by omega)) ?_
  exact ⟨rfl, rfl⟩
theorem rnumC (hn : 2 ≤ n) (r : RDs hp b s) (w : Nat) (hw : w ≤ 6) (ok : ∀ hp', w ≤ s.length → RDs hp' b (s.drop w) → Keep hp hp' [b] → K (i64 (unnum (s.take w))) hp') (bad : s.length < w → X badV hp) :
    ∃ r h', C n 61 [.ptr b 0 0, i64 w] hp = some (r, h') ∧ WpR K X h' r := by
  by_cases hk : w ≤ s.length
  · obtain ⟨hp', e, g1, g2⟩ := rnum_ok hn r w hw hk
    exact clI e (ok hp' hk g1 g2)
  · exact clP (rnum_bad hn r w hw (by omega)) (bad (by omega))
end
end Go.Proofs
/- Contracts: digests that are read. -/
set_option linter.unusedVariables false
set_option linter.unusedSimpArgs false
namespace Go.Proofs
open Go Go.Abs
theorem load_agg {h : AHeap} {t N b ver : Nat} {el : Option TypeId} {cs : List AV} {f : Nat} (ht : (ti Try.prog t).map (fun d => (isAggD d.desc, d.size)) = some (true, N)) (hN : cs.length = N) (hb : h[b]? = some (.cells ver el cs f)) : loadA Try.prog h t (.ptr b ver 0) = some (.agg cs) := by
  obtain ⟨d, h1, h2⟩ := Option.map_eq_some_iff.1 ht
  simp only [Prod.mk.injEq] at h2
  unfold loadA
  simp only [h1, hb, if_true]
  unfold partA
  rw [h2.1, h2.2, ← hN]
  simp
theorem load_one {h : AHeap} {t b ver : Nat} {el : Option TypeId} {v : AV} {f N : Nat} (ht : (ti Try.prog t).map (fun d => (isAggD d.desc, d.size)) = some (false, N)) (hb : h[b]? = some (.cells ver el [v] f)) : loadA Try.prog h t (.ptr b ver 0) = some v := by
  obtain ⟨d, h1, h2⟩ := Option.map_eq_some_iff.1 ht
  simp only [Prod.mk.injEq] at h2
  unfold loadA
  simp only [h1, hb, if_true]
  unfold partA
  rw [h2.1]
  rfl
def dgOf (t : Str) : Dg := ⟨t.getD 0 0, t.getD 1 0, t.getD 2 0, t.getD 3 0, t.getD 4 0, t.getD 5 0, t.getD 6 0, t.getD 7 0, t.getD 8 0, t.getD 9 0, t.getD 10 0, t.getD 11 0, t.getD 12 0, t.getD 13 0, t.getD 14 0, t.getD 15 0⟩
theorem dgOf_bytes : ∀ (t : Str), t.length = 16 → (dgOf t).bytes = t
  | [a0, a1, a2, a3, a4, a5, a6, a7, a8, a9, a10, a11, a12, a13, a14, a15], _ => rfl
theorem dgOf_cells {t : Str} (h : t.length = 16) : (dgOf t).cells = t.map u8 := by rw [Dg.cells_map, dgOf_bytes t h]
theorem dgOf_dg (d : Dg) : dgOf d.bytes = d := rfl
theorem dg_scal (d : Dg) : AV.cells? (.agg d.cells) = some d.cells := rfl
section
variable {n : Nat} {hp : AHeap} {b : Nat} {s : Str} {K X : AV → AHeap → Prop}
theorem rsum_ok (hn : 2 ≤ n) (r : RDs hp b s) (hk : 16 ≤ s.length) : ∃ hp', C n 81 [.ptr b 0 0] hp = some (.ret (.agg (dgOf (s.take 16)).cells), hp') ∧ RDs hp' b (s.drop 16) ∧ Keep hp hp' [b] := by
  obtain ⟨m, rfl⟩ : ∃ m, n = m + 1 := ⟨n - 1, by omega⟩
  have ht : (s.take 16).length = 16 := by rw [List.length_take]; omega
  have k0 : Keep hp (hp ++ [AB.cells 0 (some 49) Dg.zero.cells 0] ++ [AB.cells 0 (some 49) Dg.zero.cells 0]) [] := (Keep.app hp _ []).trans (Keep.app _ _ []) (by simp)
  have hlen : (hp ++ [AB.cells 0 (some 49) Dg.zero.cells 0]).length = hp.length + 1 := by simp
  have d1 : (hp ++ [AB.cells 0 (some 49) Dg.zero.cells 0] ++ [AB.cells 0 (some 49) Dg.zero.cells 0])[hp.length]? = some (.cells 0 (some 49) Dg.zero.cells 0) := get_app (get_last _ _)
  have d2 : (hp ++ [AB.cells 0 (some 49) Dg.zero.cells 0] ++ [AB.cells 0 (some 49) Dg.zero.cells 0])[(hp ++ [AB.cells 0 (some 49) Dg.zero.cells 0]).length]? = some (.cells 0 (some 49) Dg.zero.cells 0) := get_last _ _
  obtain ⟨h1, e1, r1, k1⟩ := text_ok (n := m) (by omega) (r.stays k0 (by simp)) 16 hk
  have hb := r.lt
  have d1' := k1.get d1 (by simp; omega)
  have d2' := k1.get d2 (by simp; omega)
  have hcells : (dgOf (s.take 16)).cells = (s.take 16).map u8 := dgOf_cells ht
  have kk : Keep hp h1 [b] := (k0.mono (by simp)).trans k1 (fun x hx => .inl hx)
  refine ⟨(h1.set (hp ++ [AB.cells 0 (some 49) Dg.zero.cells 0]).length (.cells 0 (some 49) (dgOf (s.take 16)).cells 0)).set hp.length (.cells 0 (some 49) (dgOf (s.take 16)).cells 0), ?_, ?_, ?_⟩
  · refine fun_inl F81 rfl rfl ?_
    conv => whnf
    refine ⟨_, _, _, d2, ⟨by decide, by decide⟩, ?_⟩
    refine slI (v := .sl 1 (hp ++ [AB.cells 0 (some 49) Dg.zero.cells 0]).length 0 0 16) rfl ?_
    conv => whnf
    refine clI e1 ?_
    conv => whnf
    refine ⟨?_, ?_⟩
    · conv => whnf
      refine ⟨_, _, _, d2', ⟨by decide, by decide⟩, ?_⟩
      exact slI (v := .sl 1 (hp ++ [AB.cells 0 (some 49) Dg.zero.cells 0]).length 0 0 16) rfl rfl
    conv => whnf
    have ec : cpyR h1 1 (.sl 1 (hp ++ [AB.cells 0 (some 49) Dg.zero.cells 0]).length 0 0 16) (.str (s.take 16)) = some (.int .i64 16, some (h1.set (hp ++ [AB.cells 0 (some 49) Dg.zero.cells 0]).length (.cells 0 (some 49) (dgOf (s.take 16)).cells 0))) := by
      unfold cpyR
      simp only [slLen, lenA, ht, Nat.min_self]
      have hf : firstA h1 1 16 (.str (s.take 16)) = some ((s.take 16).map u8) := by
        have := first_str h1 (s.take 16)
        rwa [ht] at this
      rw [hf]
      simp only
      rw [if_neg (by decide)]
      rw [d2']
      simp only
      rw [if_pos ⟨trivial, trivial, Nat.le_refl _, by rw [List.length_map, ht]; decide, u8_scal _⟩]
      have : putAt Dg.zero.cells 0 ((s.take 16).map u8) = (dgOf (s.take 16)).cells := by
        rw [hcells]
        unfold putAt
        rw [List.length_map, ht]
        simp [Dg.cells]
      rw [this]; rfl
    refine ⟨_, ec, ?_⟩
    have e2 : (h1.set (hp ++ [AB.cells 0 (some 49) Dg.zero.cells 0]).length (.cells 0 (some 49) (dgOf (s.take 16)).cells 0))[(hp ++ [AB.cells 0 (some 49) Dg.zero.cells 0]).length]? = some (.cells 0 (some 49) (dgOf (s.take 16)).cells 0) := by rw [List.getElem?_set_self (lt_of_get d2')]
    have e3 : (h1.set (hp ++ [AB.cells 0 (some 49) Dg.zero.cells 0]).length (.cells 0 (some 49) (dgOf (s.take 16)).cells 0))[hp.length]? = some (.cells 0 (some 49) Dg.zero.cells 0) := by rw [List.getElem?_set_ne (by rw [hlen]; omega)]; exact d1'
    conv => whnf
    refine ⟨?_, ?_⟩
    · conv => whnf
      refine ⟨_, _, _, e2, ⟨by show 0 + 16 * 1 ≤ 16; decide, by decide⟩, ?_⟩
      exact slI (v := .sl 1 (hp ++ [AB.cells 0 (some 49) Dg.zero.cells 0]).length 0 0 16) rfl rfl
    conv => whnf
    refine ldI e2 ?_
    conv => whnf
    refine stI e3 (xs := (dgOf (s.take 16)).cells) (by rfl) (by rfl) (by rfl) (by rfl) ?_
    refine ⟨rfl, [.agg (dgOf (s.take 16)).cells], ?_, rfl, rfl⟩
    have el : loadA Try.prog ((h1.set (hp ++ [AB.cells 0 (some 49) Dg.zero.cells 0]).length (.cells 0 (some 49) (dgOf (s.take 16)).cells 0)).set hp.length (.cells 0 (some 49) (dgOf (s.take 16)).cells 0)) 49 (.ptr hp.length 0 0) = some (.agg (dgOf (s.take 16)).cells) :=
      load_agg (N := 16) (by kernel_rfl) rfl (by rw [List.getElem?_set_self (lt_of_get e3)])
    show (match loadA Try.prog ((h1.set (hp ++ [AB.cells 0 (some 49) Dg.zero.cells 0]).length (.cells 0 (some 49) (dgOf (s.take 16)).cells 0)).set hp.length (.cells 0 (some 49) (dgOf (s.take 16)).cells 0)) 49 (.ptr hp.length 0 0) with | some v => some [v] | none => none) = _
    rw [el]
  · refine r1.stays (F := [(hp ++ [AB.cells 0 (some 49) Dg.zero.cells 0]).length, hp.length]) ⟨by simp, fun x hx hn => ?_⟩ (by simp; omega)
    simp at hn
    rw [List.getElem?_set_ne (by omega), List.getElem?_set_ne (by rw [hlen]; omega)]
  · exact (kk.set' (.inr (by rw [hlen]; omega))).set' (.inr (Nat.le_refl _))
theorem rsum_bad (hn : 2 ≤ n) (r : RDs hp b s) (hk : s.length < 16) : ∃ hp', C n 81 [.ptr b 0 0] hp = some (.pan badV, hp') ∧ Keep hp hp' [b] := by
  obtain ⟨m, rfl⟩ : ∃ m, n = m + 1 := ⟨n - 1, by omega⟩
  have k0 : Keep hp (hp ++ [AB.cells 0 (some 49) Dg.zero.cells 0] ++ [AB.cells 0 (some 49) Dg.zero.cells 0]) [] := (Keep.app hp _ []).trans (Keep.app _ _ []) (by simp)
  have d2 : (hp ++ [AB.cells 0 (some 49) Dg.zero.cells 0] ++ [AB.cells 0 (some 49) Dg.zero.cells 0])[(hp ++ [AB.cells 0 (some 49) Dg.zero.cells 0]).length]? = some (.cells 0 (some 49) Dg.zero.cells 0) := get_last _ _
  have := fun_inlE (n := m) (c := cfg0) (args := [.ptr b 0 0]) (h := hp) (R := fun r h => r = .pan badV ∧ Keep hp h [b]) F81 rfl rfl ?_
  · obtain ⟨r, h', e, rfl, q⟩ := this; exact ⟨h', e, q⟩
  conv => whnf
  refine ⟨_, _, _, d2, ⟨by decide, by decide⟩, ?_⟩
  refine slI (v := .sl 1 (hp ++ [AB.cells 0 (some 49) Dg.zero.cells 0]).length 0 0 16) rfl ?_
  conv => whnf
  refine clP (text_bad (n := m) (by omega) (r.stays k0 (by simp)) 16 hk (by omega)) ?_
  exact ⟨rfl, k0.mono (by simp)⟩
theorem rsumC (hn : 2 ≤ n) (r : RDs hp b s) (ok : ∀ hp', 16 ≤ s.length → RDs hp' b (s.drop 16) → Keep hp hp' [b] → K (.agg (dgOf (s.take 16)).cells) hp') (bad : ∀ hp', s.length < 16 → Keep hp hp' [b] → X badV hp') :
    ∃ r h', C n 81 [.ptr b 0 0] hp = some (r, h') ∧ WpR K X h' r := by
  by_cases hk : 16 ≤ s.length
  · obtain ⟨hp', e, g1, g2⟩ := rsum_ok hn r hk
    exact clI e (ok hp' hk g1 g2)
  · obtain ⟨hp', e, g⟩ := rsum_bad hn r (by omega)
    exact clP e (bad hp' (by omega) g)
end
end Go.Proofs
/- Contracts: pieces and lists of freed pages that are written into a builder. -/
set_option linter.unusedVariables false
set_option linter.unusedSimpArgs false
namespace Go.Proofs
open Go Go.Abs

/-- How a slice is held: the size of its elements, and whether its capacity is known. -/
structure Sh where
  sz : Nat
  c : Bool
structure Freed where
  ver : Int
  sh : Sh
  pages : List Int
def Freed.cells (f : Freed) : List AV := [i64 f.ver, .lst f.sh.sz (f.pages.map i64) f.sh.c]
def Freed.av (f : Freed) : AV := .agg f.cells
def Freed.Ok (f : Freed) : Prop := f.pages ≠ [] → f.sh.sz = 1
theorem freed_cells (f : Freed) : f.av.cells? = some f.cells := rfl
theorem i64_cells (k : Int) : (i64 k).cells? = some [i64 k] := rfl

def pieceB (next : Int) (data : Str) : Str := num next.toNat 4 ++ (num data.length 2 ++ data)
def pagesB (l : List Int) : Str := l.flatMap fun n => num n.toNat 4
def freedB (f : Freed) : Str := num f.ver.toNat 6 ++ (num f.pages.length 2 ++ pagesB f.pages)
def freedsB (l : List Freed) : Str := l.flatMap freedB
def listB (next : Int) (l : List Freed) : Str := num next.toNat 4 ++ (num l.length 2 ++ freedsB l)
theorem pagesB_len (l : List Int) : (pagesB l).length = 4 * l.length := by
  induction l with
  | nil => rfl
  | cons a r ih => simp only [pagesB, List.flatMap_cons, List.length_append, num_len, List.length_cons] at ih ⊢; omega
theorem freedB_len (f : Freed) : (freedB f).length = 8 + 4 * f.pages.length := by
  simp only [freedB, List.length_append, num_len, pagesB_len]; omega
theorem pagesB_take (l : List Int) (j : Nat) (hj : j < l.length) : pagesB (l.take (j + 1)) = pagesB (l.take j) ++ num (l[j]).toNat 4 := by
  rw [List.take_succ_eq_append_getElem hj]; simp only [pagesB, List.flatMap_append, List.flatMap_cons, List.flatMap_nil, List.append_nil]
theorem freedsB_take (l : List Freed) (j : Nat) (hj : j < l.length) : freedsB (l.take (j + 1)) = freedsB (l.take j) ++ freedB l[j] := by
  rw [List.take_succ_eq_append_getElem hj]; simp only [freedsB, List.flatMap_append, List.flatMap_cons, List.flatMap_nil, List.append_nil]
theorem freedsB_len_take (l : List Freed) (j : Nat) (hj : j < l.length) : (freedsB (l.take j)).length + (freedB l[j]).length ≤ (freedsB l).length := by
  have : freedsB l = freedsB (l.take j) ++ (freedB l[j] ++ freedsB (l.drop (j + 1))) := by
    conv => lhs; rw [← List.take_append_drop j l, List.drop_eq_getElem_cons hj]
    simp only [freedsB, List.flatMap_append, List.flatMap_cons]
  rw [this]; simp only [List.length_append]; omega
section
variable {n : Nat} {hp : AHeap} {b : Nat} {bs : Str} {F : List Nat} {K X : AV → AHeap → Prop}

theorem piece_eq (hn : 4 ≤ n) (w : BW hp b bs F) (next : Int) (h0 : 0 ≤ next) (data : Str) (hl : bs.length + data.length + 6 ≤ 1073741824) :
    ∃ hp' F', C n 98 [.agg [i64 next, .str data], .ptr b 0 0] hp = some (.ret (.tup []), hp') ∧ Wrote hp hp' b F F' (bs ++ pieceB next data) := by
  obtain ⟨m, rfl⟩ : ∃ m, n = m + 1 := ⟨n - 1, by omega⟩
  have := fun_inlR (n := m) (c := cfg0) (args := [.agg [i64 next, .str data], .ptr b 0 0]) (h := hp) (R := fun v hp' => v = .tup [] ∧ ∃ F', Wrote hp hp' b F F' (bs ++ pieceB next data)) F98 rfl rfl ?_
  · obtain ⟨v, hp', e, rfl, F', hW⟩ := this
    exact ⟨hp', F', e, hW⟩
  obtain ⟨w1, e1, ne1⟩ := w.app (.cells 0 (some 111) [i64 next, .str data] 0)
  conv => whnf
  refine ldI e1 ?_
  conv => whnf
  refine numC (n := m) (hp := hp ++ [.cells 0 (some 111) [i64 next, .str data] 0]) (by omega) w1 next h0 4 (by omega) (by omega) fun h2 F2 w2 => ?_
  have e2 := (w2.keep e1 ne1).1
  have ne2 := (w2.keep e1 ne1).2
  conv => whnf
  refine ldI e2 ?_
  conv => whnf
  refine numC (n := m) (hp := h2) (by omega) w2.1 _ (by omega) 2 (by omega) (by simp only [List.length_append, num_len]; omega) fun h3 F3 w3 => ?_
  have e3 := (w3.keep e2 ne2).1
  have ne3 := (w3.keep e2 ne2).2
  conv => whnf
  refine ldI e3 ?_
  conv => whnf
  refine strC (n := m) (hp := h3) (by omega) w3.1 data (by simp only [List.length_append, num_len]; omega) fun h4 F4 w4 => ?_
  have e4 := (w4.keep e3 ne3).1
  conv => whnf
  refine ⟨?_, ?_⟩
  · conv => whnf
    exact ldI e4 rfl
  refine ⟨rfl, [], rfl, rfl, F4, ?_⟩
  have := (w2.trans (w3.trans w4)).of_app
  simpa [pieceB, List.append_assoc] using this

theorem pages_loop {m : Nat} (hm : 3 ≤ m) (l : List Int) (sz : Nat) (hz : l ≠ [] → sz = 1) (c : Bool) (hnn : ∀ k ∈ l, 0 ≤ k) (w : BW hp b bs F) (hl : bs.length + 4 * l.length ≤ 1073741824) {Q : Ex → LS → Prop} {s : LS} (v18 v19 v20 : AV)
    (hs : LS.sub ⟨[(1, .ptr b 0 0), (18, v18), (19, v19), (20, v20), (34, .lst sz (l.map i64) c), (35, i64 l.length), (36, i64 0)], hp, []⟩ s)
    (hE : ∀ h' F', Wrote hp h' b F F' (bs ++ pagesB l) → ∀ L, subL [(1, .ptr b 0 0), (18, v18), (19, v19), (20, v20)] L → Q (.exit 2) ⟨L, h', []⟩) : OkR Try.prog (C m) cfg0.inl KK 45 6 (.loop (c99.lp 1)) s Q := by
  refine loopI (by decide) rfl (α := Nat × List Nat × AHeap) (fun x => ⟨[(1, .ptr b 0 0), (18, v18), (19, v19), (20, v20), (34, .lst sz (l.map i64) c), (35, i64 l.length), (36, i64 x.1)], x.2.2, []⟩)
    (fun x => x.1 ≤ l.length ∧ Wrote hp x.2.2 b F x.2.1 (bs ++ pagesB (l.take x.1))) (fun x => l.length - x.1) (0, F, hp) hs ⟨Nat.zero_le _, by simpa [pagesB] using Wrote.refl w⟩ (by show l.length - 0 < KK; simp only [KK]; omega) ?_
  rintro ⟨j, G, h1⟩ ⟨g1, g2⟩
  simp only at g1 g2
  conv => whnf
  refine brd (fun a => ?_) (fun a => ?_)
  · have hj : j < l.length := by simp only at a; omega
    have hlen : (pagesB (l.take j)).length = 4 * j := by rw [pagesB_len, List.length_take]; omega
    conv => whnf
    refine ixL i64_cells hj hz ?_
    conv => whnf
    refine numC (n := m) (hp := h1) (by omega) g2.1 l[j] (hnn _ (List.getElem_mem hj)) 4 (by omega) (by simp only [List.length_append, hlen]; omega) fun h2 F2 w2 => ?_
    conv => whnf
    refine zI (z := ((j + 1 : Nat) : Int)) (by rw [wrap_i64 (by omega) (by omega)]; rfl) ?_
    refine nxI (j + 1, F2, h2) ⟨hj, ?_⟩ (by simp only; omega) ⟨⟨rfl, rfl, rfl, rfl, rfl, rfl, rfl⟩, rfl, rfl⟩
    have := g2.trans w2
    rwa [List.append_assoc, ← pagesB_take l j hj] at this
  · have hj : j = l.length := by simp only at a; omega
    subst hj
    rw [List.take_length] at g2
    conv => whnf
    exact hE h1 G g2 _ ⟨rfl, rfl, rfl, rfl⟩

theorem list_eq (hn : 4 ≤ n) (w : BW hp b bs F) (next : Int) (h0 : 0 ≤ next) (l : List Freed) (sz : Nat) (hz : l ≠ [] → sz = 2) (c : Bool) (hk : ∀ f ∈ l, f.Ok ∧ 0 ≤ f.ver ∧ ∀ k ∈ f.pages, 0 ≤ k) (hl : bs.length + (freedsB l).length + l.length + 6 ≤ 1073741824) :
    ∃ hp' F', C n 99 [.agg [i64 next, .lst sz (l.map Freed.av) c], .ptr b 0 0] hp = some (.ret (.tup []), hp') ∧ Wrote hp hp' b F F' (bs ++ listB next l) := by
  obtain ⟨m, rfl⟩ : ∃ m, n = m + 1 := ⟨n - 1, by omega⟩
  have := fun_inlR (n := m) (c := cfg0) (args := [.agg [i64 next, .lst sz (l.map Freed.av) c], .ptr b 0 0]) (h := hp) (R := fun v hp' => v = .tup [] ∧ ∃ F', Wrote hp hp' b F F' (bs ++ listB next l)) F99 rfl rfl ?_
  · obtain ⟨v, hp', e, rfl, F', hW⟩ := this
    exact ⟨hp', F', e, hW⟩
  obtain ⟨w1, e1, ne1⟩ := w.app (.cells 0 (some 113) [i64 next, .lst sz (l.map Freed.av) c] 0)
  conv => whnf
  refine ldI e1 ?_
  conv => whnf
  refine numC (n := m) (hp := hp ++ [.cells 0 (some 113) [i64 next, .lst sz (l.map Freed.av) c] 0]) (by omega) w1 next h0 4 (by omega) (by omega) fun h2 F2 w2 => ?_
  have e2 := (w2.keep e1 ne1).1
  have ne2 := (w2.keep e1 ne1).2
  conv => whnf
  refine ldI e2 ?_
  conv => whnf
  have el : ((l.map Freed.av).length : Int) = (l.length : Int) := by rw [List.length_map]
  rw [el]
  refine numC (n := m) (hp := h2) (by omega) w2.1 (l.length : Int) (by omega) 2 (by omega) (by simp only [List.length_append, num_len]; omega) fun h3 F3 w3 => ?_
  have e3 := (w3.keep e2 ne2).1
  have ne3 := (w3.keep e2 ne2).2
  have w03 := (w2.trans w3).of_app
  conv => whnf
  refine ldI e3 ?_
  conv => whnf
  refine loopI (by decide) rfl (α := Nat × List Nat × AHeap) (fun x => ⟨[(1, .ptr b 0 0), (18, .lst sz (l.map Freed.av) c), (19, i64 l.length), (20, i64 x.1)], x.2.2, []⟩)
    (fun x => x.1 ≤ l.length ∧ Wrote hp x.2.2 b F x.2.1 (bs ++ (num next.toNat 4 ++ (num l.length 2 ++ freedsB (l.take x.1))))) (fun x => l.length - x.1) (0, F3, h3) ⟨⟨rfl, rfl, lenI _ _, rfl⟩, rfl, rfl⟩
    ⟨Nat.zero_le _, by simpa [freedsB, List.append_assoc] using w03⟩ (by show l.length - 0 < KK; simp only [KK]; omega) ?_
  rintro ⟨j, G, h4⟩ ⟨g1, g2⟩
  simp only at g1 g2
  conv => whnf
  refine brd (fun a => ?_) (fun a => ?_)
  · have hj : j < l.length := by simp only at a; omega
    obtain ⟨k1, k2, k3⟩ := hk _ (List.getElem_mem hj)
    have hfl := freedsB_len_take l j hj
    have hfb := freedB_len l[j]
    have g2' := g2.1
    obtain ⟨u0, x0, nx0⟩ := g2'.app (.cells 0 (some 109) l[j].cells 0)
    conv => whnf
    refine ixL freed_cells hj hz ?_
    conv => whnf
    refine stI (get_last _ _) (by rfl) (by rfl) (by rfl) (by rfl) ?_
    have es : (h4 ++ [AB.cells 0 (some 109) [i64 0, .lst 0 [] true] 0]).set h4.length (.cells 0 (some 109) l[j].cells 0) = h4 ++ [.cells 0 (some 109) l[j].cells 0] := by simp
    conv => whnf
    refine ldI (get_set_last _ _ _) ?_
    conv => whnf
    have u1 : BW ((h4 ++ [AB.cells 0 (some 109) [i64 0, .lst 0 [] true] 0]).set h4.length (.cells 0 (some 109) l[j].cells 0)) b _ G := es ▸ u0
    have x1 : ((h4 ++ [AB.cells 0 (some 109) [i64 0, .lst 0 [] true] 0]).set h4.length (.cells 0 (some 109) l[j].cells 0))[h4.length]? = some (.cells 0 (some 109) l[j].cells 0) := es ▸ x0
    refine numC (n := m) (hp := (h4 ++ [AB.cells 0 (some 109) [i64 0, .lst 0 [] true] 0]).set h4.length (.cells 0 (some 109) l[j].cells 0)) (by omega) u1 l[j].ver k2 6 (by omega) (by simp only [List.length_append, num_len]; omega) fun h5 F5 w5 => ?_
    have x5 := (w5.keep x1 nx0).1
    have nx5 := (w5.keep x1 nx0).2
    have w5' : Wrote h4 h5 b G F5 _ := Wrote.of_app (es ▸ w5)
    conv => whnf
    refine ldI x5 ?_
    conv => whnf
    have el2 : (((l[j]).pages.map i64).length : Int) = ((l[j]).pages.length : Int) := by rw [List.length_map]
    rw [el2]
    refine numC (n := m) (hp := h5) (by omega) w5.1 ((l[j]).pages.length : Int) (by omega) 2 (by omega) (by simp only [List.length_append, num_len]; omega) fun h6 F6 w6 => ?_
    have x6 := (w6.keep x5 nx5).1
    conv => whnf
    refine ldI x6 ?_
    conv => whnf
    refine pages_loop (by omega) l[j].pages l[j].sh.sz k1 l[j].sh.c k3 w6.1 (by simp only [List.length_append, num_len]; omega) (.lst sz (l.map Freed.av) c) (i64 l.length) (i64 j) ⟨⟨rfl, rfl, rfl, rfl, rfl, lenI i64 _, rfl⟩, rfl, rfl⟩ fun h7 F7 w7 L hL => ?_
    refine cutI (by decide) rfl (t := ⟨[(1, .ptr b 0 0), (18, .lst sz (l.map Freed.av) c), (19, i64 l.length), (20, i64 j)], h7, []⟩) ⟨hL, rfl, rfl⟩ ?_
    conv => whnf
    refine zI (z := ((j + 1 : Nat) : Int)) (by rw [wrap_i64 (by omega) (by omega)]; rfl) ?_
    refine nxI (j + 1, F7, h7) ⟨hj, ?_⟩ (by simp only; omega) ⟨⟨rfl, rfl, rfl, rfl⟩, rfl, rfl⟩
    have := g2.trans (w5'.trans (w6.trans w7))
    simp only [freedsB_take l j hj, freedB]
    simpa [List.append_assoc] using this
  · have hj : j = l.length := by simp only at a; omega
    subst hj
    rw [List.take_length] at g2
    conv => whnf
    refine ⟨rfl, [], rfl, rfl, G, ?_⟩
    exact g2
end
end Go.Proofs
/- Contracts: contents of entries that are read. -/
set_option linter.unusedVariables false
set_option linter.unusedSimpArgs false
namespace Go.Proofs
open Go Go.Abs
def ptext (k : Nat) (s : Str) : Option (Str × Str) := if k ≤ s.length then some (s.take k, s.drop k) else none
def pnum (w : Nat) (s : Str) : Option (Nat × Str) := if w ≤ s.length then some (unnum (s.take w), s.drop w) else none
def psum (s : Str) : Option (Dg × Str) := if 16 ≤ s.length then some (dgOf (s.take 16), s.drop 16) else none
def pcont2 (key : Str) (long : Nat) (s : Str) : Option (Entry × Str) :=
  if long = 65535 then (pnum 4 s).bind fun o => (pnum 2 o.2).bind fun l => (psum l.2).map fun d => (⟨key, [], o.1, l.1, 0, 0, d.1⟩, d.2)
  else if long = 65534 then (pnum 4 s).bind fun o => (pnum 4 o.2).bind fun l => (psum l.2).map fun d => (⟨key, [], 0, 0, o.1, l.1, d.1⟩, d.2)
  else (ptext long s).map fun v => (⟨key, v.1, 0, 0, 0, 0, Dg.zero⟩, v.2)
def pcont (key : Str) (lv : Int) (s : Str) : Option (Entry × Str) := if lv = 0 then (pnum 2 s).bind fun l => pcont2 key l.1 l.2 else pcont2 key 65534 s
def keyE (key : Str) : Entry := ⟨key, [], 0, 0, 0, 0, Dg.zero⟩
theorem pnum_lt {w : Nat} {s : Str} {k : Nat} {t : Str} (h : pnum w s = some (k, t)) : k < 256 ^ w := by
  unfold pnum at h
  split at h
  · rename_i hw
    cases h
    exact unnum_lt w _ (by rw [List.length_take]; omega)
  · cases h
/-- How a step of the reader ends. -/
def StepR {α : Type} (o : Option (α × Str)) (R : α → Str → CRes → AHeap → Prop) (B : AHeap → Prop) (r : CRes) (h : AHeap) : Prop := match o with
  | some (a, t) => R a t r h
  | none => r = .pan badV ∧ B h
section
variable {n : Nat} {hp : AHeap} {b E : Nat} {s : Str} {K X : AV → AHeap → Prop}
def ContR (hp : AHeap) (b E : Nat) (e : Entry) (t : Str) (r : CRes) (h : AHeap) : Prop := r = .ret (.tup []) ∧ RDs h b t ∧ h[E]? = some (.cells 0 (some 51) e.cells 0) ∧ Keep hp h [b, E]

theorem content_eq (hn : 3 ≤ n) (r : RDs hp b s) (key : Str) (hE : hp[E]? = some (.cells 0 (some 51) (keyE key).cells 0)) (hne : E ≠ b) (lv : Int) :
    ∃ r h, C n 79 [.ptr b 0 0, .ptr E 0 0, i64 lv] hp = some (r, h) ∧ StepR (pcont key lv s) (ContR hp b E) (fun h => Keep hp h [b, E]) r h := by
  obtain ⟨m, rfl⟩ : ∃ m, n = m + 1 := ⟨n - 1, by omega⟩
  refine fun_inlE (n := m) (c := cfg0) (args := [.ptr b 0 0, .ptr E 0 0, i64 lv]) (h := hp) F79 rfl rfl ?_
  have kE : ∀ {a c : AHeap}, Keep a c [b] → Keep a c [b, E] := fun k => k.mono (by simp)
  have body : ∀ (long : Nat) (s1 : Str) (h1 : AHeap) (s' : LS), long < 65536 → RDs h1 b s1 → Keep hp h1 [b] → LS.sub ⟨[(0, .ptr b 0 0), (1, .ptr E 0 0), (6, i64 long)], h1, []⟩ s' → OkR Try.prog (C m) cfg0.inl KK 52 6 (cutOf c79) s' (EndQ Try.prog (C m) cfg0.inl [] (StepR (pcont2 key long s1) (ContR hp b E) (fun h => Keep hp h [b, E]))) := by
    intro long s1 h1 s' hlong r1 k1 hs'
    have E1 := k1.get hE (by simpa using hne)
    refine cutI (by decide) rfl hs' ?_
    conv => whnf
    refine bre (fun a => ?_) (fun a => ?_)
    · have a' : long = 65535 := by omega
      conv => whnf
      refine rnumC (n := m) (hp := h1) (by omega) r1 4 (by omega) (fun h2 q2 r2 k2 => ?_) (fun q => ?_)
      · conv => whnf
        refine rnumC (n := m) (hp := h2) (by omega) r2 2 (by omega) (fun h3 q3 r3 k3 => ?_) (fun q => ?_)
        · have E3 := k3.get (k2.get E1 (by simpa using hne)) (by simpa using hne)
          conv => whnf
          refine stI E3 (by rfl) (by rfl) (by rfl) (by rfl) ?_
          conv => whnf
          refine stI (by rw [List.getElem?_set_self (lt_of_get E3)]) (by rfl) (by rfl) (by rfl) (by rfl) ?_
          have k13 : Keep hp h3 [b, E] := kE ((k1.trans k2 (fun x hx => .inl hx)).trans k3 (fun x hx => .inl hx))
          have k4 : Keep hp ((h3.set E (.cells 0 (some 51) (putAt (keyE key).cells (0 + 2) [i64 (unnum (s1.take 4))]) 0)).set E (.cells 0 (some 51) (putAt (putAt (keyE key).cells (0 + 2) [i64 (unnum (s1.take 4))]) (0 + 3) [i64 (unnum ((s1.drop 4).take 2))]) 0)) [b, E] := (k13.set' (.inl (by simp))).set' (.inl (by simp))
          have r4 : RDs ((h3.set E (.cells 0 (some 51) (putAt (keyE key).cells (0 + 2) [i64 (unnum (s1.take 4))]) 0)).set E (.cells 0 (some 51) (putAt (putAt (keyE key).cells (0 + 2) [i64 (unnum (s1.take 4))]) (0 + 3) [i64 (unnum ((s1.drop 4).take 2))]) 0)) b ((s1.drop 4).drop 2) := (r3.stays (Keep.set (F := [E]) (by simp)) (by simpa using hne.symm)).stays (Keep.set (F := [E]) (by simp)) (by simpa using hne.symm)
          have E4 : ((h3.set E (.cells 0 (some 51) (putAt (keyE key).cells (0 + 2) [i64 (unnum (s1.take 4))]) 0)).set E (.cells 0 (some 51) (putAt (putAt (keyE key).cells (0 + 2) [i64 (unnum (s1.take 4))]) (0 + 3) [i64 (unnum ((s1.drop 4).take 2))]) 0))[E]? = some (.cells 0 (some 51) (putAt (putAt (keyE key).cells (0 + 2) [i64 (unnum (s1.take 4))]) (0 + 3) [i64 (unnum ((s1.drop 4).take 2))]) 0) := by rw [List.getElem?_set_self (by simp; exact lt_of_get E3)]
          conv => whnf
          refine rsumC (n := m) (by omega) r4 (fun h5 q5 r5 k5 => ?_) (fun h5 q5 k5 => ?_)
          · have E5 := k5.get E4 (by simpa using hne)
            conv => whnf
            refine stI E5 (xs := (dgOf (((s1.drop 4).drop 2).take 16)).cells) (by rfl) (by rfl) (by rfl) (by rfl) ?_
            refine ⟨[], rfl, ?_⟩
            have e : pcont2 key long s1 = some (⟨key, [], (unnum (s1.take 4) : Nat), (unnum ((s1.drop 4).take 2) : Nat), 0, 0, dgOf (((s1.drop 4).drop 2).take 16)⟩, ((s1.drop 4).drop 2).drop 16) := by
              simp only [pcont2, a', if_true, pnum, if_pos q2, Option.bind_some, if_pos q3, psum, if_pos q5, Option.map_some]
            rw [e]
            refine ⟨rfl, r5.stays (Keep.set (F := [E]) (by simp)) (by simpa using hne.symm), ?_, (k4.trans (kE k5) (fun x hx => .inl hx)).set' (.inl (by simp))⟩
            rw [List.getElem?_set_self (lt_of_get E5)]
            rfl
          · conv => whnf
            have e : pcont2 key long s1 = none := by
              simp only [pcont2, a', if_true, pnum, if_pos q2, Option.bind_some, if_pos q3, psum, if_neg (Nat.not_le.2 q5), Option.map_none]
            rw [e]
            exact ⟨rfl, k4.trans (kE k5) (fun x hx => .inl hx)⟩
        · conv => whnf
          have e : pcont2 key long s1 = none := by
            simp only [pcont2, a', if_true, pnum, if_pos q2, Option.bind_some, if_neg (Nat.not_le.2 q), Option.bind_none]
          rw [e]
          exact ⟨rfl, kE (k1.trans k2 (fun x hx => .inl hx))⟩
      · conv => whnf
        have e : pcont2 key long s1 = none := by
          simp only [pcont2, a', if_true, pnum, if_neg (Nat.not_le.2 q), Option.bind_none]
        rw [e]
        exact ⟨rfl, kE k1⟩
    · have a' : long ≠ 65535 := by omega
      conv => whnf
      refine bre (fun c => ?_) (fun c => ?_)
      · have c' : long = 65534 := by omega
        conv => whnf
        refine rnumC (n := m) (hp := h1) (by omega) r1 4 (by omega) (fun h2 q2 r2 k2 => ?_) (fun q => ?_)
        · conv => whnf
          refine rnumC (n := m) (hp := h2) (by omega) r2 4 (by omega) (fun h3 q3 r3 k3 => ?_) (fun q => ?_)
          · have E3 := k3.get (k2.get E1 (by simpa using hne)) (by simpa using hne)
            conv => whnf
            refine stI E3 (by rfl) (by rfl) (by rfl) (by rfl) ?_
            conv => whnf
            refine stI (by rw [List.getElem?_set_self (lt_of_get E3)]) (by rfl) (by rfl) (by rfl) (by rfl) ?_
            have k13 : Keep hp h3 [b, E] := kE ((k1.trans k2 (fun x hx => .inl hx)).trans k3 (fun x hx => .inl hx))
            have k4 : Keep hp ((h3.set E (.cells 0 (some 51) (putAt (keyE key).cells (0 + 4) [i64 (unnum (s1.take 4))]) 0)).set E (.cells 0 (some 51) (putAt (putAt (keyE key).cells (0 + 4) [i64 (unnum (s1.take 4))]) (0 + 5) [i64 (unnum ((s1.drop 4).take 4))]) 0)) [b, E] := (k13.set' (.inl (by simp))).set' (.inl (by simp))
            have r4 : RDs ((h3.set E (.cells 0 (some 51) (putAt (keyE key).cells (0 + 4) [i64 (unnum (s1.take 4))]) 0)).set E (.cells 0 (some 51) (putAt (putAt (keyE key).cells (0 + 4) [i64 (unnum (s1.take 4))]) (0 + 5) [i64 (unnum ((s1.drop 4).take 4))]) 0)) b ((s1.drop 4).drop 4) := (r3.stays (Keep.set (F := [E]) (by simp)) (by simpa using hne.symm)).stays (Keep.set (F := [E]) (by simp)) (by simpa using hne.symm)
            have E4 : ((h3.set E (.cells 0 (some 51) (putAt (keyE key).cells (0 + 4) [i64 (unnum (s1.take 4))]) 0)).set E (.cells 0 (some 51) (putAt (putAt (keyE key).cells (0 + 4) [i64 (unnum (s1.take 4))]) (0 + 5) [i64 (unnum ((s1.drop 4).take 4))]) 0))[E]? = some (.cells 0 (some 51) (putAt (putAt (keyE key).cells (0 + 4) [i64 (unnum (s1.take 4))]) (0 + 5) [i64 (unnum ((s1.drop 4).take 4))]) 0) := by rw [List.getElem?_set_self (by simp; exact lt_of_get E3)]
            conv => whnf
            refine rsumC (n := m) (by omega) r4 (fun h5 q5 r5 k5 => ?_) (fun h5 q5 k5 => ?_)
            · have E5 := k5.get E4 (by simpa using hne)
              conv => whnf
              refine stI E5 (xs := (dgOf (((s1.drop 4).drop 4).take 16)).cells) (by rfl) (by rfl) (by rfl) (by rfl) ?_
              refine ⟨[], rfl, ?_⟩
              have e : pcont2 key long s1 = some (⟨key, [], 0, 0, (unnum (s1.take 4) : Nat), (unnum ((s1.drop 4).take 4) : Nat), dgOf (((s1.drop 4).drop 4).take 16)⟩, ((s1.drop 4).drop 4).drop 16) := by
                simp only [pcont2, c', show ¬ (65534 : Nat) = 65535 by decide, if_true, if_false, pnum, if_pos q2, Option.bind_some, if_pos q3, psum, if_pos q5, Option.map_some]
              rw [e]
              refine ⟨rfl, r5.stays (Keep.set (F := [E]) (by simp)) (by simpa using hne.symm), ?_, (k4.trans (kE k5) (fun x hx => .inl hx)).set' (.inl (by simp))⟩
              rw [List.getElem?_set_self (lt_of_get E5)]
              rfl
            · conv => whnf
              have e : pcont2 key long s1 = none := by
                simp only [pcont2, c', show ¬ (65534 : Nat) = 65535 by decide, if_true, if_false, pnum, if_pos q2, Option.bind_some, if_pos q3, psum, if_neg (Nat.not_le.2 q5), Option.map_none]
              rw [e]
              exact ⟨rfl, k4.trans (kE k5) (fun x hx => .inl hx)⟩
          · conv => whnf
            have e : pcont2 key long s1 = none := by
              simp only [pcont2, c', show ¬ (65534 : Nat) = 65535 by decide, if_true, if_false, pnum, if_pos q2, Option.bind_some, if_neg (Nat.not_le.2 q), Option.bind_none]
            rw [e]
            exact ⟨rfl, kE (k1.trans k2 (fun x hx => .inl hx))⟩
        · conv => whnf
          have e : pcont2 key long s1 = none := by
            simp only [pcont2, c', show ¬ (65534 : Nat) = 65535 by decide, if_true, if_false, pnum, if_neg (Nat.not_le.2 q), Option.bind_none]
          rw [e]
          exact ⟨rfl, kE k1⟩
      · have c' : long ≠ 65534 := by omega
        conv => whnf
        refine textC (n := m) (hp := h1) (by omega) r1 long (by omega) (fun h2 q2 r2 k2 => ?_) (fun q => ?_)
        · have E2 := k2.get E1 (by simpa using hne)
          conv => whnf
          refine stI E2 (by rfl) (by rfl) (by rfl) (by rfl) ?_
          refine ⟨[], rfl, ?_⟩
          have e : pcont2 key long s1 = some (⟨key, s1.take long, 0, 0, 0, 0, Dg.zero⟩, s1.drop long) := by
            simp only [pcont2, a', c', if_false, ptext, if_pos q2, Option.map_some]
          rw [e]
          refine ⟨rfl, r2.stays (Keep.set (F := [E]) (by simp)) (by simpa using hne.symm), ?_, (kE (k1.trans k2 (fun x hx => .inl hx))).set' (.inl (by simp))⟩
          rw [List.getElem?_set_self (lt_of_get E2)]
          rfl
        · conv => whnf
          have e : pcont2 key long s1 = none := by
            simp only [pcont2, a', c', if_false, ptext, if_neg (Nat.not_le.2 q), Option.map_none]
          rw [e]
          exact ⟨rfl, kE k1⟩
  conv => whnf
  refine bre (fun a => ?_) (fun a => ?_)
  · subst a
    conv => whnf
    refine rnumC (n := m) (hp := hp) (by omega) r 2 (by omega) (fun h2 q2 r2 k2 => ?_) (fun q => ?_)
    · have e : pcont key 0 s = pcont2 key (unnum (s.take 2)) (s.drop 2) := by simp only [pcont, if_true, pnum, if_pos q2, Option.bind_some]
      rw [e]
      conv => whnf
      exact body _ _ h2 _ (Nat.lt_of_lt_of_eq (unnum_lt 2 _ (by rw [List.length_take]; omega)) (by decide)) r2 k2 ⟨⟨rfl, rfl, rfl⟩, rfl, rfl⟩
    · have e : pcont key 0 s = none := by simp only [pcont, if_true, pnum, if_neg (Nat.not_le.2 q), Option.bind_none]
      rw [e]
      conv => whnf
      exact ⟨rfl, Keep.refl _ _⟩
  · have e : pcont key lv s = pcont2 key 65534 s := by simp only [pcont, a, if_false]
    rw [e]
    conv => whnf
    exact body 65534 s hp _ (by decide) r (Keep.refl _ _) ⟨⟨rfl, rfl, rfl⟩, rfl, rfl⟩
end
end Go.Proofs
/- The looked-up text of the functions. -/
namespace Go.Proofs
open Go Go.Abs
-- 104 functions
/- f63 (*understory/page.reader).body: 95 temporaries, depth 7, 2 parameters, results [t4] -/
def c63 : RC :=
  (.seq (.ops [⟨some 4, none, .op (.mv (.c .nili))⟩])
  (.seq (.seq (.ops [⟨some 13, none, .op (.mv (.t 1))⟩])
  (.block 0
    (.seq (.seq (.ops [⟨some 15, none, .op (.bin .eql (.t 13) (.c (.int .i64 1)))⟩,
      ⟨some 14, none, .op (.mv (.t 15))⟩])
    (.cond (.t 14)
      .skip
      (.ops [⟨some 16, none, .op (.bin .eql (.t 13) (.c (.int .i64 2)))⟩,
        ⟨some 14, none, .op (.mv (.t 16))⟩])))
    (.cond (.t 14)
      (.cut (.seq (.ops [⟨some 17, none, .op (.mv (.t 0))⟩,
        ⟨some 18, none, .op (.callF 61 [(.t 17), (.c (.int .i64 1))])⟩,
        ⟨some 19, none, .op (.mv (.t 0))⟩,
        ⟨some 20, none, .op (.callF 61 [(.t 19), (.c (.int .i64 1))])⟩,
        ⟨some 21, none, .op (.build [(.int .i64 0), (.int .i64 0), (.bool false), (.lst 0 [] true)] [(0, 1, (.t 18)), (1, 1, (.t 20))])⟩,
        ⟨some 5, none, .op (.alloc 115 [(.int .i64 0), (.int .i64 0), (.bool false), (.lst 0 [] true)])⟩,
        ⟨none, none, .op (.store 4 (.t 5) (.t 21))⟩])
      (.seq (.ops [⟨some 22, none, .op (.mv (.t 0))⟩,
        ⟨some 23, none, .op (.callF 61 [(.t 22), (.c (.int .i64 1))])⟩,
        ⟨some 24, none, .op (.bin .eql (.t 23) (.c (.int .i64 1)))⟩,
        ⟨some 25, none, .op (.fieldAddr 2 (.t 5))⟩,
        ⟨none, none, .op (.store 1 (.t 25) (.t 24))⟩])
      (.seq (.ops [⟨some 26, none, .op (.mv (.t 0))⟩,
        ⟨some 27, none, .op (.callF 61 [(.t 26), (.c (.int .i64 1))])⟩,
        ⟨some 6, none, .op (.mv (.t 27))⟩])
      (.seq (.ops [⟨some 28, none, .op (.mv (.t 0))⟩,
        ⟨some 29, none, .op (.callF 61 [(.t 28), (.c (.int .i64 2))])⟩,
        ⟨some 7, none, .op (.mv (.t 29))⟩])
      (.seq (.ops [⟨some 30, none, .op (.mv (.t 0))⟩,
        ⟨some 31, none, .op (.mv (.t 6))⟩,
        ⟨some 32, none, .op (.callF 73 [(.t 30), (.t 31)])⟩,
        ⟨some 8, none, .op (.mv (.t 32))⟩])
      (.seq (.ops [⟨some 33, none, .op (.mv (.t 0))⟩,
        ⟨some 34, none, .op (.mv (.t 7))⟩,
        ⟨some 35, none, .op (.bin .mul (.c (.int .i64 2)) (.t 34))⟩,
        ⟨some 36, none, .op (.callF 73 [(.t 33), (.t 35)])⟩])
      (.seq (.seq (.ops [⟨some 37, none, .op (.mv (.t 0))⟩,
        ⟨some 38, none, .op (.mv (.t 7))⟩,
        ⟨some 39, none, .op (.fieldAddr 1 (.t 5))⟩,
        ⟨some 40, none, .op (.load false 1 (.t 39))⟩,
        ⟨some 41, none, .op (.mv (.t 8))⟩,
        ⟨some 42, none, .op (.callF 74 [(.t 37), (.t 38), (.t 40), (.t 41)])⟩])
      (.block 1
        (.rangeF (.t 42) [43]
          (.ops [⟨some 9, none, .op (.alloc 51 [(.str []), (.str []), (.int .i64 0), (.int .i64 0), (.int .i64 0), (.int .i64 0), (.int .u8 0), (.int .u8 0), (.int .u8 0), (.int .u8 0), (.int .u8 0), (.int .u8 0), (.int .u8 0), (.int .u8 0), (.int .u8 0), (.int .u8 0), (.int .u8 0), (.int .u8 0), (.int .u8 0), (.int .u8 0), (.int .u8 0), (.int .u8 0)])⟩,
            ⟨none, none, .op (.store 22 (.t 9) (.t 43))⟩])
          (.block 2
            (.ops [⟨some 44, none, .op (.fieldAddr 3 (.t 5))⟩,
              ⟨some 45, none, .op (.load false 1 (.t 44))⟩,
              ⟨some 46, none, .op (.load true 22 (.t 9))⟩,
              ⟨some 47, none, .op (.mkLst 22 true 1 [(.str []), (.str []), (.int .i64 0), (.int .i64 0), (.int .i64 0), (.int .i64 0), (.int .u8 0), (.int .u8 0), (.int .u8 0), (.int .u8 0), (.int .u8 0), (.int .u8 0), (.int .u8 0), (.int .u8 0), (.int .u8 0), (.int .u8 0), (.int .u8 0), (.int .u8 0), (.int .u8 0), (.int .u8 0), (.int .u8 0), (.int .u8 0)] [(0, 22, (.t 46))])⟩,
              ⟨some 48, none, .op (.app 51 22 (.t 45) (.t 47))⟩,
              ⟨some 49, none, .op (.fieldAddr 3 (.t 5))⟩,
              ⟨none, none, .op (.store 1 (.t 49) (.t 48))⟩])))))
      (.cut (.seq (.ops [⟨some 50, none, .op (.load true 4 (.t 5))⟩,
        ⟨some 51, none, .op (.mkIfc 115 (.t 50))⟩,
        ⟨some 4, none, .op (.mv (.t 51))⟩])
      .ret))))))))))
      (.seq (.ops [⟨some 53, none, .op (.bin .eql (.t 13) (.c (.int .i64 3)))⟩,
        ⟨some 52, none, .op (.mv (.t 53))⟩])
      (.cond (.t 52)
        (.seq (.ops [⟨some 54, none, .op (.mv (.t 0))⟩,
          ⟨some 55, none, .op (.callF 61 [(.t 54), (.c (.int .i64 4))])⟩,
          ⟨some 56, none, .op (.build [(.int .i64 0), (.str [])] [(0, 1, (.t 55))])⟩,
          ⟨some 10, none, .op (.alloc 111 [(.int .i64 0), (.str [])])⟩,
          ⟨none, none, .op (.store 2 (.t 10) (.t 56))⟩])
        (.seq (.ops [⟨some 57, none, .op (.mv (.t 0))⟩,
          ⟨some 58, none, .op (.mv (.t 0))⟩,
          ⟨some 59, none, .op (.callF 61 [(.t 58), (.c (.int .i64 2))])⟩,
          ⟨some 60, none, .op (.callF 73 [(.t 57), (.t 59)])⟩,
          ⟨some 61, none, .op (.fieldAddr 1 (.t 10))⟩,
          ⟨none, none, .op (.store 1 (.t 61) (.t 60))⟩])
        (.seq (.ops [⟨some 62, none, .op (.load true 2 (.t 10))⟩,
          ⟨some 63, none, .op (.mkIfc 111 (.t 62))⟩,
          ⟨some 4, none, .op (.mv (.t 63))⟩])
        .ret)))
        .skip))))))
  (.cut (.seq (.ops [⟨some 64, none, .op (.mv (.t 0))⟩,
    ⟨some 65, none, .op (.callF 61 [(.t 64), (.c (.int .i64 4))])⟩,
    ⟨some 66, none, .op (.build [(.int .i64 0), (.lst 0 [] true)] [(0, 1, (.t 65))])⟩,
    ⟨some 11, none, .op (.alloc 113 [(.int .i64 0), (.lst 0 [] true)])⟩,
    ⟨none, none, .op (.store 2 (.t 11) (.t 66))⟩])
  (.seq (.seq (.ops [⟨some 67, none, .op (.mv (.t 0))⟩,
    ⟨some 68, none, .op (.callF 61 [(.t 67), (.c (.int .i64 2))])⟩,
    ⟨some 69, none, .op (.mv (.c (.int .i64 0)))⟩])
  (.block 3
    (.loop
      (.seq (.ops [⟨some 70, none, .op (.bin .lss (.t 69) (.t 68))⟩])
      (.seq (.cond (.t 70)
        .skip
        (.exit 3))
      (.seq (.block 4
        (.seq (.ops [⟨some 71, none, .op (.mv (.t 0))⟩,
          ⟨some 72, none, .op (.callF 61 [(.t 71), (.c (.int .i64 6))])⟩,
          ⟨some 73, none, .op (.build [(.int .i64 0), (.lst 0 [] true)] [(0, 1, (.t 72))])⟩,
          ⟨some 12, none, .op (.alloc 109 [(.int .i64 0), (.lst 0 [] true)])⟩,
          ⟨none, none, .op (.store 2 (.t 12) (.t 73))⟩])
        (.seq (.seq (.ops [⟨some 74, none, .op (.mv (.t 0))⟩,
          ⟨some 75, none, .op (.callF 61 [(.t 74), (.c (.int .i64 2))])⟩,
          ⟨some 76, none, .op (.mv (.c (.int .i64 0)))⟩])
        (.block 5
          (.loop
            (.seq (.ops [⟨some 77, none, .op (.bin .lss (.t 76) (.t 75))⟩])
            (.seq (.cond (.t 77)
              .skip
              (.exit 5))
            (.seq (.block 6
              (.draw [(⟨some 78, none, .op (.fieldAddr 1 (.t 12))⟩, 0),
                (⟨some 79, none, .op (.load false 1 (.t 78))⟩, 1),
                (⟨some 80, none, .op (.mv (.t 0))⟩, 0),
                (⟨some 81, none, .op (.callF 61 [(.t 80), (.c (.int .i64 4))])⟩, 2),
                (⟨some 82, none, .op (.mkLst 1 false 1 [(.int .i64 0)] [(0, 1, (.t 81))])⟩, 0),
                (⟨some 83, none, .op (.app 3 1 (.t 79) (.t 82))⟩, 3),
                (⟨some 84, none, .op (.fieldAddr 1 (.t 12))⟩, 0),
                (⟨none, none, .op (.store 1 (.t 84) (.t 83))⟩, 2)]))
            (.ops [⟨some 85, none, .op (.bin .add (.t 76) (.c (.int .i64 1)))⟩,
              ⟨some 76, none, .op (.mv (.t 85))⟩])))))))
        (.cut (.ops [⟨some 86, none, .op (.fieldAddr 1 (.t 11))⟩,
          ⟨some 87, none, .op (.load false 1 (.t 86))⟩,
          ⟨some 88, none, .op (.load true 2 (.t 12))⟩,
          ⟨some 89, none, .op (.mkLst 2 true 1 [(.int .i64 0), (.lst 0 [] true)] [(0, 2, (.t 88))])⟩,
          ⟨some 90, none, .op (.app 109 2 (.t 87) (.t 89))⟩,
          ⟨some 91, none, .op (.fieldAddr 1 (.t 11))⟩,
          ⟨none, none, .op (.store 1 (.t 91) (.t 90))⟩])))))
      (.cut (.ops [⟨some 92, none, .op (.bin .add (.t 69) (.c (.int .i64 1)))⟩,
        ⟨some 69, none, .op (.mv (.t 92))⟩]))))))))
  (.cut (.seq (.ops [⟨some 93, none, .op (.load true 2 (.t 11))⟩,
    ⟨some 94, none, .op (.mkIfc 113 (.t 93))⟩,
    ⟨some 4, none, .op (.mv (.t 94))⟩])
  .ret)))))))
theorem F63 : FI 63 2 95 7 [.tmp 4] c63 := ⟨⟨Try.f63, Try.func63, by kernel_rfl, by kernel_rfl, by kernel_rfl⟩, by kernel_rfl, by decide, by kernel_rfl⟩
end Go.Proofs
/- Lists that grow in memory; rounds of a range that appends. -/
set_option linter.unusedVariables false
set_option linter.unusedSimpArgs false
namespace Go.Proofs
open Go Go.Abs
/-- A slice that grows: its rows of cells. -/
def GBuf (el : TypeId) (sz : Nat) (hp : AHeap) (X : Nat) (L : AV) (rows : List (List AV)) (G : List Nat) : Prop :=
  (∀ r ∈ rows, r.length = sz ∧ r.all AV.scal = true) ∧ ((L = .lst 0 [] true ∧ rows = [] ∧ G = [X]) ∨ (∃ eb ver frz, L = .sl sz eb ver 0 rows.length ∧ hp[eb]? = some (.cells ver (some el) rows.flatten frz) ∧ X ≠ eb ∧ frz ≤ rows.flatten.length ∧ G = [X, eb]))
theorem flatten_len {sz : Nat} : ∀ {rows : List (List AV)}, (∀ r ∈ rows, r.length = sz ∧ r.all AV.scal = true) → rows.flatten.length = rows.length * sz ∧ rows.flatten.all AV.scal = true
  | [], _ => by simp
  | a :: r, h => by
    have h1 := flatten_len fun x hx => h x (List.mem_cons_of_mem _ hx)
    have h2 := h a (List.mem_cons_self ..)
    simp only [List.flatten_cons, List.length_append, List.length_cons, List.all_append, h1, h2, Bool.and_self, and_true]
    rw [Nat.add_mul]; omega
theorem GBuf.mem {el sz : Nat} {hp : AHeap} {X : Nat} {L : AV} {rows : List (List AV)} {G : List Nat} (h : GBuf el sz hp X L rows G) : X ∈ G := by
  rcases h.2 with ⟨_, _, rfl⟩ | ⟨eb, ver, frz, _, h2, _, _, rfl⟩ <;> simp
theorem GBuf.lt {el sz : Nat} {hp : AHeap} {X : Nat} {L : AV} {rows : List (List AV)} {G : List Nat} (h : GBuf el sz hp X L rows G) (hX : X < hp.length) : ∀ x ∈ G, x < hp.length := by
  intro x hx
  rcases h.2 with ⟨_, _, rfl⟩ | ⟨eb, ver, frz, _, h2, _, _, rfl⟩
  · simp at hx; omega
  · simp at hx
    rcases hx with rfl | rfl
    · exact hX
    · exact lt_of_get h2
theorem GBuf.stays {el sz : Nat} {hp hp' : AHeap} {X : Nat} {L : AV} {rows : List (List AV)} {G : List Nat} (h : GBuf el sz hp X L rows G) (e : ∀ x ∈ G, x ≠ X → hp'[x]? = hp[x]?) : GBuf el sz hp' X L rows G := by
  refine ⟨h.1, ?_⟩
  rcases h.2 with h | ⟨eb, ver, frz, h1, h2, h3, h4, rfl⟩
  · exact .inl h
  · exact .inr ⟨eb, ver, frz, h1, by rw [e eb (by simp) (Ne.symm h3)]; exact h2, h3, h4, rfl⟩
theorem gbuf_app {el sz : Nat} {hp : AHeap} {X : Nat} {L x : AV} {rows : List (List AV)} {row : List AV} {G : List Nat} (hB : GBuf el sz hp X L rows G) (hX : X < hp.length) (h1 : lenA x = some 1) (h2 : firstA hp sz 1 x = some row) (hr : row.length = sz ∧ row.all AV.scal = true) (hl : rows.length + 1 ≤ 1073741824) :
    ∃ v oh, appR hp el sz L x = some (v, oh) ∧ ∃ hp' G', hp' = oh.getD hp ∧ hp'[X]? = hp[X]? ∧ GBuf el sz hp' X v (rows ++ [row]) G' ∧ Keep hp hp' G ∧ (∀ x ∈ G', x ∈ G ∨ hp.length ≤ x) ∧ (∃ xs, v.cells? = some xs ∧ xs = [v]) := by
  have hrows : ∀ r ∈ rows ++ [row], r.length = sz ∧ r.all AV.scal = true := by
    intro r hm
    simp at hm
    rcases hm with hm | rfl
    · exact hB.1 r hm
    · exact hr
  unfold appR
  rw [h1]
  simp only
  rw [h2]
  simp only [hr.2, Bool.not_true, Bool.false_eq_true, if_false]
  rcases hB.2 with ⟨rfl, rfl, rfl⟩ | ⟨bb, ver, frz, rfl, g1, g2, g3, rfl⟩
  · simp only
    rw [if_neg (by decide)]
    have h3 : firstA hp sz ([] : List AV).length (.lst 0 [] true) = some [] := by
      unfold firstA
      simp
    rw [h3]
    simp only [List.length_nil, Nat.zero_add]
    rw [if_pos ⟨by decide, rfl⟩]
    refine ⟨_, _, rfl, _, [X, hp.length], rfl, ?_, ⟨hrows, .inr ⟨hp.length, 0, 0, rfl, ?_, by omega, Nat.zero_le _, rfl⟩⟩, Keep.app _ _ _, ?_, _, rfl, rfl⟩
    · simp only [Option.getD_some]; rw [List.getElem?_append_left hX]
    · simp
    · intro x hx; simp at hx; rcases hx with rfl | rfl <;> simp
  · have hf := flatten_len hB.1
    simp only
    rw [g1]
    simp only
    rw [if_pos ⟨.inl trivial, trivial, trivial, trivial, hf.1.symm, hf.2, hl, g3⟩, if_neg (by decide)]
    refine ⟨_, _, rfl, _, [X, bb], rfl, ?_, ⟨hrows, .inr ⟨bb, ver + 1, frz, by simp, ?_, g2, by rw [List.flatten_append, List.length_append]; omega, rfl⟩⟩, Keep.set (by simp), fun x hx => .inl hx, _, rfl, rfl⟩
    · simp only [Option.getD_some]; rw [List.getElem?_set_ne (fun e => g2 e.symm)]
    · simp only [Option.getD_some]; rw [List.getElem?_set_self (lt_of_get g1)]; simp
theorem first_agg (h : AHeap) {sz : Nat} {row : List AV} (hr : row.length = sz) (hs : AV.cells? (.agg row) = some row) : firstA h sz 1 (.lst sz [.agg row] true) = some row := by
  unfold firstA
  simp only
  rw [if_pos ⟨Nat.le_refl _, .inl trivial⟩]
  simp [hs, hr]
end Go.Proofs
/- Contracts: rounds of the range over the entries that are read. -/
set_option linter.unusedVariables false
set_option linter.unusedSimpArgs false
namespace Go.Proofs
open Go Go.Abs
theorem inl_yield (b : Nat) : cfg0.inl (Try.prog.funcs.size + b) = true := by
  have h1 : Try.prog.funcs.size = 104 := by kernel_rfl
  have h : ∀ f, 104 ≤ f → cfg0.inl f = true := fun f hf => by
    show (inlL.contains f || decide (104 ≤ f)) = true
    simp [hf]
  exact h _ (Nat.le_trans (Nat.le_of_eq h1.symm) (Nat.le_add_right _ _))
/-- The node that is filled, and the round's text. -/
structure XS (hp : AHeap) (X Bk : Nat) (tree lv : Int) (top : Bool) (lp : AB) (es : List Entry) (G : List Nat) : Prop where
  node : ∃ L, hp[X]? = some (.cells 0 (some 115) [i64 tree, i64 lv, .bool top, L] 0) ∧ GBuf 51 22 hp X L (es.map Entry.cells) G
  loop : hp[Bk]? = some lp
  out : Bk ∉ G
theorem XS.lt {hp : AHeap} {X Bk : Nat} {tree lv : Int} {top : Bool} {lp : AB} {es : List Entry} {G : List Nat} (h : XS hp X Bk tree lv top lp es G) : ∀ x ∈ G, x < hp.length := by
  obtain ⟨L, h1, h2⟩ := h.node
  exact h2.lt (lt_of_get h1)
theorem XS.stays {hp hp' : AHeap} {X Bk : Nat} {tree lv : Int} {top : Bool} {lp : AB} {es : List Entry} {G F : List Nat} (h : XS hp X Bk tree lv top lp es G) (k : Keep hp hp' F) (hG : ∀ x ∈ G, x ∉ F) (hB : Bk ∉ F) : XS hp' X Bk tree lv top lp es G := by
  have hl := h.lt
  obtain ⟨⟨L, h1, h2⟩, h3, h4⟩ := h
  exact ⟨⟨L, k.get h1 (hG _ h2.mem), h2.stays fun x hx _ => k.2 x (hl x hx) (hG x hx)⟩, k.get h3 hB, h4⟩
section
variable {n : Nat} {hp : AHeap}
abbrev rngB : RC × RC := match c63.rngs with
  | p :: _ => p
  | [] => (.skip, .skip)

theorem yield_eq (hn : 1 ≤ n) {X Bk : Nat} {tree lv : Int} {top : Bool} {es : List Entry} {G : List Nat} {tms : Tm} {qs : Array Tmp} {ca cb : Code} {db : Nat} (x : XS hp X Bk tree lv top (.loop false tms qs ca cb db) es G)
    (H : HasL 95 7 [(5, .ptr X 0 0)] tms) (hq : qs.toList = [43]) (hca : resC Try.prog cfg0.inl ca = rngB.1.erase) (hcb : resC Try.prog cfg0.inl cb = rngB.2.erase) (hl : es.length + 1 ≤ 1073741824) (e : Entry) :
    ∃ hp' G', C n (Try.prog.funcs.size + Bk) [e.av] hp = some (.ret (.bool true), hp') ∧ XS hp' X Bk tree lv top (.loop false tms qs ca cb db) (es ++ [e]) G' ∧ Keep hp hp' G ∧ ∀ x ∈ G', x ∈ G ∨ hp.length ≤ x := by
  obtain ⟨m, rfl⟩ : ∃ m, n = m + 1 := ⟨n - 1, by omega⟩
  have hG := x.lt
  obtain ⟨⟨L, x1, x2⟩, x3, x4⟩ := x
  have hXl := lt_of_get x1
  have hBX : Bk ≠ X := by rintro rfl; rw [x1] at x3; cases x3
  have hBl := lt_of_get x3
  -- the memory in a round
  have es1 : (hp ++ [AB.cells 0 (some 51) (keyE []).cells 0]).set hp.length (.cells 0 (some 51) e.cells 0) = hp ++ [.cells 0 (some 51) e.cells 0] := by simp
  have key := yieldI (P := Try.prog) (call := C m) (inl := cfg0.inl) (k := KK) (n := 95) (d := 7) (ra := rngB.1) (rb := rngB.2) rfl rfl ca cb hca hcb rfl rfl (by decide) (b := Bk) (args := [e.av]) (tms := tms) (qs := qs) (db := db) (h := hp)
    (R := fun hp' => ∃ G', XS hp' X Bk tree lv top (.loop false tms qs ca cb db) (es ++ [e]) G' ∧ Keep hp hp' G ∧ ∀ x ∈ G', x ∈ G ∨ hp.length ≤ x) H x3 (by rw [← Array.length_toList, hq]; rfl) (by rw [hq]; rfl) ?_
  · obtain ⟨hp', h1, G', h2, h3, h4⟩ := key
    exact ⟨hp', G', by rw [show C (m + 1) (Try.prog.funcs.size + Bk) [e.av] hp = _ from yieldC (inl_yield Bk)]; exact h1, h2, h3, h4⟩
  rw [hq]
  conv => whnf
  refine stI (get_last _ _) (by rfl) (by rfl) (by rfl) (by rfl) ?_
  refine ⟨rfl, rfl, ?_, ?_⟩
  · show ((hp ++ [AB.cells 0 (some 51) (keyE []).cells 0]).set hp.length (.cells 0 (some 51) e.cells 0))[Bk]? = _
    rw [es1, List.getElem?_append_left hBl]; exact x3
  -- what the round does
  have hB2 : Bk < (hp ++ [AB.cells 0 (some 51) e.cells 0]).length := by simp; omega
  have x1' : ((hp ++ [AB.cells 0 (some 51) e.cells 0]).set Bk (.loop true tms qs ca cb db))[X]? = some (.cells 0 (some 115) [i64 tree, i64 lv, .bool top, L] 0) := by
    rw [List.getElem?_set_ne hBX, List.getElem?_append_left hXl]; exact x1
  have xe : ((hp ++ [AB.cells 0 (some 51) e.cells 0]).set Bk (.loop true tms qs ca cb db))[hp.length]? = some (.cells 0 (some 51) e.cells 0) := by
    rw [List.getElem?_set_ne (by omega)]; simp
  have xb : ((hp ++ [AB.cells 0 (some 51) e.cells 0]).set Bk (.loop true tms qs ca cb db))[Bk]? = some (.loop true tms qs ca cb db) := by
    rw [List.getElem?_set_self hB2]
  have x2' : GBuf 51 22 ((hp ++ [AB.cells 0 (some 51) e.cells 0]).set Bk (.loop true tms qs ca cb db)) X L (es.map Entry.cells) G := x2.stays fun y hy _ => by
    rw [List.getElem?_set_ne (by rintro rfl; exact x4 hy), List.getElem?_append_left (hG y hy)]
  obtain ⟨v, oh, ea, hp2, G', rfl, g1, g2, g3, g4, xs, g5, rfl⟩ := gbuf_app (x := .lst 22 [.agg e.cells] true) x2' (lt_of_get x1') rfl (first_agg _ rfl rfl) ⟨rfl, rfl⟩ (by simpa using hl)
  have f1 := g1.trans x1'
  have fin : ∀ (L' : LT), (fun ex s2 => ex = Ex.norm ∧ s2.df = [] ∧ s2.h[Bk]? = some (.loop true tms qs ca cb db) ∧ ∃ G', XS (s2.h.set Bk (.loop false tms qs ca cb db)) X Bk tree lv top (.loop false tms qs ca cb db) (es ++ [e]) G' ∧ Keep hp (s2.h.set Bk (.loop false tms qs ca cb db)) G ∧ ∀ x ∈ G', x ∈ G ∨ hp.length ≤ x) Ex.norm
      (⟨L', (oh.getD ((hp ++ [AB.cells 0 (some 51) e.cells 0]).set Bk (.loop true tms qs ca cb db))).set X (.cells 0 (some 115) (putAt [i64 tree, i64 lv, .bool top, L] 3 [v]) 0), []⟩ : LS) := by
    intro L'
    have y1 := g3.get xb (fun q => x4 (by simpa using q))
    have hBG' : Bk ∉ G' := fun q => by
      rcases g4 Bk q with q | q
      · exact x4 q
      · simp at q; omega
    have y2 : ((oh.getD ((hp ++ [AB.cells 0 (some 51) e.cells 0]).set Bk (.loop true tms qs ca cb db))).set X (.cells 0 (some 115) (putAt [i64 tree, i64 lv, .bool top, L] 3 [v]) 0))[Bk]? = some (.loop true tms qs ca cb db) := by
      rw [List.getElem?_set_ne (Ne.symm hBX)]; exact y1
    refine ⟨rfl, rfl, y2, G', ⟨⟨v, ?_, ?_⟩, ?_, hBG'⟩, ⟨?_, fun y hy hn => ?_⟩, fun y hy => (g4 y hy).imp id fun q => by simp at q; omega⟩
    · rw [List.getElem?_set_ne hBX, List.getElem?_set_self (lt_of_get f1)]; rfl
    · rw [List.map_append]
      refine g2.stays fun y hy hyX => ?_
      rw [List.getElem?_set_ne (by rintro rfl; exact hBG' hy), List.getElem?_set_ne (Ne.symm hyX)]
    · rw [List.getElem?_set_self (lt_of_get y2)]
    · have := g3.1
      simp at this ⊢
      omega
    · have hyX : y ≠ X := by rintro rfl; exact hn x2.mem
      by_cases hyB : y = Bk
      · subst hyB
        rw [List.getElem?_set_self (lt_of_get y2)]; exact x3.symm
      · rw [List.getElem?_set_ne (Ne.symm hyB), List.getElem?_set_ne (Ne.symm hyX), g3.2 y (by simp; omega) hn, List.getElem?_set_ne (Ne.symm hyB), List.getElem?_append_left hy]
  show Wp _ _ _ _ _ _ _ ⟨_, ((hp ++ [AB.cells 0 (some 51) (keyE []).cells 0]).set hp.length (.cells 0 (some 51) e.cells 0)).set Bk (.loop true tms qs ca cb db), []⟩ _
  rw [es1]
  conv => whnf
  refine ldI x1' ?_
  conv => whnf
  refine ldI xe ?_
  conv => whnf
  refine ⟨rfl, ?_⟩
  refine ⟨_, ea, ?_⟩
  cases oh with
  | none =>
    conv => whnf
    refine stI x1' g5 (by rfl) (by rfl) (by rfl) ?_
    exact fin _
  | some h2 =>
    conv => whnf
    refine stI f1 g5 (by rfl) (by rfl) (by rfl) ?_
    exact fin _
end
end Go.Proofs
