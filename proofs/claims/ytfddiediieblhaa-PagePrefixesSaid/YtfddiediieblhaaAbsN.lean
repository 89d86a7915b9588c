/- Values that outlive the memory in which they were made. -/
import Derived.Test.YtfddiediieblhaaAbsM
set_option linter.unusedVariables false
set_option linter.unusedSimpArgs false
namespace Go.Abs

def allM (f : AV → Option AV) : List AV → Option (List AV)
  | [] => some []
  | x :: xs => match f x, allM f xs with
    | some y, some ys => some (y :: ys)
    | _, _ => none

/-- A value without the machine's own blocks: what they hold now is kept. Nesting at most n. -/
def frz (h : AHeap) : Nat → AV → Option AV
  | 0, _ => none
  | n + 1, x => match x with
    | .ptr b ver o => match h[b]? with
      | some (.cells ver' _ cs _) => if ver' = ver then (allM (frz h n) cs).map fun ds => .pin ds o else none
      | _ => none
    | .sl sz b ver o len => match h[b]? with
      | some (.cells ver' _ cs _) => if ver' = ver ∧ o + len * sz ≤ cs.length then match allM (frz h n) ((cs.drop o).take (len * sz)) with
          | some ds => if ds.all AV.scal then some (.lst sz (elemsA ⟨if sz = 1 then .bool else .struct #[], sz, 0, []⟩ len ds) false) else none
          | none => none
        else none
      | _ => none
    | .map _ => none
    | .pin cs o => (allM (frz h n) cs).map fun ds => .pin ds o
    | .lst sz xs c => (allM (frz h n) xs).map fun ys => .lst sz ys c
    | .fn f a b => match allM (frz h n) a, allM (frz h n) b with
      | some a', some b' => if isYield f then none else some (.fn f a' b')
      | _, _ => none
    | .ifc t x => (frz h n x).map (.ifc t)
    | .agg cs => (allM (frz h n) cs).map .agg
    | .tup cs => (allM (frz h n) cs).map .tup
    | x => some x

/-- Where an element stands. -/
def Loc (S : SM) (m : BM) (x : AV) (B q : Nat) : Prop := match x with
  | .agg cs => CR S m cs B q
  | x => ∃ v, S B q = some v ∧ VR S m x v

theorem ER.cons_iff {S : SM} {m : BM} {sz : Nat} {x : AV} {xs : List AV} {B q : Nat} : ER S m sz (x :: xs) B q ↔ Loc S m x B q ∧ ER S m sz xs B (q + sz) := by
  cases x <;> simp only [ER, Loc]

section
variable {S S' : SM} {m m' : BM} {h : AHeap}

theorem allM_VRs {f : AV → Option AV} (hf : ∀ x y v, f x = some y → VR S m x v → VR S' m' y v) : ∀ {l l' : List AV} {vs : List Value}, allM f l = some l' → VRs S m l vs → VRs S' m' l' vs
  | [], _, _, ha, hv => by unfold allM at ha; cases ha; unfold VRs at *; exact hv
  | x :: xs, _, _, ha, hv => by
    unfold allM at ha
    split at ha
    · rename_i y ys h1 h2
      cases ha
      unfold VRs at hv
      obtain ⟨v, vs', rfl, g1, g2⟩ := hv
      unfold VRs
      exact ⟨v, vs', rfl, hf _ _ _ h1 g1, allM_VRs hf h2 g2⟩
    · cases ha

theorem allM_CR {f : AV → Option AV} (hS : S.le S') (hf : ∀ x y v, f x = some y → VR S m x v → VR S' m' y v) : ∀ {l l' : List AV} {B q : Nat}, allM f l = some l' → CR S m l B q → CR S' m' l' B q
  | [], _, _, _, ha, hv => by unfold allM at ha; cases ha; unfold CR; trivial
  | x :: xs, _, _, _, ha, hv => by
    unfold allM at ha
    split at ha
    · rename_i y ys h1 h2
      cases ha
      unfold CR at hv
      obtain ⟨⟨v, g0, g1⟩, g2⟩ := hv
      unfold CR
      exact ⟨⟨v, hS _ _ _ g0, hf _ _ _ h1 g1⟩, allM_CR hS hf h2 g2⟩
    · cases ha

theorem allM_len {f : AV → Option AV} : ∀ {l l' : List AV}, allM f l = some l' → l'.length = l.length
  | [], _, ha => by unfold allM at ha; cases ha; rfl
  | x :: xs, _, ha => by
    unfold allM at ha
    split at ha
    · rename_i y ys h1 h2; cases ha; simp [allM_len h2]
    · cases ha

theorem allM_ER {f : AV → Option AV} (hf : ∀ x y B q, f x = some y → Loc S m x B q → Loc S' m' y B q) {sz : Nat} : ∀ {l l' : List AV} {B q : Nat}, allM f l = some l' → ER S m sz l B q → ER S' m' sz l' B q
  | [], _, _, _, ha, hv => by unfold allM at ha; cases ha; unfold ER; trivial
  | x :: xs, _, _, _, ha, hv => by
    unfold allM at ha
    split at ha
    · rename_i y ys h1 h2
      cases ha
      obtain ⟨g1, g2⟩ := ER.cons_iff.1 hv
      exact ER.cons_iff.2 ⟨hf _ _ _ _ h1 g1, allM_ER hf h2 g2⟩
    · cases ha

/-- What blocks hold is kept. -/
def Keeps (h : AHeap) (S : SM) (m : BM) (S' : SM) : Prop := S.le S' ∧ ∀ b ver el cs f B K, h[b]? = some (.cells ver el cs f) → m b ver = some (B, K) → ∀ i x, cs[i]? = some x → ∃ v, S' B i = some v ∧ VR S m x v

theorem frz_notAgg {n : Nat} {x y : AV} (hx : frz h n x = some y) (hne : ∀ cs, x ≠ .agg cs) : ∀ ds, y ≠ .agg ds := by
  intro ds e
  subst e
  cases n with
  | zero => unfold frz at hx; cases hx
  | succ n =>
    have opt : ∀ {o : Option (List AV)} {g : List AV → AV} {y : AV}, o.map g = some y → ∃ l, o = some l ∧ y = g l := fun {o g y} e => by
      cases o with
      | none => cases e
      | some l => simp at e; exact ⟨l, rfl, e.symm⟩
    cases x <;> simp only [frz] at hx
    case agg cs => exact hne _ rfl
    case ptr b ver o =>
      split at hx
      · split at hx
        · obtain ⟨_, _, e⟩ := opt hx; cases e
        · cases hx
      · cases hx
    case sl sz b ver o len =>
      split at hx
      · split at hx
        · split at hx
          · split at hx <;> cases hx
          · cases hx
        · cases hx
      · cases hx
    case fn f a b =>
      split at hx
      · split at hx <;> cases hx
      · cases hx
    case ifc t z =>
      cases hz : frz h n z <;> simp [hz] at hx
    all_goals first
      | (cases hx; done)
      | (obtain ⟨_, _, e⟩ := opt hx; cases e; done)

theorem frz_sound (hk : Keeps h S m S') : ∀ (n : Nat), (∀ x y v, frz h n x = some y → VR S m x v → VR S' m' y v) ∧ (∀ x y B q, frz h n x = some y → Loc S m x B q → Loc S' m' y B q)
  | 0 => ⟨(fun x y v hx => by unfold frz at hx; cases hx), (fun x y B q hx => by unfold frz at hx; cases hx)⟩
  | n + 1 => by
    obtain ⟨ih1, ih2⟩ := frz_sound hk n
    have opt : ∀ {o : Option (List AV)} {g : List AV → AV} {y : AV}, o.map g = some y → ∃ l, o = some l ∧ y = g l := fun {o g y} e => by
      cases o with
      | none => cases e
      | some l => simp at e; exact ⟨l, rfl, e.symm⟩
    -- cells of a block, frozen, where they stand
    have hcr : ∀ {b ver : Nat} {el : Option TypeId} {cs : List AV} {f B K : Nat}, h[b]? = some (.cells ver el cs f) → m b ver = some (B, K) → ∀ {o : Nat} {l ds : List AV}, (∀ i x, l[i]? = some x → cs[o + i]? = some x) → allM (frz h n) l = some ds → CR S' m' ds B o := by
      intro b ver el cs f B K hb hm o l ds hl ha
      have hcs := hk.2 b ver el cs f B K hb hm
      induction l generalizing o ds with
      | nil => unfold allM at ha; cases ha; unfold CR; trivial
      | cons x xs ihl =>
        unfold allM at ha
        split at ha
        · rename_i y ys h1 h2
          cases ha
          obtain ⟨v, g1, g2⟩ := hcs o x (by simpa using hl 0 x rfl)
          unfold CR
          refine ⟨⟨v, g1, ih1 _ _ _ h1 g2⟩, ihl (fun i z hz => ?_) h2⟩
          have := hl (i + 1) z (by simpa using hz)
          rwa [show o + (i + 1) = o + 1 + i by omega] at this
        · cases ha
    have main : ∀ x y v, frz h (n + 1) x = some y → VR S m x v → VR S' m' y v := fun x y v hx hv => by
      cases x <;> simp only [frz] at hx
      case ptr b ver o =>
        split at hx
        · rename_i ver' cs f hb
          split at hx
          · rename_i e; subst e
            obtain ⟨ds, ha, rfl⟩ := opt hx
            unfold VR at hv
            obtain ⟨B, K, g1, rfl⟩ := hv
            unfold VR
            exact ⟨B, 0, by simp, hcr hb g1 (fun i x hx => by simpa using hx) ha⟩
          · cases hx
        · cases hx
      case sl sz b ver o len =>
        split at hx
        · rename_i ver' cs f hb
          split at hx
          · rename_i hc
            obtain ⟨rfl, hle⟩ := hc
            split at hx
            · rename_i ds ha
              split at hx
              · rename_i hsc
                cases hx
                unfold VR at hv
                obtain ⟨B, K, cap, g1, rfl, g2, g3⟩ := hv
                have hl : ds.length = len * sz := by rw [allM_len ha]; simp; omega
                have hcrs := hcr hb g1 (o := o) (fun i x hx => by
                  rw [List.getElem?_take] at hx
                  split at hx
                  · rwa [List.getElem?_drop] at hx
                  · cases hx) ha
                obtain ⟨d, hd⟩ : ∃ d : TI, d = ⟨if sz = 1 then .bool else .struct #[], sz, 0, []⟩ := ⟨_, rfl⟩
                rw [← hd]
                have hds : d.size = sz := by rw [hd]
                have hag : isAggD d.desc = false → sz = 1 := fun h => by
                  rw [hd] at h
                  by_cases e : sz = 1
                  · exact e
                  · simp [e, isAggD] at h
                have hel : (elemsA d len ds).length = len := by
                  unfold elemsA
                  cases hg : isAggD d.desc with
                  | true =>
                    simp only [hg, if_true, List.length_map]
                    have : ∀ n (l : List AV), (chunk d.size n l).length = n := fun n => by
                      induction n with
                      | zero => intro l; rfl
                      | succ n ih => intro l; simp [chunk, ih]
                    exact this len ds
                  | false =>
                    simp only [hg, Bool.false_eq_true, if_false]
                    rw [hl, hag hg]; omega
                unfold VR
                exact ⟨_, cap, by rw [hel], by rw [hel]; exact g2, (fun h => by cases h), fun _ => ⟨B, o, rfl, ER.of_cells hds len hcrs hl hsc hag⟩⟩
              · cases hx
            · cases hx
          · cases hx
        · cases hx
      case map b => cases hx
      case pin cs o =>
        obtain ⟨ds, ha, rfl⟩ := opt hx
        unfold VR at hv ⊢
        obtain ⟨B, q, rfl, hc⟩ := hv
        exact ⟨B, q, rfl, allM_CR hk.1 ih1 ha hc⟩
      case lst sz xs c =>
        obtain ⟨ds, ha, rfl⟩ := opt hx
        have hl := allM_len ha
        unfold VR at hv ⊢
        obtain ⟨a, cap, rfl, g1, g2, g3⟩ := hv
        refine ⟨a, cap, by rw [hl], by rw [hl]; exact g1, fun hc => by rw [hl]; exact g2 hc, fun hne => ?_⟩
        obtain ⟨B, q, e, he⟩ := g3 (fun e => by subst e; simp at hl; exact hne hl)
        exact ⟨B, q, e, allM_ER ih2 ha he⟩
      case fn f a b =>
        split at hx
        · rename_i a' b' h1 h2
          split at hx
          · cases hx
          rename_i hy
          cases hx
          unfold VR at hv ⊢
          obtain ⟨x', y', ⟨f', rfl, hf'⟩, g1, g2⟩ := hv
          have hy' : isYield f = false := by simpa using hy
          exact ⟨x', y', ⟨f', rfl, (fnR_plain hy').2 ((fnR_plain hy').1 hf')⟩, allM_VRs ih1 h1 g1, allM_VRs ih1 h2 g2⟩
        · cases hx
      case ifc t z =>
        cases hz : frz h n z with
        | none => simp [hz] at hx
        | some z' =>
          simp [hz] at hx; subst hx
          unfold VR at hv ⊢
          obtain ⟨u, rfl, g1⟩ := hv
          exact ⟨u, rfl, ih1 _ _ _ hz g1⟩
      case agg cs =>
        obtain ⟨ds, ha, rfl⟩ := opt hx
        unfold VR at hv ⊢
        obtain ⟨vs, rfl, g1⟩ := hv
        exact ⟨vs, rfl, allM_VRs ih1 ha g1⟩
      case tup cs =>
        obtain ⟨ds, ha, rfl⟩ := opt hx
        unfold VR at hv ⊢
        obtain ⟨vs, rfl, g1⟩ := hv
        exact ⟨vs, rfl, allM_VRs ih1 ha g1⟩
      all_goals (cases hx; unfold VR at *; exact hv)
    refine ⟨main, fun x y B q hx hl => ?_⟩
    have one : (∀ cs, x ≠ .agg cs) → Loc S' m' y B q := fun hne => by
      have hl' : ∃ v, S B q = some v ∧ VR S m x v := by
        cases x <;> first | exact hl | exact (hne _ rfl).elim
      obtain ⟨v, g1, g2⟩ := hl'
      have hv := main x y v hx g2
      have hy : ∀ cs, y ≠ .agg cs := frz_notAgg hx hne
      have hyl : Loc S' m' y B q = ∃ v, S' B q = some v ∧ VR S' m' y v := by cases y <;> first | rfl | exact (hy _ rfl).elim
      rw [hyl]
      exact ⟨v, hk.1 _ _ _ g1, hv⟩
    cases x
    case agg cs =>
      simp only [frz] at hx
      obtain ⟨ds, ha, rfl⟩ := opt hx
      exact allM_CR hk.1 ih1 ha hl
    all_goals exact one (fun _ e => by cases e)
end
end Go.Abs
