/- The framework, part 5: a row of operations, in any order that their edges allow. No condition. -/
import Derived.Test.YtkiakofohkecaaaDoorFw4
namespace Go.Fw
open Go

section
variable {P : Program}

theorem bnd_mono {α : Type} {x : Option α} {K K' : α → Prop} (h : ∀ a, K a → K' a) (b : bnd x K) : bnd x K' := let ⟨a, e, k⟩ := b; ⟨a, e, h a k⟩
theorem callV_mono {f : Value} {args : Array Value} {h : Hp} {K K' : Value → Hp → Prop} (hk : ∀ v h, K v h → K' v h) (c : callV P f args h K) : callV P f args h K' := by
  unfold callV at *
  split at c
  · split at c
    · exact c.mono hk
    · exact c.elim
  · exact c.elim
theorem efS_mono {α : Type} {s : Sem α} {h : Hp} {K K' : α → Hp → Prop} (hk : ∀ v h, K v h → K' v h) (c : efS P s h K) : efS P s h K' :=
  fun w hw => let ⟨v, w', a, b, k⟩ := c w hw; ⟨v, w', a, b, hk _ _ k⟩

/-- What may be taken for granted of an effect: it grows with what is asked behind it, and does not hold of nothing. -/
structure EffOk (f : Hp → (Value → Hp → Prop) → Prop) : Prop where
  mono : ∀ {h K K'}, (∀ v h, K v h → K' v h) → f h K → f h K'
  strict : ∀ {h}, ¬ f h (fun _ _ => False)

def Res.ok : Res → Prop
  | .eff f => EffOk f
  | .rd f => ∀ h o v, f h = some v → f (h.push o) = some v
  | _ => True

def wAt (h : Hp) : World := { (default : World) with heap := h }

theorem CallsH.strict {f : FuncId} {args : Array Value} {h : Hp} : ¬ CallsH P f args h (fun _ _ => False) := fun c => by
  obtain ⟨e, w', fr, ⟨v, _, _, hf⟩, _⟩ := c (wAt h) rfl []
  exact hf
theorem efS_strict {α : Type} {s : Sem α} {h : Hp} : ¬ efS P s h (fun _ _ => False) := fun c => by
  obtain ⟨v, w', _, _, hf⟩ := c (wAt h) rfl
  exact hf
theorem callV_ok (f : Value) (args : Array Value) : EffOk (callV P f args) where
  mono hk c := callV_mono hk c
  strict c := by
    unfold callV at c
    split at c
    · split at c
      · exact CallsH.strict c
      · exact c
    · exact c
theorem efS_ok (s : Sem Value) : EffOk (fun h K => efS P s h K) where
  mono hk c := efS_mono hk c
  strict c := efS_strict c
theorem efU_ok (s : Sem Unit) : EffOk (fun h K => efS P s h fun _ h' => K undef h') where
  mono hk c := efS_mono (fun _ _ k => hk _ _ k) c
  strict c := efS_strict c
theorem st_ok (n : Nat) (a v : Value) : EffOk (fun h K => bnd (stE n h a v) fun h' => K undef h') where
  mono hk c := bnd_mono (fun _ k => hk _ _ k) c
  strict c := let ⟨_, _, k⟩ := c; k
theorem invoke_ok (r : Value) (m : String) (as : Array Value) : EffOk (fun h K => invT P r m as h K) where
  mono hk c := fun w hw => let ⟨f, args, w', a, b, k⟩ := c w hw; ⟨f, args, w', a, b, k.mono hk⟩
  strict c := let ⟨_, _, _, _, _, k⟩ := c (wAt _) rfl; CallsH.strict k

theorem ldS_push {h : Hp} {o : Obj} {a v : Value} (hv : ldS h a = some v) : ldS (h.push o) a = some v := by
  unfold ldS at *
  split at hv
  · rename_i b of
    split at hv
    · rename_i c E fz hb
      have hlt : b < h.size := (Array.getElem?_eq_some_iff.1 hb).1
      rw [Array.getElem?_push, if_neg (by omega), hb]
      exact hv
    · simp at hv
  · simp at hv
theorem ldA_push {n : Nat} {h : Hp} {o : Obj} {a v : Value} (hv : ldA n h a = some v) : ldA n (h.push o) a = some v := by
  unfold ldA at *
  split at hv
  · rename_i b of
    split at hv
    · rename_i c E fz hb
      have hlt : b < h.size := (Array.getElem?_eq_some_iff.1 hb).1
      rw [Array.getElem?_push, if_neg (by omega), hb]
      exact hv
    · simp at hv
  · simp at hv

inductive Cls where | pure | rd | rds | al | eff
  deriving DecidableEq
def Res.cls : Res → Cls
  | .triv _ | .pure _ | .prs _ | .bad => .pure
  | .rd _ => .rd
  | .rds _ => .rds
  | .al .. | .alo .. | .mp => .al
  | .eff _ => .eff
def clsOf (P : Program) (o : Oper) : Cls := (res P o fun _ => undef).cls

theorem res_cls (o : Oper) (ρ : Operand → Value) : (res P o ρ).cls = clsOf P o := by
  obtain ⟨dst, op, ty, pos, aft, gd⟩ := o
  unfold clsOf
  cases op <;> simp only [res] <;> first
    | rfl
    | (unfold resBin; (repeat' split) <;> first | rfl | (simp_all; done))
    | (unfold resBuild; (repeat' split) <;> first | rfl | (simp_all; done))
    | (unfold resBuildSlice; (repeat' split) <;> first | rfl | (simp_all; done))
    | (unfold resField; (repeat' split) <;> first | rfl | (simp_all; done))
    | (unfold resFieldV; (repeat' split) <;> first | rfl | (simp_all; done))
    | (unfold resIndexA; (repeat' split) <;> first | rfl | (simp_all; done))
    | (unfold resIndexV; (repeat' split) <;> first | rfl | (simp_all; done))
    | (unfold resConv; (repeat' split) <;> first | rfl | (simp_all; done))
    | ((repeat' split) <;> first | rfl | (simp_all; done))
    | skip
  case slice t x lo hi mx => cases mx <;> simp only [Option.map_none, Option.map_some, resSlice] <;> (repeat' split) <;> rfl
  case call c =>
    obtain ⟨ce, args, at_⟩ := c
    unfold resCall
    cases ce with
    | value f => rfl
    | invoke r m => rfl
    | builtin b =>
      cases b <;> first
        | rfl
        | (simp only; split <;> first | rfl | (unfold resLen; (repeat' split) <;> first | rfl | (simp_all; done)))

theorem res_ok (o : Oper) (ρ : Operand → Value) : (res P o ρ).ok := by
  obtain ⟨dst, op, ty, pos, aft, gd⟩ := o
  cases op <;> simp only [res] <;> first
    | exact trivial
    | exact efS_ok _
    | exact efU_ok _
    | (unfold resBin; (repeat' split) <;> exact trivial)
    | (unfold resBuild; (repeat' split) <;> exact trivial)
    | (unfold resBuildSlice; (repeat' split) <;> exact trivial)
    | (unfold resField; (repeat' split) <;> exact trivial)
    | (unfold resFieldV; (repeat' split) <;> exact trivial)
    | (unfold resIndexA; (repeat' split) <;> exact trivial)
    | (unfold resIndexV; (repeat' split) <;> exact trivial)
    | (unfold resSlice; (repeat' split) <;> exact trivial)
    | (unfold resConv; (repeat' split) <;> first | exact trivial | exact efS_ok _)
    | skip
  case alloc t => split <;> exact trivial
  case load t a => split <;> first | exact trivial | exact fun _ _ _ h => ldA_push h | exact fun _ _ _ h => ldS_push h
  case store t a x => split <;> first | exact trivial | exact st_ok _ _ _
  case makeMap t r => cases r <;> first | exact trivial | exact efS_ok _
  case call c =>
    obtain ⟨ce, args, at_⟩ := c
    unfold resCall
    cases ce with
    | value f => exact callV_ok _ _
    | invoke r m => exact invoke_ok _ _ _
    | builtin b =>
      cases b <;> first
        | exact trivial
        | exact efS_ok _
        | (simp only; split <;> first | exact trivial | (unfold resLen; (repeat' split) <;> exact trivial))

theorem Res.run_mono {r : Res} (ho : r.ok) {h : Hp} {K K' : Value → Hp → Prop} (hk : ∀ v h, K v h → K' v h) (c : r.run P h K) : r.run P h K' := by
  cases r <;> simp only [Res.run] at * <;> first
    | exact hk _ _ c
    | exact bnd_mono (fun _ k => hk _ _ k) c
    | (obtain ⟨v, a, k⟩ := c; exact ⟨v, a, hk _ _ k⟩)
    | exact ho.mono hk c
    | exact c

theorem Res.strict {r : Res} (ho : r.ok) {h : Hp} (c : r.run P h fun _ _ => False) : False := by
  cases r <;> simp only [Res.run] at * <;> first
    | exact c
    | (obtain ⟨v, a, k⟩ := c; exact k)
    | exact ho.strict c

/-- The operation as it is carried out, or passed over. -/
def Res.eff' (g : Bool) (r : Res) : Res := match g with | true => r | false => .triv undef
theorem Res.runG_iff (g : Bool) (r : Res) (h : Hp) (K : Value → Hp → Prop) : r.runG P g h K ↔ (r.eff' g).run P h K := by
  cases g <;> cases r <;> simp [Res.runG, Res.eff', Res.run, bnd, guardT]
theorem Res.eff'_ok {r : Res} (ho : r.ok) (g : Bool) : (r.eff' g).ok := by cases g; exact trivial; exact ho
theorem Res.eff'_cls (r : Res) (g : Bool) : (r.eff' g).cls = .pure ∨ (r.eff' g).cls = r.cls := by cases g; exact .inl rfl; exact .inr rfl

/-- May an operation of class x that stands first change places with one of class i behind it? -/
def Cls.swaps (x i : Cls) : Bool :=
  match x, i with
  | .pure, _ | _, .pure => true
  | .rd, .rd | .rd, .rds | .rds, .rd | .rds, .rds => true
  | .rd, .al => true
  | _, _ => false

theorem Res.swap_pure_left {x i : Res} (hi : i.ok) (hc : x.cls = .pure) {h : Hp} {F : Value → Value → Hp → Prop}
    (c : x.run P h fun v h1 => i.run P h1 fun u h2 => F v u h2) : i.run P h fun u h1 => x.run P h1 fun v h2 => F v u h2 := by
  cases x <;> simp [Res.cls] at hc
  · exact c
  · obtain ⟨v, e, k⟩ := c; exact Res.run_mono hi (fun u h2 k => Exists.intro v ⟨e, k⟩) k
  · obtain ⟨v, e, k⟩ := c; exact Res.run_mono hi (fun u h2 k => Exists.intro v ⟨e, k⟩) k
  · exact False.elim c

theorem Res.swap_pure_right {x i : Res} (hx : x.ok) (hc : i.cls = .pure) {h : Hp} {F : Value → Value → Hp → Prop}
    (c : x.run P h fun v h1 => i.run P h1 fun u h2 => F v u h2) : i.run P h fun u h1 => x.run P h1 fun v h2 => F v u h2 := by
  cases i <;> simp [Res.cls] at hc
  · exact c
  · rename_i o
    cases o with
    | none => exact (Res.strict hx (Res.run_mono hx (fun v h1 k => by obtain ⟨u, e, _⟩ := k; simp at e) c)).elim
    | some u => exact Exists.intro u ⟨rfl, Res.run_mono hx (fun v h1 k => by obtain ⟨u', e, k⟩ := k; obtain rfl := Option.some.inj e; exact k) c⟩
  · rename_i s
    by_cases hs : ∃ u, ∀ w, s.run P w = .ok u w
    · obtain ⟨u, hu⟩ := hs
      refine Exists.intro u ⟨hu, Res.run_mono hx (fun v h1 k => ?_) c⟩
      obtain ⟨u', e, k⟩ := k
      have := (hu default).symm.trans (e default)
      obtain rfl : u = u' := by injection this
      exact k
    · exact (Res.strict hx (Res.run_mono hx (fun v h1 k => by obtain ⟨u, e, _⟩ := k; exact hs ⟨u, e⟩) c)).elim
  · exact (Res.strict hx (Res.run_mono hx (fun v h1 k => k) c)).elim

theorem Res.swap {x i : Res} (hx : x.ok) (hi : i.ok) (hs : x.cls.swaps i.cls = true) {h : Hp} {F : Value → Value → Hp → Prop}
    (c : x.run P h fun v h1 => i.run P h1 fun u h2 => F v u h2) : i.run P h fun u h1 => x.run P h1 fun v h2 => F v u h2 := by
  by_cases h1 : x.cls = .pure
  · exact Res.swap_pure_left hi h1 c
  by_cases h2 : i.cls = .pure
  · exact Res.swap_pure_right hx h2 c
  cases x <;> simp [Res.cls] at h1 <;> cases i <;> simp [Res.cls] at h2 <;> simp [Res.cls, Cls.swaps] at hs <;> simp only [Res.run] at *
  · obtain ⟨v, e, u, e', k⟩ := c; exact ⟨u, e', v, e, k⟩
  · obtain ⟨v, e, u, e', k⟩ := c; exact ⟨u, e', v, e, k⟩
  · obtain ⟨v, e, k⟩ := c; exact ⟨v, hx _ _ _ e, k⟩
  · obtain ⟨v, e, u, e', k⟩ := c; exact ⟨u, e', v, hx _ _ _ e, k⟩
  · obtain ⟨v, e, k⟩ := c; exact ⟨v, hx _ _ _ e, k⟩
  · obtain ⟨v, e, u, e', k⟩ := c; exact ⟨u, e', v, e, k⟩
  · obtain ⟨v, e, u, e', k⟩ := c; exact ⟨u, e', v, e, k⟩

end
end Go.Fw
