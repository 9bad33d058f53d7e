/- StreamDoes and its parts, laid together by a program of ours: Vcf -/
import Derived.Test.YteedolonhdbieaaGreatDoorK1
set_option autoImplicit false
set_option linter.all false
section
namespace Go.Vc
inductive Ty where
 | int (k : IntKind) | bool | str | addr | ptr | slc | mp | fn
 | ag (l : List Sh)
abbrev CurS : List Sh -> Type -> Type
 | [], R => R
 | .int _ :: r, R => Int -> CurS r R
 | .bool :: r, R => Bool -> CurS r R
 | .str :: r, R => ByteArray -> CurS r R
 | .ptr :: r, R => Option Addr -> CurS r R
 | .slc :: r, R => Option Addr -> Nat -> Nat -> CurS r R
 | .mp :: r, R => Option Nat -> CurS r R
 | .fn :: r, R => Value -> CurS r R
 | .ifc :: r, R => Value -> CurS r R
 | .row _ _ :: r, R => List Int -> CurS r R
abbrev Cur : List Ty -> Type -> Type
 | [], R => R
 | .int _ :: r, R => Int -> Cur r R
 | .bool :: r, R => Bool -> Cur r R
 | .str :: r, R => ByteArray -> Cur r R
 | .addr :: r, R => Addr -> Cur r R
 | .ptr :: r, R => Option Addr -> Cur r R
 | .slc :: r, R => Option Addr -> Nat -> Nat -> Cur r R
 | .mp :: r, R => Option Nat -> Cur r R
 | .fn :: r, R => Value -> Cur r R
 | .ag l :: r, R => CurS l (Cur r R)
def apS : (l : List Sh) -> {R : Type} -> CurS l R -> List Ch -> (R -> Prop) -> Prop
 | [], _, F, [], K => K F
 | .int k :: r, _, F, .c (.int k' n) :: cs, K => match k == k' with | true => apS r (F n) cs K | false => False
 | .bool :: r, _, F, .c (.bool b) :: cs, K => apS r (F b) cs K
 | .str :: r, _, F, .c (.string b) :: cs, K => apS r (F b) cs K
 | .ptr :: r, _, F, .c (.pointer b) :: cs, K => apS r (F b) cs K
 | .slc :: r, _, F, .c (.slice p l c) :: cs, K => apS r (F p l c) cs K
 | .mp :: r, _, F, .c (.map b) :: cs, K => apS r (F b) cs K
 | .fn :: r, _, F, .c v :: cs, K => apS r (F v) cs K
 | .ifc :: r, _, F, .c v :: cs, K => apS r (F v) cs K
 | .row k n :: r, _, F, .row k' n' ns :: cs, K => match k == k', Nat.beq n n' with | true, true => apS r (F ns) cs K | _, _ => False
 | _, _, _, _, _ => False
def apP : (l : List Ty) -> {R : Type} -> Cur l R -> List DV -> (R -> Prop) -> Prop
 | [], _, F, [], K => K F
 | .int k :: r, _, F, .one (.int k' n) :: xs, K => match k == k' with | true => apP r (F n) xs K | false => False
 | .bool :: r, _, F, .one (.bool b) :: xs, K => apP r (F b) xs K
 | .str :: r, _, F, .one (.string b) :: xs, K => apP r (F b) xs K
 | .addr :: r, _, F, .addr p :: xs, K => apP r (F p) xs K
 | .addr :: r, _, F, .one (.pointer a) :: xs, K => ∃ p, a = some p /\ apP r (F p) xs K
 | .ptr :: r, _, F, .addr p :: xs, K => apP r (F (some p)) xs K
 | .ptr :: r, _, F, .one (.pointer a) :: xs, K => apP r (F a) xs K
 | .slc :: r, _, F, .one (.slice p l c) :: xs, K => apP r (F p l c) xs K
 | .mp :: r, _, F, .one (.map b) :: xs, K => apP r (F b) xs K
 | .fn :: r, _, F, .one v :: xs, K => apP r (F v) xs K
 | .fn :: r, _, F, .fnv v :: xs, K => apP r (F v) xs K
 | .ag l :: r, _, F, .agg cs :: xs, K => apS l F cs fun f => apP r f xs K
 | _, _, _, _, _ => False
def alS : (l : List Sh) -> {R : Type} -> CurS l R -> (List Ch -> R -> Prop) -> Prop
 | [], _, F, K => K [] F
 | .int k :: r, _, F, K => ∀ n : Int, alS r (F n) fun cs => K (.c (.int k n) :: cs)
 | .bool :: r, _, F, K => ∀ b : Bool, alS r (F b) fun cs => K (.c (.bool b) :: cs)
 | .str :: r, _, F, K => ∀ b : ByteArray, alS r (F b) fun cs => K (.c (.string b) :: cs)
 | .ptr :: r, _, F, K => ∀ b : Option Addr, alS r (F b) fun cs => K (.c (.pointer b) :: cs)
 | .slc :: r, _, F, K => ∀ (p : Option Addr) (l c : Nat), alS r (F p l c) fun cs => K (.c (.slice p l c) :: cs)
 | .mp :: r, _, F, K => ∀ b : Option Nat, alS r (F b) fun cs => K (.c (.map b) :: cs)
 | .fn :: r, _, F, K => ∀ v : Value, alS r (F v) fun cs => K (.c v :: cs)
 | .ifc :: r, _, F, K => ∀ v : Value, alS r (F v) fun cs => K (.c v :: cs)
 | .row k n :: r, _, F, K => ∀ ns : List Int, alS r (F ns) fun cs => K (.row k n ns :: cs)
def alP : (l : List Ty) -> {R : Type} -> Cur l R -> (List DV -> R -> Prop) -> Prop
 | [], _, F, K => K [] F
 | .int k :: r, _, F, K => ∀ n : Int, alP r (F n) fun xs => K (.one (.int k n) :: xs)
 | .bool :: r, _, F, K => ∀ b : Bool, alP r (F b) fun xs => K (.one (.bool b) :: xs)
 | .str :: r, _, F, K => ∀ b : ByteArray, alP r (F b) fun xs => K (.one (.string b) :: xs)
 | .addr :: r, _, F, K => ∀ p : Addr, alP r (F p) fun xs => K (.addr p :: xs)
 | .ptr :: r, _, F, K => ∀ b : Option Addr, alP r (F b) fun xs => K (.one (.pointer b) :: xs)
 | .slc :: r, _, F, K => ∀ (p : Option Addr) (l c : Nat), alP r (F p l c) fun xs => K (.one (.slice p l c) :: xs)
 | .mp :: r, _, F, K => ∀ b : Option Nat, alP r (F b) fun xs => K (.one (.map b) :: xs)
 | .fn :: r, _, F, K => ∀ v : Value, alP r (F v) fun xs => K (.fnv v :: xs)
 | .ag l :: r, _, F, K => alS l F fun cs f => alP r f fun xs => K (.agg cs :: xs)
def enS : (l : List Sh) -> {R : Type} -> (List Ch -> R) -> CurS l R
 | [], _, Q => Q []
 | .int k :: r, _, Q => fun n => enS r fun cs => Q (.c (.int k n) :: cs)
 | .bool :: r, _, Q => fun n => enS r fun cs => Q (.c (.bool n) :: cs)
 | .str :: r, _, Q => fun n => enS r fun cs => Q (.c (.string n) :: cs)
 | .ptr :: r, _, Q => fun n => enS r fun cs => Q (.c (.pointer n) :: cs)
 | .slc :: r, _, Q => fun p l c => enS r fun cs => Q (.c (.slice p l c) :: cs)
 | .mp :: r, _, Q => fun n => enS r fun cs => Q (.c (.map n) :: cs)
 | .fn :: r, _, Q => fun n => enS r fun cs => Q (.c n :: cs)
 | .ifc :: r, _, Q => fun n => enS r fun cs => Q (.c n :: cs)
 | .row k m :: r, _, Q => fun ns => enS r fun cs => Q (.row k m ns :: cs)
def enR : (l : List Ty) -> {R : Type} -> (List DV -> R) -> Cur l R
 | [], _, Q => Q []
 | .int k :: r, _, Q => fun n => enR r fun xs => Q (.one (.int k n) :: xs)
 | .bool :: r, _, Q => fun n => enR r fun xs => Q (.one (.bool n) :: xs)
 | .str :: r, _, Q => fun n => enR r fun xs => Q (.one (.string n) :: xs)
 | .addr :: r, _, Q => fun n => enR r fun xs => Q (.addr n :: xs)
 | .ptr :: r, _, Q => fun n => enR r fun xs => Q (.one (.pointer n) :: xs)
 | .slc :: r, _, Q => fun p l c => enR r fun xs => Q (.one (.slice p l c) :: xs)
 | .mp :: r, _, Q => fun n => enR r fun xs => Q (.one (.map n) :: xs)
 | .fn :: r, _, Q => fun n => enR r fun xs => Q (.fnv n :: xs)
 | .ag l :: r, _, Q => enS l fun cs => enR r fun xs => Q (.agg cs :: xs)
def decR (l : List Ty) (Q : Cur l (H -> Prop)) (xs : List DV) (h : H) : Prop := apP l Q xs fun f => f h
def W (ps rs : List Ty) (F : Cur ps (Cur rs (H -> Prop) -> H -> Prop)) : Run := fun args Q h => apP ps F args fun f => f (enR rs Q) h
theorem apS_sound : ∀ (l : List Sh) {R : Type} (F : CurS l R) (cs : List Ch) (K : R -> Prop) (K' : List Ch -> R -> Prop), apS l F cs K -> alS l F K' -> oks cs -> ∃ f, K f /\ K' cs f := by
 intro l
 induction l with
 | nil =>
  intro R F cs K K' h h' hok
  cases cs with
  | nil => exact ⟨F, h, h'⟩
  | cons _ _ => simp [apS] at h
 | cons s r ih =>
  intro R F cs K K' h h' hok
  cases cs with
  | nil => cases s <;> simp [apS] at h
  | cons c cs =>
  have hok' := (oks_cons hok).2
  cases s
  case int k =>
   cases c with
   | row _ _ _ => simp [apS] at h
   | c v =>
    cases v <;> simp only [apS] at h
    rename_i k' n
    by_cases hk : k = k'
    ·subst hk
     simp only [beq_self_eq_true] at h
     exact ih (F n) cs K _ h (h' n) hok'
    ·have : (k == k') = false := by simpa using hk
     simp [this] at h
  case bool => cases c with | row _ _ _ => simp [apS] at h | c v => cases v <;> simp only [apS] at h; rename_i n; exact ih (F n) cs K _ h (h' n) hok'
  case str => cases c with | row _ _ _ => simp [apS] at h | c v => cases v <;> simp only [apS] at h; rename_i n; exact ih (F n) cs K _ h (h' n) hok'
  case ptr => cases c with | row _ _ _ => simp [apS] at h | c v => cases v <;> simp only [apS] at h; rename_i n; exact ih (F n) cs K _ h (h' n) hok'
  case slc => cases c with | row _ _ _ => simp [apS] at h | c v => cases v <;> simp only [apS] at h; rename_i p l c; exact ih (F p l c) cs K _ h (h' p l c) hok'
  case mp => cases c with | row _ _ _ => simp [apS] at h | c v => cases v <;> simp only [apS] at h; rename_i n; exact ih (F n) cs K _ h (h' n) hok'
  case fn => cases c with | row _ _ _ => simp [apS] at h | c v => simp only [apS] at h; exact ih (F v) cs K _ h (h' v) hok'
  case ifc => cases c with | row _ _ _ => simp [apS] at h | c v => simp only [apS] at h; exact ih (F v) cs K _ h (h' v) hok'
  case row k n =>
   cases c with
   | c v => simp [apS] at h
   | row k' n' ns =>
    simp only [apS] at h
    split at h
    ·rename_i h1 h2
     have h1 : k = k' := by simpa using h1
     have h2 := Nat.eq_of_beq_eq_true h2
     subst h1; subst h2
     exact ih (F ns) cs K _ h (h' ns) hok'
    ·exact h.elim
theorem apP_sound : ∀ (l : List Ty) {R : Type} (F : Cur l R) (xs : List DV) (K : R -> Prop) (K' : List DV -> R -> Prop), apP l F xs K -> alP l F K' -> (∀ x, x ∈ xs -> x.ok) ->
  ∃ ys f, K f /\ K' ys f /\ (∀ y, y ∈ ys -> y.ok) /\ ys.map DV.flat = xs.map DV.flat := by
 intro l
 induction l with
 | nil =>
  intro R F xs K K' h h' hok
  cases xs with
  | nil => exact ⟨[], F, h, h', hok, rfl⟩
  | cons _ _ => simp [apP] at h
 | cons s r ih =>
  intro R F xs K K' h h' hok
  cases xs with
  | nil => cases s <;> simp [apP] at h
  | cons x xs =>
  have hx := hok x (by simp)
  have hok' : ∀ y, y ∈ xs -> y.ok := fun y hy => hok y (by simp [hy])
  have fin : ∀ (y : DV), y.ok -> y.flat = x.flat -> (∃ ys f, K f /\ K' (y :: ys) f /\ (∀ y, y ∈ ys -> y.ok) /\ ys.map DV.flat = xs.map DV.flat) ->
    ∃ ys f, K f /\ K' ys f /\ (∀ y, y ∈ ys -> y.ok) /\ ys.map DV.flat = (x :: xs).map DV.flat := by
   rintro y hy hf ⟨ys, f, h1, h2, h3, h4⟩
   exact ⟨y :: ys, f, h1, h2, fun z hz => by rcases List.mem_cons.1 hz with rfl | hz; exact hy; exact h3 z hz, by simp [hf, h4]⟩
  cases s
  case int k =>
   cases x <;> try (simp [apP] at h; done)
   rename_i v
   cases v <;> simp only [apP] at h
   rename_i k' n
   by_cases hk : k = k'
   ·subst hk
    simp only [beq_self_eq_true] at h
    exact fin _ hx rfl (ih (F n) xs K _ h (h' n) hok')
   ·have : (k == k') = false := by simpa using hk
    simp [this] at h
  case bool =>
   cases x <;> try (simp [apP] at h; done)
   rename_i v; cases v <;> simp only [apP] at h; rename_i n; exact fin _ hx rfl (ih (F n) xs K _ h (h' n) hok')
  case str =>
   cases x <;> try (simp [apP] at h; done)
   rename_i v; cases v <;> simp only [apP] at h; rename_i n; exact fin _ hx rfl (ih (F n) xs K _ h (h' n) hok')
  case addr =>
   cases x <;> try (simp [apP] at h; done)
   ·rename_i v; cases v <;> simp only [apP] at h; obtain ⟨p, rfl, h⟩ := h; exact fin (.addr p) trivial rfl (ih (F p) xs K _ h (h' p) hok')
   ·rename_i p; simp only [apP] at h; exact fin _ hx rfl (ih (F p) xs K _ h (h' p) hok')
  case ptr =>
   cases x <;> try (simp [apP] at h; done)
   ·rename_i v; cases v <;> simp only [apP] at h; rename_i n; exact fin _ hx rfl (ih (F n) xs K _ h (h' n) hok')
   ·rename_i p; simp only [apP] at h; exact fin (.one (.pointer (some p))) rfl rfl (ih (F (some p)) xs K _ h (h' (some p)) hok')
  case slc =>
   cases x <;> try (simp [apP] at h; done)
   rename_i v; cases v <;> simp only [apP] at h; rename_i p l c; exact fin _ hx rfl (ih (F p l c) xs K _ h (h' p l c) hok')
  case mp =>
   cases x <;> try (simp [apP] at h; done)
   rename_i v; cases v <;> simp only [apP] at h; rename_i n; exact fin _ hx rfl (ih (F n) xs K _ h (h' n) hok')
  case fn =>
   cases x <;> try (simp [apP] at h; done)
   ·rename_i v; simp only [apP] at h; exact fin (.fnv v) hx rfl (ih (F v) xs K _ h (h' v) hok')
   ·rename_i v; simp only [apP] at h; exact fin _ hx rfl (ih (F v) xs K _ h (h' v) hok')
  case ag l =>
   cases x <;> try (simp [apP] at h; done)
   rename_i cs
   simp only [apP] at h
   obtain ⟨f, h1, h2⟩ := apS_sound l F cs _ _ h h' hx
   exact fin _ hx rfl (ih f xs K _ h1 h2 hok')
theorem alS_en : ∀ (l : List Sh) {R : Type} (Q : List Ch -> R) (K : List Ch -> R -> Prop), (∀ cs, K cs (Q cs)) -> alS l (enS l Q) K := by
 intro l
 induction l with
 | nil => intro R Q K h; exact h []
 | cons s r ih => intro R Q K h; cases s <;> simp only [alS, enS] <;> intros <;> exact ih _ _ fun cs => h _
theorem alP_en : ∀ (l : List Ty) {R : Type} (Q : List DV -> R) (K : List DV -> R -> Prop), (∀ xs, K xs (Q xs)) -> alP l (enR l Q) K := by
 intro l
 induction l with
 | nil => intro R Q K h; exact h []
 | cons s r ih =>
  intro R Q K h
  cases s with
  | ag l => simp only [alP, enR]; exact alS_en l _ _ fun cs => ih _ _ fun xs => h _
  | _ => simp only [alP, enR]; intros; exact ih _ _ fun xs => h _
theorem resVal_eq (xs : List DV) : resVal xs = (match xs.map DV.flat with | [v] => v | vs => .tuple vs.toArray) := by
 match xs with
 | [] => rfl
 | [x] => rfl
 | x :: y :: r => rfl
theorem resVal_congr {xs ys : List DV} (h : xs.map DV.flat = ys.map DV.flat) : resVal xs = resVal ys := by
 rw [resVal_eq, resVal_eq, h]
variable {P : Program}
theorem callsV.mono {f : FuncId} {args : List Value} {Q Q' : List DV -> H -> Prop} {h : H} (hc : callsV P f args Q h)
  (hq : ∀ xs h', (∀ x, x ∈ xs -> x.ok) -> Q xs h' -> ∃ ys, (∀ y, y ∈ ys -> y.ok) /\ ys.map DV.flat = xs.map DV.flat /\ Q' ys h') : callsV P f args Q' h := by
 refine ⟨hc.1, fun w hw => (hc.2 w hw).mono fun e w' he => ?_⟩
 obtain ⟨xs, h1, rfl, h2, h3⟩ := he
 obtain ⟨ys, h4, h5, h6⟩ := hq xs _ h1 h3
 exact ⟨ys, h4, by rw [resVal_congr h5], h2, h6⟩
theorem runOk_of {T : Tbl} (hT : TblOk P T) {f : FuncId} {fn : Func} {ann : Ann} {ps rs : List Ty} {F : Cur ps (Cur rs (H -> Prop) -> H -> Prop)} (hf : P.funcs[f]? = some fn) (hc : callable P f = true)
  (hann : (fn.body.map fun c => annFits ann c 1) = some true) (hE : alP ps F fun xs g => ∀ Q h, g Q h = Dbody P T ann fn xs (decR rs Q) h) : RunOk P f (W ps rs F) := by
 intro args Q h hok hrun
 obtain ⟨ys, g, h1, h2, h3, h4⟩ := apP_sound ps F args _ _ hrun hE hok
 rw [h2] at h1
 have := Dbody_sound hT hf hc hann h3 h1
 rw [h4] at this
 refine this.mono fun xs h' hxs hd => ?_
 obtain ⟨zs, g', h5, h6, h7, h8⟩ := apP_sound rs (enR rs Q) xs (fun f => f h') (fun ys f => f = Q ys) hd (alP_en rs Q _ fun _ => rfl) hxs
 exact ⟨zs, h7, h8, by rw [← h6]; exact h5⟩
theorem TblOk.nil : TblOk P [] := fun _ _ h => by cases h
theorem TblOk.cons {T : Tbl} {f : FuncId} {r : Run} (h : RunOk P f r) (hT : TblOk P T) : TblOk P ((f, r) :: T) := fun g r' hm => by
 rcases List.mem_cons.1 hm with h' | h'
 ·injection h' with h1 h2; subst h1; subst h2; exact h
 ·exact hT g r' h'
theorem callFn_of {f : FuncId} {run : Run} (hr : RunOk P f run) {a c : Array Value} {args : List DV} {Q : List DV -> H -> Prop} {h : H} (ha : ∀ v, v ∈ a.toList -> v.oneCell' = true) (hc : ∀ v, v ∈ c.toList -> v.oneCell' = true)
  (hok : ∀ x, x ∈ args -> x.ok) (hrun : run (a.toList.map toDV ++ args ++ c.toList.map toDV) Q h) : callFn P (.func (.func f) a c) args Q h := by
 refine ⟨f, a, c, rfl, ?_⟩
 have := hr _ _ _ (by
  intro x hx
  simp only [List.mem_append, List.mem_map] at hx
  rcases hx with (⟨v, hv, rfl⟩ | hx) | ⟨v, hv, rfl⟩
  ·exact toDV_ok (ha v hv)
  ·exact hok x hx
  ·exact toDV_ok (hc v hv)) hrun
 have e : ∀ l : List Value, l.map (DV.flat ∘ toDV) = l := fun l => by
  have : (DV.flat ∘ toDV) = id := funext toDV_flat
  rw [this]; simp
 simpa [e] using this
end Go.Vc
end
