/- TokenKeeps: what is proved and its parts, laid together by a program of ours: Tp2 Tp3 Tp4 RwTokenKeeps -/
import Derived.Test.YtijcpgahmbkijaaGreatDoorK10
set_option autoImplicit false
set_option linter.all false
/- TokenKeeps: what came out is its owner's: marks, appends, looks. Own work. -/
section
set_option maxRecDepth 100000
set_option linter.unusedVariables false
namespace Go.Proofs.YtijcpgahmbkijaaGreatDoor
open Go Go.Vc
attribute [local irreducible] macM

/-- A token in a list. -/
structure TR where
  key : Int
  ip : Option Addr
  il : Nat
  ic : Nat
  cp : Option Addr
  cl : Nat
  cc : Nat
  tag : List Int
  id : List Int
  cs : List CvM
abbrev TR.L (u : TR) : List Value := tokL u.key u.ip u.il u.ic u.cp u.cl u.cc u.tag
abbrev TR.own (u : TR) : List Ent := [slE u.ip u.il u.ic 1 (ints .u8 u.id), slE u.cp u.cl u.cc 5 (cvsV u.cs)]
def toksV : List TR → List Value
  | [] => []
  | u :: r => u.L ++ toksV r
def owns : List TR → List Ent
  | [] => []
  | u :: r => u.own ++ owns r
theorem tokL_len {u : TR} (h : u.tag.length = 32) : u.L.length = 35 := by simp [TR.L, h]
theorem tokL_one (u : TR) : ∀ v, v ∈ u.L → v.oneCell' = true := by
  intro v hv
  rcases List.mem_cons.1 hv with rfl | hv
  · rfl
  rcases List.mem_cons.1 hv with rfl | hv
  · rfl
  rcases List.mem_cons.1 hv with rfl | hv
  · rfl
  exact ints_one _ _ v hv
theorem toksV_app (a b : List TR) : toksV (a ++ b) = toksV a ++ toksV b := by
  induction a with
  | nil => rfl
  | cons x r ih => show x.L ++ toksV (r ++ b) = x.L ++ toksV r ++ toksV b; rw [ih, List.append_assoc]
theorem owns_app (a b : List TR) : owns (a ++ b) = owns a ++ owns b := by
  induction a with
  | nil => rfl
  | cons x r ih => show x.own ++ owns (r ++ b) = x.own ++ owns r ++ owns b; rw [ih, List.append_assoc]
theorem toksV_get {U : List TR} (h : ∀ u, u ∈ U → u.tag.length = 32) : ∀ (i j : Nat) (hi : i < U.length), j < 35 → (toksV U)[i * 35 + j]? = (U[i].L)[j]? := by
  induction U with
  | nil => intro i j hi; simp at hi
  | cons x r ih =>
    intro i j hi hj
    show (x.L ++ toksV r)[i * 35 + j]? = _
    have hl := tokL_len (h x (by simp))
    cases i with
    | zero => rw [List.getElem?_append_left (by omega)]; simp
    | succ i =>
      rw [List.getElem?_append_right (by omega)]
      have := ih (fun y hy => h y (by simp [hy])) i j (by simpa using hi) hj
      rw [show (i + 1) * 35 + j - x.L.length = i * 35 + j by omega, this]
      rfl
theorem tok_rd {h : H} {p : Option Addr} {n : Nat} {U : List TR} (hU : ∀ u, u ∈ U → u.tag.length = 32) (rd : hsv h p 35 n (toksV U)) {i : Nat} (hi : i < U.length) : ∃ q, p = some q ∧ hc h (q.add (i * 35)) = some (.int .i64 U[i].key) ∧ hc h ((q.add (i * 35)).add 1) = some (.slice U[i].ip U[i].il U[i].ic) ∧ hc h ((q.add (i * 35)).add 2) = some (.slice U[i].cp U[i].cl U[i].cc) ∧ hrow h ((q.add (i * 35)).add 3) .u8 U[i].tag := by
  obtain ⟨q, hq, g0⟩ := hsv_get rd (i := i * 35 + 0) (by rw [toksV_get hU i 0 hi (by decide)]; rfl)
  obtain ⟨q1, hq1, g1⟩ := hsv_get rd (i := i * 35 + 1) (by rw [toksV_get hU i 1 hi (by decide)]; rfl)
  obtain ⟨q2, hq2, g2⟩ := hsv_get rd (i := i * 35 + 2) (by rw [toksV_get hU i 2 hi (by decide)]; rfl)
  rw [hq] at hq1 hq2
  cases hq1; cases hq2
  refine ⟨q, hq, g0, by rw [addAdd]; exact g1, by rw [addAdd]; exact g2, ?_⟩
  intro x v hv
  have hx : x < 32 := by
    have := (List.getElem?_eq_some_iff.1 hv).1
    rw [ints_length, hU _ (List.getElem_mem hi)] at this
    exact this
  have e : (U[i].L)[3 + x]? = some v := by
    show (Value.int .i64 _ :: .slice _ _ _ :: .slice _ _ _ :: ints .u8 U[i].tag)[3 + x]? = _
    rw [show 3 + x = x + 1 + 1 + 1 by omega, List.getElem?_cons_succ, List.getElem?_cons_succ, List.getElem?_cons_succ]
    exact hv
  obtain ⟨q3, hq3, g3⟩ := hsv_get rd (i := i * 35 + (3 + x)) (by rw [toksV_get hU i (3 + x) hi (by omega)]; exact e)
  rw [hq] at hq3
  cases hq3
  rw [addAdd, addAdd]
  first | exact g3 | (rw [Nat.add_assoc]; exact g3)
def markB (j : Nat) : Int := IntKind.u8.wrap (IntKind.i64.wrap ((j : Int) + 1))
def markK (j : Nat) : Int := IntKind.i64.wrap (-1 - (j : Int))
/-- Bytes and caveats of marks alone. -/
def AllB (h : H) (j : Nat) (p : Option Addr) (l : Nat) : Prop := ∃ a : List Int, hsv h p 1 l (ints .u8 a) ∧ ∀ x, x ∈ a → x = markB j
def AllK (h : H) (j : Nat) (p : Option Addr) (l : Nat) : Prop := ∃ c : List CvM, hsv h p 5 l (cvsV c) ∧ ∀ x, x ∈ c → x.kind = markK j
def Marked (h : H) (j : Nat) (u v : TR) : Prop := AllB h j u.ip u.il ∧ AllK h j u.cp u.cl ∧ AllB h j v.ip v.il ∧ AllK h j v.cp v.cl
theorem AllB.get {h : H} {j l : Nat} {p : Option Addr} (a : AllB h j p l) {x : Nat} (hx : x < l) : ∃ q, p = some q ∧ hc h (q.add x) = some (.int .u8 (markB j)) := by
  obtain ⟨a, rd, al⟩ := a
  have hl : a.length = l := by have := rd.1; simpa using this
  obtain ⟨q, hq, g⟩ := hsvI rd hx
  have : a.getD x 0 = markB j := al _ (by rw [List.getD_eq_getElem?_getD, List.getElem?_eq_getElem (by omega)]; exact List.getElem_mem _)
  rw [this] at g
  exact ⟨q, hq, g⟩
theorem AllK.get {h : H} {j l : Nat} {p : Option Addr} (a : AllK h j p l) {x : Nat} (hx : x < l) : ∃ q, p = some q ∧ hc h (q.add (x * 5)) = some (.int .i64 (markK j)) := by
  obtain ⟨c, rd, al⟩ := a
  obtain ⟨q, hl, hq, g0, _⟩ := cv_rd rd hx
  rw [al _ (List.getElem_mem hl)] at g0
  exact ⟨q, hq, g0⟩
theorem cvsV_rep (n : Nat) (c : CvM) : cvsV (List.replicate (n + 1) c) = cvsV (List.replicate n c) ++ cvV c := by
  rw [List.replicate_succ', cvsV_snoc]
theorem repSet (id : List Int) (b : Int) {x : Nat} (hx : x < id.length) : (List.replicate x b ++ id.drop x).set x b = List.replicate (x + 1) b ++ id.drop (x + 1) := by
  rw [List.set_append_right _ _ (by simp), List.length_replicate, Nat.sub_self, List.drop_eq_getElem_cons hx, List.replicate_succ', List.append_assoc]
  rfl
theorem cvSplice (cs : List CvM) (c : CvM) {x : Nat} (hx : x < cs.length) : splice (cvsV (List.replicate x c ++ cs.drop x)) (x * 5) (cvV c) = cvsV (List.replicate (x + 1) c ++ cs.drop (x + 1)) := by
  have := splice_append (cvsV (List.replicate x c)) (cvV cs[x]) (cvsV (cs.drop (x + 1))) (cvV c) rfl
  rw [cvsV_len, List.length_replicate] at this
  rw [cvsV_app, List.drop_eq_getElem_cons hx]
  show splice (cvsV _ ++ (cvV cs[x] ++ cvsV (cs.drop (x + 1)))) _ _ = _
  rw [← List.append_assoc, this, cvsV_app, List.replicate_succ', cvsV_snoc]
section
variable {h0 h : H} {A : List Ent} {i j d r m : Nat}
theorem keepFin_sp {Q : Bool → H → Prop} {o262 : Option Addr} {n263 n264 n64 n29 : Nat} {h265 : H} {U : List TR} {C : List Ent} {key : Int} {id tag : List Int} {cs : List CvM} {ip cp ip2 cp2 : Option Addr} {il ic cl cc il2 ic2 cl2 cc2 : Nat}
    (hU : ∀ u, u ∈ U → u.tag.length = 32 ∧ u.il + 4096 ≤ 2 ^ 47 ∧ u.cl < 2 ^ 30 ∧ u.id.length = u.il ∧ u.cs.length = u.cl) (hUl : n263 = U.length) (hU4 : U.length < 2 ^ 30)
    (ht : tag.length = 32) (hl : cl < 2 ^ 40) (r1 : ∀ h', Sat h0 C h' → hsv h' ip 1 il (ints .u8 id)) (r2 : ∀ h', Sat h0 C h' → hsv h' cp 5 cl (cvsV cs)) (r3 : ∀ h', Sat h0 C h' → hsv h' ip2 1 il2 (ints .u8 id)) (r4 : ∀ h', Sat h0 C h' → hsv h' cp2 5 cl2 (cvsV cs))
    (hs : Sat h0 (slE o262 n263 n264 35 (toksV U) :: blk n64 (tokL key ip il ic cp cl cc tag) :: blk n29 (tokL key ip2 il2 ic2 cp2 cl2 cc2 tag) :: (owns U ++ C)) h265)
    (k : ∀ h', Sat h0 [] h' → Q true h') : (∀ (n266 : Nat) (h267 : H), hnew h265 n266 [] h267 → ∀ (J269 : List SV → H → Prop), (∀ (o270 : Option Addr) (n271 n272 : Nat) (i273 : Int) (h274 : H), (if ltI i273 (↑n263 : Int) = true then ∃ (p275 : Addr), o262 = some p275 ∧ 0 ≤ i273 ∧ i273 < (↑n263 : Int) ∧ ∃ (i276 : Int), hc h274 (p275.add (i273.toNat * 35)) = some (Value.int IntKind.i64 i276) ∧ ∃ (o277 : Option Addr), ∃ (n278 : Nat), ∃ (n279 : Nat), hc h274 ((p275.add (i273.toNat * 35)).add 1) = some (Value.slice o277 n278 n279) ∧ ∃ (o280 : Option Addr), ∃ (n281 : Nat), ∃ (n282 : Nat), hc h274 ((p275.add (i273.toNat * 35)).add 2) = some (Value.slice o280 n281 n282) ∧ ∃ (l283 : List Int), l283.length = 32 ∧ hrow h274 ((p275.add (i273.toNat * 35)).add 3) IntKind.u8 l283 ∧ ∀ (n284 : Nat) (h285 : H), hnew h274 n284 (Value.int IntKind.i64 0 :: Value.slice none 0 0 :: Value.slice none 0 0 :: ints IntKind.u8 (zeros 32)) h285 → hcan h285 (Addr.mk n284 0 none) 35 ∧ ∀ (h287 : H), h287 = hwr h285 (Addr.mk n284 0 none) (Value.int IntKind.i64 i276 :: Value.slice o277 n278 n279 :: Value.slice o280 n281 n282 :: (ints IntKind.u8 l283 ++ [])) → ∃ (o289 : Option Addr), ∃ (n290 : Nat), ∃ (n291 : Nat), hc h287 ((Addr.mk n284 0 none).add 1) = some (Value.slice o289 n290 n291) ∧ ∀ (J292 : List SV → H → Prop), (∀ (i293 : Int) (h294 : H), (if ltI i293 (↑n290 : Int) = true then ∃ (o295 : Option Addr), ∃ (n296 : Nat), ∃ (n297 : Nat), hc h294 ((Addr.mk n284 0 none).add 1) = some (Value.slice o295 n296 n297) ∧ ∃ (p298 : Addr), o295 = some p298 ∧ 0 ≤ i293 ∧ i293 < (↑n296 : Int) ∧ hcan h294 (p298.add (i293.toNat * 1)) 1 ∧ ∀ (h299 : H), h299 = hwr h294 (p298.add (i293.toNat * 1)) [Value.int IntKind.u8 (IntKind.u8.wrap (IntKind.i64.wrap (i273 + 1)))] → J292 [SV.dv (DV.one (Value.int IntKind.i64 (IntKind.i64.wrap (i293 + 1))))] h299 else ∃ (o301 : Option Addr), ∃ (n302 : Nat), ∃ (n303 : Nat), hc h294 ((Addr.mk n284 0 none).add 2) = some (Value.slice o301 n302 n303) ∧ ∀ (J304 : List SV → H → Prop), (∀ (i305 : Int) (h306 : H), (if ltI i305 (↑n302 : Int) = true then ∃ (o307 : Option Addr), ∃ (n308 : Nat), ∃ (n309 : Nat), hc h306 ((Addr.mk n284 0 none).add 2) = some (Value.slice o307 n308 n309) ∧ ∃ (p310 : Addr), o307 = some p310 ∧ 0 ≤ i305 ∧ i305 < (↑n308 : Int) ∧ hcan h306 (p310.add (i305.toNat * 5)) 5 ∧ ∀ (h311 : H), h311 = hwr h306 (p310.add (i305.toNat * 5)) [Value.int IntKind.i64 (IntKind.i64.wrap (-1 - i273)), Value.int IntKind.i64 0, Value.int IntKind.i64 0, Value.int IntKind.i64 0, Value.int IntKind.u64 0] → J304 [SV.dv (DV.one (Value.int IntKind.i64 (IntKind.i64.wrap (i305 + 1))))] h311 else ∀ (J313 : List SV → H → Prop), (∀ (i314 : Int) (h315 : H), (if ltI i314 40 = true then ∃ (o316 : Option Addr), ∃ (n317 : Nat), ∃ (n318 : Nat), hc h315 ((Addr.mk n284 0 none).add 1) = some (Value.slice o316 n317 n318) ∧ ∀ (n319 : Nat) (h320 : H), hnew h315 n319 [Value.int IntKind.u8 (IntKind.u8.wrap (IntKind.i64.wrap (i273 + 1)))] h320 → ∃ (l322 : List Value), hsv h320 (some (Addr.mk n319 0 none)) 1 1 l322 ∧ pApp h320 1 [Value.int IntKind.u8 0] 1 o316 n317 n318 1 l322 fun (o323 : Option Addr) (n324 n325 : Nat) (h326 : H) => hcan h326 ((Addr.mk n284 0 none).add 1) 1 ∧ ∀ (h327 : H), h327 = hwr h326 ((Addr.mk n284 0 none).add 1) [Value.slice o323 n324 n325] → ∃ (o329 : Option Addr), ∃ (n330 : Nat), ∃ (n331 : Nat), hc h327 ((Addr.mk n284 0 none).add 2) = some (Value.slice o329 n330 n331) ∧ ∀ (n332 : Nat) (h333 : H), hnew h327 n332 [Value.int IntKind.i64 (IntKind.i64.wrap (-1 - i273)), Value.int IntKind.i64 0, Value.int IntKind.i64 0, Value.int IntKind.i64 0, Value.int IntKind.u64 0] h333 → ∃ (l335 : List Value), hsv h333 (some (Addr.mk n332 0 none)) 5 1 l335 ∧ pApp h333 5 [Value.int IntKind.i64 0, Value.int IntKind.i64 0, Value.int IntKind.i64 0, Value.int IntKind.i64 0, Value.int IntKind.u64 0] 40 o329 n330 n331 1 l335 fun (o336 : Option Addr) (n337 n338 : Nat) (h339 : H) => hcan h339 ((Addr.mk n284 0 none).add 2) 1 ∧ ∀ (h340 : H), h340 = hwr h339 ((Addr.mk n284 0 none).add 2) [Value.slice o336 n337 n338] → J313 [SV.dv (DV.one (Value.int IntKind.i64 (IntKind.i64.wrap (i314 + 1))))] h340 else ∃ (i342 : Int), hc h315 (Addr.mk n284 0 none) = some (Value.int IntKind.i64 i342) ∧ ∃ (o343 : Option Addr), ∃ (n344 : Nat), ∃ (n345 : Nat), hc h315 ((Addr.mk n284 0 none).add 1) = some (Value.slice o343 n344 n345) ∧ ∃ (o346 : Option Addr), ∃ (n347 : Nat), ∃ (n348 : Nat), hc h315 ((Addr.mk n284 0 none).add 2) = some (Value.slice o346 n347 n348) ∧ ∃ (l349 : List Int), l349.length = 32 ∧ hrow h315 ((Addr.mk n284 0 none).add 3) IntKind.u8 l349 ∧ ∀ (n350 : Nat) (h351 : H), hnew h315 n350 (Value.int IntKind.i64 i342 :: Value.slice o343 n344 n345 :: Value.slice o346 n347 n348 :: (ints IntKind.u8 l349 ++ [])) h351 → ∃ (l353 : List Value), hsv h351 (some (Addr.mk n350 0 none)) 35 1 l353 ∧ pApp h351 35 (Value.int IntKind.i64 0 :: Value.slice none 0 0 :: Value.slice none 0 0 :: ints IntKind.u8 (zeros 32)) 88 o270 n271 n272 1 l353 fun (o354 : Option Addr) (n355 n356 : Nat) (h357 : H) => J269 [SV.dv (DV.one (Value.slice o354 n355 n356)), SV.dv (DV.one (Value.int IntKind.i64 (IntKind.i64.wrap (i273 + 1))))] h357) → J313 [SV.dv (DV.one (Value.int IntKind.i64 i314))] h315) → J313 [SV.dv (DV.one (Value.int IntKind.i64 0))] h306) → J304 [SV.dv (DV.one (Value.int IntKind.i64 i305))] h306) → J304 [SV.dv (DV.one (Value.int IntKind.i64 0))] h294) → J292 [SV.dv (DV.one (Value.int IntKind.i64 i293))] h294) → J292 [SV.dv (DV.one (Value.int IntKind.i64 0))] h287 else ∀ (J364 : List SV → H → Prop), (∀ (i365 : Int) (h366 : H), (if ltI i365 (↑n271 : Int) = true then ∃ (p367 : Addr), o270 = some p367 ∧ 0 ≤ i365 ∧ i365 < (↑n271 : Int) ∧ ∃ (i368 : Int), hc h366 (p367.add (i365.toNat * 35)) = some (Value.int IntKind.i64 i368) ∧ ∃ (o369 : Option Addr), ∃ (n370 : Nat), ∃ (n371 : Nat), hc h366 ((p367.add (i365.toNat * 35)).add 1) = some (Value.slice o369 n370 n371) ∧ ∃ (o372 : Option Addr), ∃ (n373 : Nat), ∃ (n374 : Nat), hc h366 ((p367.add (i365.toNat * 35)).add 2) = some (Value.slice o372 n373 n374) ∧ ∃ (l375 : List Int), l375.length = 32 ∧ hrow h366 ((p367.add (i365.toNat * 35)).add 3) IntKind.u8 l375 ∧ ∀ (n376 : Nat) (h377 : H), hnew h366 n376 (Value.int IntKind.i64 0 :: Value.slice none 0 0 :: Value.slice none 0 0 :: ints IntKind.u8 (zeros 32)) h377 → hcan h377 (Addr.mk n376 0 none) 35 ∧ ∀ (h379 : H), h379 = hwr h377 (Addr.mk n376 0 none) (Value.int IntKind.i64 i368 :: Value.slice o369 n370 n371 :: Value.slice o372 n373 n374 :: (ints IntKind.u8 l375 ++ [])) → ∃ (o381 : Option Addr), ∃ (n382 : Nat), ∃ (n383 : Nat), hc h379 ((Addr.mk n376 0 none).add 1) = some (Value.slice o381 n382 n383) ∧ ∀ (J384 : List SV → H → Prop), (∀ (i385 : Int) (h386 : H), (if ltI i385 (↑n382 : Int) = true then ∃ (o387 : Option Addr), ∃ (n388 : Nat), ∃ (n389 : Nat), hc h386 ((Addr.mk n376 0 none).add 1) = some (Value.slice o387 n388 n389) ∧ ∃ (p390 : Addr), o387 = some p390 ∧ 0 ≤ i385 ∧ i385 < (↑n388 : Int) ∧ ∃ (i391 : Int), hc h386 (p390.add (i385.toNat * 1)) = some (Value.int IntKind.u8 i391) ∧ if (i391 != IntKind.u8.wrap (IntKind.i64.wrap (i365 + 1))) = true then Q false h386 else ∃ (p392 : Addr), o262 = some p392 ∧ 0 ≤ i365 ∧ i365 < (↑n263 : Int) ∧ ∃ (o393 : Option Addr), ∃ (n394 : Nat), ∃ (n395 : Nat), hc h386 ((p392.add (i365.toNat * 35)).add 1) = some (Value.slice o393 n394 n395) ∧ if ltI i385 (↑n394 : Int) = true then ∃ (p396 : Addr), o262 = some p396 ∧ 0 ≤ i365 ∧ i365 < (↑n263 : Int) ∧ ∃ (o397 : Option Addr), ∃ (n398 : Nat), ∃ (n399 : Nat), hc h386 ((p396.add (i365.toNat * 35)).add 1) = some (Value.slice o397 n398 n399) ∧ ∃ (p400 : Addr), o397 = some p400 ∧ 0 ≤ i385 ∧ i385 < (↑n398 : Int) ∧ ∃ (i401 : Int), hc h386 (p400.add (i385.toNat * 1)) = some (Value.int IntKind.u8 i401) ∧ if (i401 != IntKind.u8.wrap (IntKind.i64.wrap (i365 + 1))) = true then Q false h386 else J384 [SV.dv (DV.one (Value.int IntKind.i64 (IntKind.i64.wrap (i385 + 1))))] h386 else J384 [SV.dv (DV.one (Value.int IntKind.i64 (IntKind.i64.wrap (i385 + 1))))] h386 else ∃ (o402 : Option Addr), ∃ (n403 : Nat), ∃ (n404 : Nat), hc h386 ((Addr.mk n376 0 none).add 2) = some (Value.slice o402 n403 n404) ∧ ∀ (J405 : List SV → H → Prop), (∀ (i406 : Int) (h407 : H), (if ltI i406 (↑n403 : Int) = true then ∃ (o408 : Option Addr), ∃ (n409 : Nat), ∃ (n410 : Nat), hc h407 ((Addr.mk n376 0 none).add 2) = some (Value.slice o408 n409 n410) ∧ ∃ (p411 : Addr), o408 = some p411 ∧ 0 ≤ i406 ∧ i406 < (↑n409 : Int) ∧ ∃ (i412 : Int), hc h407 (p411.add (i406.toNat * 5)) = some (Value.int IntKind.i64 i412) ∧ if (i412 != IntKind.i64.wrap (-1 - i365)) = true then Q false h407 else ∃ (p413 : Addr), o262 = some p413 ∧ 0 ≤ i365 ∧ i365 < (↑n263 : Int) ∧ ∃ (o414 : Option Addr), ∃ (n415 : Nat), ∃ (n416 : Nat), hc h407 ((p413.add (i365.toNat * 35)).add 2) = some (Value.slice o414 n415 n416) ∧ if ltI i406 (↑n415 : Int) = true then ∃ (p417 : Addr), o262 = some p417 ∧ 0 ≤ i365 ∧ i365 < (↑n263 : Int) ∧ ∃ (o418 : Option Addr), ∃ (n419 : Nat), ∃ (n420 : Nat), hc h407 ((p417.add (i365.toNat * 35)).add 2) = some (Value.slice o418 n419 n420) ∧ ∃ (p421 : Addr), o418 = some p421 ∧ 0 ≤ i406 ∧ i406 < (↑n419 : Int) ∧ ∃ (i422 : Int), hc h407 (p421.add (i406.toNat * 5)) = some (Value.int IntKind.i64 i422) ∧ if (i422 != IntKind.i64.wrap (-1 - i365)) = true then Q false h407 else J405 [SV.dv (DV.one (Value.int IntKind.i64 (IntKind.i64.wrap (i406 + 1))))] h407 else J405 [SV.dv (DV.one (Value.int IntKind.i64 (IntKind.i64.wrap (i406 + 1))))] h407 else J364 [SV.dv (DV.one (Value.int IntKind.i64 (IntKind.i64.wrap (i365 + 1))))] h407) → J405 [SV.dv (DV.one (Value.int IntKind.i64 i406))] h407) → J405 [SV.dv (DV.one (Value.int IntKind.i64 0))] h386) → J384 [SV.dv (DV.one (Value.int IntKind.i64 i385))] h386) → J384 [SV.dv (DV.one (Value.int IntKind.i64 0))] h379 else ∃ (i427 : Int), hc h366 (Addr.mk n64 0 none) = some (Value.int IntKind.i64 i427) ∧ ∃ (o428 : Option Addr), ∃ (n429 : Nat), ∃ (n430 : Nat), hc h366 ((Addr.mk n64 0 none).add 1) = some (Value.slice o428 n429 n430) ∧ ∃ (o431 : Option Addr), ∃ (n432 : Nat), ∃ (n433 : Nat), hc h366 ((Addr.mk n64 0 none).add 2) = some (Value.slice o431 n432 n433) ∧ ∃ (l434 : List Int), l434.length = 32 ∧ hrow h366 ((Addr.mk n64 0 none).add 3) IntKind.u8 l434 ∧ ∃ (i435 : Int), hc h366 (Addr.mk n29 0 none) = some (Value.int IntKind.i64 i435) ∧ ∃ (o436 : Option Addr), ∃ (n437 : Nat), ∃ (n438 : Nat), hc h366 ((Addr.mk n29 0 none).add 1) = some (Value.slice o436 n437 n438) ∧ ∃ (o439 : Option Addr), ∃ (n440 : Nat), ∃ (n441 : Nat), hc h366 ((Addr.mk n29 0 none).add 2) = some (Value.slice o439 n440 n441) ∧ ∃ (l442 : List Int), l442.length = 32 ∧ hrow h366 ((Addr.mk n29 0 none).add 3) IntKind.u8 l442 ∧ F_portcullislaw24_back i427 o428 n429 n430 o431 n432 n433 l434 (fun (i443 : Int) (o444 : Option Addr) (n445 n446 : Nat) (o447 : Option Addr) (n448 n449 : Nat) (l450 : List Int) (h451 : H) => hcs h451 (Addr.mk n29 0 none) (Value.int IntKind.i64 i435 :: Value.slice o436 n437 n438 :: Value.slice o439 n440 n441 :: (ints IntKind.u8 l442 ++ [])) ∧ F_portcullisref24_Same i443 o444 n445 n446 o447 n448 n449 l450 i435 o436 n437 n438 o439 n440 n441 l442 (fun (b452 : Bool) (h453 : H) => Q b452 h453) h451) h366) → J364 [SV.dv (DV.one (Value.int IntKind.i64 i365))] h366) → J364 [SV.dv (DV.one (Value.int IntKind.i64 0))] h274) → J269 [SV.dv (DV.one (Value.slice o270 n271 n272)), SV.dv (DV.one (Value.int IntKind.i64 i273))] h274) → J269 [SV.dv (DV.one (Value.slice (some (Addr.mk n266 0 none)) 0 0)), SV.dv (DV.one (Value.int IntKind.i64 0))] h267) := by
  simp only [add_mk, Nat.zero_add, List.append_nil]
  subst hUl
  have hUt : ∀ u, u ∈ U → u.tag.length = 32 := fun u hu => (hU u hu).1
  intro eb _ hn; replace hs := Sat.new hs hn; clear hn
  intro J269 hJ269
  refine loopS U.length (fun t (s : List TR × Option Addr × Nat) => [.dv (.one (.slice s.2.1 t s.2.2)), si t]) (fun t s h => s.1.length = t ∧ (∀ v, v ∈ s.1 → v.tag.length = 32 ∧ v.il < 2 ^ 60 ∧ v.cl < 2 ^ 60) ∧ ∃ B : List Ent, (∀ j (hj : j < U.length) (hv : j < s.1.length), ∀ h', Sat h0 B h' → Marked h' j U[j] s.1[j]) ∧
    Sat h0 (slE s.2.1 t s.2.2 35 (toksV s.1) :: slE o262 U.length n264 35 (toksV U) :: blk n64 (tokL key ip il ic cp cl cc tag) :: blk n29 (tokL key ip2 il2 ic2 cp2 cl2 cc2 tag) :: (B ++ (owns (U.drop t) ++ C))) h) ?_ ?_ 0 ([], some ⟨eb, 0, none⟩, 0) _ (by omega) ⟨rfl, (fun v hv => by cases hv), [], (fun j _ hv => by simp at hv), hs.drop.sl_nil 35 _⟩
  · clear hs
    rintro t ⟨V, lp, lc⟩ h1 ht' ⟨hVl, hVt, B, hB, hs⟩ hk
    dsimp only at hVl hVt hB hs hk ⊢
    apply hJ269
    clear hJ269
    rw [ltI_eq, if_pos (by rw [decide_eq_true_iff]; omega)]
    obtain ⟨u, hu⟩ : ∃ u, u = U[t] := ⟨_, rfl⟩
    obtain ⟨u1, u2, u3, u4, u5⟩ := hU u (by rw [hu]; exact List.getElem_mem ht')
    obtain ⟨q, hq, g0, g1, g2, g3⟩ := tok_rd hUt (hs.sv (i := 1) (.s .z)) ht'
    rw [← hu] at g0 g1 g2 g3
    refine ⟨q, hq, by omega, by omega, ?_⟩
    simp only [Int.toNat_natCast]
    refine ⟨_, g0, _, _, _, g1, _, _, _, g2, _, u1, g3, ?_⟩
    have eo : owns (U.drop t) = u.own ++ owns (U.drop (t + 1)) := by rw [List.drop_eq_getElem_cons ht', ← hu]; rfl
    rw [eo] at hs
    -- the token's own lists to the front
    obtain ⟨D, hD⟩ : ∃ D, D = slE lp t lc 35 (toksV V) :: slE o262 U.length n264 35 (toksV U) :: blk n64 (tokL key ip il ic cp cl cc tag) :: blk n29 (tokL key ip2 il2 ic2 cp2 cl2 cc2 tag) :: (B ++ (owns (U.drop (t + 1)) ++ C)) := ⟨_, rfl⟩
    replace hs : Sat h0 (slE u.ip u.il u.ic 1 (ints .u8 u.id) :: slE u.cp u.cl u.cc 5 (cvsV u.cs) :: D) h1 := by
      rw [hD]
      refine hs.perm ?_
      have e : ∀ (X Y Z W V1 : Ent) (P R : List Ent) (a b : Ent), (X :: Y :: Z :: W :: (P ++ ([a, b] ++ R))).Perm (a :: b :: X :: Y :: Z :: W :: (P ++ R)) := by
        intro X Y Z W V1 P R a b
        have p1 : ([X, Y, Z, W] ++ P ++ ([a, b] ++ R)).Perm ([a, b] ++ R ++ ([X, Y, Z, W] ++ P)) := List.perm_append_comm
        have p2 : ([a, b] ++ R ++ ([X, Y, Z, W] ++ P)).Perm ([a, b] ++ ([X, Y, Z, W] ++ P ++ R)) := by rw [List.append_assoc]; exact List.Perm.append_left _ List.perm_append_comm
        have p3 := p1.trans p2
        simp only [List.cons_append, List.nil_append, List.append_assoc] at p3
        exact p3
      have := e (slE lp t lc 35 (toksV V)) (slE o262 U.length n264 35 (toksV U)) (blk n64 (tokL key ip il ic cp cl cc tag)) (blk n29 (tokL key ip2 il2 ic2 cp2 cl2 cc2 tag)) (blk 0 []) B (owns (U.drop (t + 1)) ++ C) (slE u.ip u.il u.ic 1 (ints .u8 u.id)) (slE u.cp u.cl u.cc 5 (cvsV u.cs))
      rw [List.append_assoc]
      exact this
    intro ub _ hn; replace hs := Sat.new hs hn; clear hn
    refine ⟨Sat.can hs (i := 0) .z (by simp [zeros]), ?_⟩
    intro h2 e2
    replace hs := Sat.wra (xs := u.L) hs (i := 0) .z e2 (by simp [zeros, u1])
    clear e2
    simp only [put_zero] at hs
    refine ⟨_, _, _, hs.ld (i := 0) .z rfl, ?_⟩
    obtain ⟨b, hb⟩ : ∃ b, b = markB t := ⟨_, rfl⟩
    obtain ⟨K, hK⟩ : ∃ K, K = markK t := ⟨_, rfl⟩
    have hbw : IntKind.u8.wrap (IntKind.i64.wrap ((t : Int) + 1)) = b := hb.symm
    have hKw : IntKind.i64.wrap (-1 - (t : Int)) = K := hK.symm
    rw [hbw, hKw]
    intro J292 hJ292
    refine loop_up u.il (fun x h => Sat h0 (blk ub u.L :: slE u.ip u.il u.ic 1 (ints .u8 (List.replicate x b ++ u.id.drop x)) :: slE u.cp u.cl u.cc 5 (cvsV u.cs) :: D) h) ?_ ?_ 0 _ (by omega) (by simpa using hs)
    · clear hs
      intro x h3 hx hs hk2
      apply hJ292
      rw [ltI_eq, if_pos (by rw [decide_eq_true_iff]; omega)]
      refine ⟨_, _, _, hs.ld (i := 0) .z rfl, ?_⟩
      obtain ⟨q2, hq2, hcn, hwr⟩ := hs.slPut (i := 1) (v := .int .u8 b) (.s .z) hx rfl
      refine ⟨q2, hq2, by omega, by omega, ?_⟩
      simp only [Int.toNat_natCast, Nat.mul_one]
      refine ⟨hcn, ?_⟩
      intro h4 e4
      have hs := hwr h4 e4
      simp only [put_succ, put_zero] at hs
      rw [ints_set, repSet _ _ (by omega)] at hs
      rw [wrap_succ (by omega)]
      exact hk2 _ hs
    clear hs
    intro h3 hs
    apply hJ292
    clear hJ292
    rw [ltI_eq, if_neg (by rw [decide_eq_true_iff]; omega)]
    rw [List.drop_of_length_le (by omega), List.append_nil] at hs
    refine ⟨_, _, _, hs.ld (i := 0) .z rfl, ?_⟩
    intro J304 hJ304
    refine loop_up u.cl (fun x h => Sat h0 (blk ub u.L :: slE u.ip u.il u.ic 1 (ints .u8 (List.replicate u.il b)) :: slE u.cp u.cl u.cc 5 (cvsV (List.replicate x ⟨K, 0, 0, 0, 0⟩ ++ u.cs.drop x)) :: D) h) ?_ ?_ 0 _ (by omega) (by simpa using hs)
    · clear hs
      intro x h4 hx hs hk2
      apply hJ304
      rw [ltI_eq, if_pos (by rw [decide_eq_true_iff]; omega)]
      refine ⟨_, _, _, hs.ld (i := 0) .z rfl, ?_⟩
      obtain ⟨cb, hcb⟩ := hs.sl_some (i := 2) (.s (.s .z)) (by omega)
      refine ⟨_, hcb, by omega, by omega, ?_⟩
      simp only [Int.toNat_natCast, add_mk, Nat.zero_add]
      rw [hcb] at hs
      have hlen : (cvsV (List.replicate x (⟨K, 0, 0, 0, 0⟩ : CvM) ++ u.cs.drop x)).length = u.cl * 5 := by rw [cvsV_len, List.length_append, List.length_replicate, List.length_drop]; omega
      refine ⟨hs.scan (i := 2) (.s (.s .z)) (by omega) (by rw [hlen]; omega), ?_⟩
      intro h5 e5
      have hs := hs.swr (xs := cvV ⟨K, 0, 0, 0, 0⟩) (i := 2) (.s (.s .z)) e5 (by omega) (by rw [hlen]; show x * 5 + 5 ≤ _; omega) (cv1 _)
      simp only [put_succ, put_zero] at hs
      rw [cvSplice _ _ (by omega), ← hcb] at hs
      rw [wrap_succ (by omega)]
      exact hk2 _ hs
    clear hs
    intro h4 hs
    apply hJ304
    clear hJ304
    rw [ltI_eq, if_neg (by rw [decide_eq_true_iff]; omega)]
    rw [List.drop_of_length_le (by omega), List.append_nil] at hs
    intro J313 hJ313
    refine loop_up 40 (fun x h => ∃ (p1 : Option Addr) (c1 : Nat) (B1 : List Ent) (p2 : Option Addr) (c2 : Nat) (B2 : List Ent),
        ((B1 = [slE p1 (u.il + x) c1 1 (ints .u8 (List.replicate (u.il + x) b))] ∧ p1 = u.ip ∧ u.il ≤ u.il + x ∧ ints .u8 (List.replicate u.il b) = (ints .u8 (List.replicate (u.il + x) b)).take (u.il * 1)) ∨ ∃ c, B1 = [slE p1 (u.il + x) c1 1 (ints .u8 (List.replicate (u.il + x) b)), slE u.ip u.il c 1 (ints .u8 (List.replicate u.il b))]) ∧
        ((B2 = [slE p2 (u.cl + x) c2 5 (cvsV (List.replicate (u.cl + x) ⟨K, 0, 0, 0, 0⟩))] ∧ p2 = u.cp ∧ u.cl ≤ u.cl + x ∧ cvsV (List.replicate u.cl ⟨K, 0, 0, 0, 0⟩) = (cvsV (List.replicate (u.cl + x) ⟨K, 0, 0, 0, 0⟩)).take (u.cl * 5)) ∨ ∃ c, B2 = [slE p2 (u.cl + x) c2 5 (cvsV (List.replicate (u.cl + x) ⟨K, 0, 0, 0, 0⟩)), slE u.cp u.cl c 5 (cvsV (List.replicate u.cl ⟨K, 0, 0, 0, 0⟩))]) ∧
        Sat h0 (blk ub (tokL u.key p1 (u.il + x) c1 p2 (u.cl + x) c2 u.tag) :: (B1 ++ (B2 ++ D))) h) ?_ ?_ 0 _ (by omega) ?_
    · clear hs
      rintro x h5 hx ⟨p1, c1, B1, p2, c2, B2, k1, k2, hs⟩ hk2
      apply hJ313
      rw [ltI_eq, if_pos (by rw [decide_eq_true_iff]; omega)]
      refine ⟨_, _, _, hs.ld (i := 0) .z rfl, ?_⟩
      intro mb _ hn; replace hs := Sat.new hs hn; clear hn
      refine ⟨_, hs.bv (i := 0) (l := 1) .z rfl (ints_one .u8 [b]), ?_⟩
      refine app_kept (C := [_, _]) hs ⟨c1, rfl, k1⟩ (by decide) rfl rfl (ints_one .u8 [b]) (by omega) ?_
      intro p3 c3 B3 h6 k3 hs
      have eb1 : ints .u8 (List.replicate (u.il + x) b) ++ [Value.int .u8 b] = ints .u8 (List.replicate (u.il + (x + 1)) b) := by
        rw [show u.il + (x + 1) = u.il + x + 1 by omega, List.replicate_succ', intsApp]; rfl
      replace hs : Sat h0 (blk mb [.int .u8 b] :: blk ub (tokL u.key p1 (u.il + x) c1 p2 (u.cl + x) c2 u.tag) :: (B3 ++ (B2 ++ D))) h6 := hs
      replace hs := hs.drop
      refine ⟨Sat.can hs (i := 0) .z (by simp), ?_⟩
      intro h7 e7
      replace hs := Sat.wr hs (i := 0) .z e7
      clear e7
      simp only [put_zero] at hs
      replace hs : Sat h0 (blk ub (tokL u.key p3 (u.il + x + 1) c3 p2 (u.cl + x) c2 u.tag) :: (B3 ++ (B2 ++ D))) h7 := hs
      refine ⟨_, _, _, hs.ld (i := 0) .z rfl, ?_⟩
      intro nb _ hn; replace hs := Sat.new hs hn; clear hn
      refine ⟨cvV ⟨K, 0, 0, 0, 0⟩, hs.bv (i := 0) (l := 1) (sz := 5) .z rfl (cv1 ⟨K, 0, 0, 0, 0⟩), ?_⟩
      have hs' : Sat h0 ((blk nb (cvV ⟨K, 0, 0, 0, 0⟩) :: blk ub (tokL u.key p3 (u.il + x + 1) c3 p2 (u.cl + x) c2 u.tag) :: B3) ++ (B2 ++ D)) _ := hs
      refine app_kept hs' ⟨c2, rfl, k2⟩ (by decide) rfl rfl (cv1 ⟨K, 0, 0, 0, 0⟩) (by omega) ?_
      clear hs hs'
      intro p4 c4 B4 h8 k4 hs
      replace hs : Sat h0 (blk nb (cvV ⟨K, 0, 0, 0, 0⟩) :: blk ub (tokL u.key p3 (u.il + x + 1) c3 p2 (u.cl + x) c2 u.tag) :: (B3 ++ (B4 ++ D))) h8 := hs
      replace hs := hs.drop
      refine ⟨Sat.can hs (i := 0) .z (by simp), ?_⟩
      intro h9 e9
      replace hs := Sat.wr hs (i := 0) .z e9
      clear e9
      rw [tok_cs] at hs
      simp only [put_zero] at hs
      rw [wrap_succ (by omega)]
      have eb2 : cvsV (List.replicate (u.cl + x) ⟨K, 0, 0, 0, 0⟩) ++ cvV ⟨K, 0, 0, 0, 0⟩ = cvsV (List.replicate (u.cl + (x + 1)) ⟨K, 0, 0, 0, 0⟩) := by
        rw [show u.cl + (x + 1) = u.cl + x + 1 by omega, cvsV_rep]
      rw [eb1] at k3
      rw [eb2] at k4
      exact hk2 _ ⟨p3, c3, B3, p4, c4, B4, k3, k4, hs⟩
    · clear hs
      rintro h5 ⟨p1, c1, B1, p2, c2, B2, k1, k2, hs⟩
      apply hJ313
      clear hJ313
      rw [ltI_eq, if_neg (by decide)]
      refine ⟨_, hs.ld (i := 0) .z rfl, _, _, _, hs.ld (i := 0) .z rfl, _, _, _, hs.ld (i := 0) .z rfl, _, u1, tok_row hs (i := 0) .z, ?_⟩
      intro vb hv9 hn; replace hs := Sat.new hs hn; clear hn
      obtain ⟨v, hv⟩ : ∃ v : TR, v = ⟨u.key, p1, u.il + 40, c1, p2, u.cl + 40, c2, u.tag, [], []⟩ := ⟨_, rfl⟩
      have vl : v.L = tokL u.key p1 (u.il + 40) c1 p2 (u.cl + 40) c2 u.tag := by rw [hv]
      have vt : v.tag.length = 32 := by rw [hv]; exact u1
      replace hs : Sat h0 (blk vb v.L :: blk ub (tokL u.key p1 (u.il + 40) c1 p2 (u.cl + 40) c2 u.tag) :: (B1 ++ (B2 ++ D))) hv9 := by rw [vl]; exact hs
      refine ⟨v.L, hs.bv (i := 0) (l := 1) (sz := 35) .z (by rw [tokL_len vt]) (tokL_one v), ?_⟩
      rw [hD] at hs
      obtain ⟨y, ay⟩ : ∃ y, At (blk vb v.L :: blk ub (tokL u.key p1 (u.il + 40) c1 p2 (u.cl + 40) c2 u.tag) :: (B1 ++ (B2 ++ (slE lp t lc 35 (toksV V) :: slE o262 U.length n264 35 (toksV U) :: blk n64 (tokL key ip il ic cp cl cc tag) :: blk n29 (tokL key ip2 il2 ic2 cp2 cl2 cc2 tag) :: (B ++ (owns (U.drop (t + 1)) ++ C)))))) y (slE lp t lc 35 (toksV V)) := At.mem (by simp)
      replace hs : Sat h0 (slE lp t lc 35 (toksV V) :: (B1 ++ (B2 ++ (slE o262 U.length n264 35 (toksV U) :: blk n64 (tokL key ip il ic cp cl cc tag) :: blk n29 (tokL key ip2 il2 ic2 cp2 cl2 cc2 tag) :: (B ++ (owns (U.drop (t + 1)) ++ C)))))) hv9 := by
        have := hs.drop.drop
        rw [← List.append_assoc] at this
        have := this.perm List.perm_middle
        rw [List.append_assoc] at this
        exact this
      refine Sat.app hs (i := 0) (vs := v.L) .z (by rw [tokL_len vt]) (by simp [zeros]) (tokL_one v) (by omega) ?_
      intro lp2 lc2 h6 hs
      simp only [put_zero] at hs
      rw [wrap_succ (by omega)]
      have eV : toksV (V ++ [v]) = toksV V ++ v.L := by rw [toksV_app]; show _ ++ (v.L ++ []) = _; rw [List.append_nil]
      refine hk (V ++ [v], lp2, lc2) h6 ⟨by rw [List.length_append, hVl]; rfl, ?_, B1 ++ (B2 ++ B), ?_, ?_⟩
      · intro w hw
        rcases List.mem_append.1 hw with hw | hw
        · exact hVt w hw
        · simp only [List.mem_cons, List.not_mem_nil, or_false] at hw
          rw [hw]
          refine ⟨vt, ?_, ?_⟩
          · rw [hv]; dsimp only; omega
          · rw [hv]; dsimp only; omega
      · intro j hj hjv h' hs'
        dsimp only at hjv ⊢
        rw [List.length_append] at hjv
        by_cases c : j < V.length
        · rw [List.getElem_append_left c]
          exact hB j hj c h' (hs'.sub ((List.sublist_append_right _ _).trans (List.sublist_append_right _ _)))
        · have ej : j = t := by simp at hjv; omega
          subst ej
          rw [List.getElem_append_right (by omega)]
          have e1 : [v][j - V.length]'(by simp at hjv ⊢; omega) = v := by simp
          rw [e1, ← hu]
          have s1 : Sat h0 B1 h' := hs'.sub (List.sublist_append_left _ _)
          have s2 : Sat h0 B2 h' := hs'.sub ((List.sublist_append_left _ _).trans (List.sublist_append_right _ _))
          have K1 : Kept B1 u.ip u.il (ints .u8 (List.replicate u.il b)) p1 (u.il + 40) 1 (ints .u8 (List.replicate (u.il + 40) b)) := ⟨c1, k1⟩
          have K2 : Kept B2 u.cp u.cl (cvsV (List.replicate u.cl ⟨K, 0, 0, 0, 0⟩)) p2 (u.cl + 40) 5 (cvsV (List.replicate (u.cl + 40) ⟨K, 0, 0, 0, 0⟩)) := ⟨c2, k2⟩
          have allb : ∀ (n : Nat) (x : Int), x ∈ List.replicate n b → x = markB j := fun n x hx => by rw [List.eq_of_mem_replicate hx, hb]
          have allk : ∀ (n : Nat) (x : CvM), x ∈ List.replicate n (⟨K, 0, 0, 0, 0⟩ : CvM) → x.kind = markK j := fun n x hx => by rw [List.eq_of_mem_replicate hx]; exact hK
          rw [hv]
          exact ⟨⟨_, K1.old s1, allb _⟩, ⟨_, K2.old s2, allk _⟩, ⟨_, K1.now s1, allb _⟩, ⟨_, K2.now s2, allk _⟩⟩
      · dsimp only
        rw [eV]
        refine hs.perm ?_
        refine List.Perm.cons _ ?_
        have e : ∀ (X Y Z : Ent) (P1 P2 P R : List Ent), (P1 ++ (P2 ++ (X :: Y :: Z :: (P ++ R)))).Perm (X :: Y :: Z :: ((P1 ++ (P2 ++ P)) ++ R)) := by
          intro X Y Z P1 P2 P R
          have p1 := (List.perm_append_comm (l₁ := P1 ++ P2) (l₂ := [X, Y, Z])).append_right (P ++ R)
          simpa using p1
        exact e _ _ _ _ _ _ _
    · refine ⟨u.ip, u.ic, [slE u.ip u.il u.ic 1 (ints .u8 (List.replicate u.il b))], u.cp, u.cc, [slE u.cp u.cl u.cc 5 (cvsV (List.replicate u.cl ⟨K, 0, 0, 0, 0⟩))], Or.inl ⟨rfl, rfl, by omega, ?_⟩, Or.inl ⟨rfl, rfl, by omega, ?_⟩, hs⟩
      · rw [List.take_of_length_le (by simp)]; rfl
      · rw [List.take_of_length_le (by rw [cvsV_len, List.length_replicate]; omega)]; rfl
  · clear hs
    rintro ⟨V, lp, lc⟩ h1 ⟨hVl, hVt, B, hB, hs⟩
    dsimp only at hVl hVt hB hs ⊢
    apply hJ269
    rw [ltI_eq, if_neg (by rw [decide_eq_true_iff]; omega)]
    rw [List.drop_of_length_le (Nat.le_refl _)] at hs
    replace hs : Sat h0 (slE lp U.length lc 35 (toksV V) :: slE o262 U.length n264 35 (toksV U) :: blk n64 (tokL key ip il ic cp cl cc tag) :: blk n29 (tokL key ip2 il2 ic2 cp2 cl2 cc2 tag) :: (B ++ C)) h1 := hs
    have rdB : ∀ {E : List Ent} {h' : H}, Sat h0 (E ++ (slE lp U.length lc 35 (toksV V) :: slE o262 U.length n264 35 (toksV U) :: blk n64 (tokL key ip il ic cp cl cc tag) :: blk n29 (tokL key ip2 il2 ic2 cp2 cl2 cc2 tag) :: (B ++ C))) h' → Sat h0 B h' := fun {E h'} hs' => hs'.sub (((((List.sublist_append_left B C).trans (List.sublist_cons_self _ _)).trans (List.sublist_cons_self _ _)).trans (List.sublist_cons_self _ _)).trans (List.sublist_cons_self _ _) |>.trans (List.sublist_append_right _ _))
    intro J364 hJ364
    refine loop_up U.length (fun t h => Sat h0 (slE lp U.length lc 35 (toksV V) :: slE o262 U.length n264 35 (toksV U) :: blk n64 (tokL key ip il ic cp cl cc tag) :: blk n29 (tokL key ip2 il2 ic2 cp2 cl2 cc2 tag) :: (B ++ C)) h) ?_ ?_ 0 _ (by omega) hs
    · clear hs
      intro t h2 ht' hs hk
      apply hJ364
      rw [ltI_eq, if_pos (by rw [decide_eq_true_iff]; omega)]
      have htV : t < V.length := by omega
      obtain ⟨v, hv⟩ : ∃ v, v = V[t] := ⟨_, rfl⟩
      obtain ⟨u, hu⟩ : ∃ u, u = U[t] := ⟨_, rfl⟩
      have hBt := hB t ht' htV
      rw [← hv, ← hu] at hBt
      obtain ⟨vt, vil, vcl⟩ : v.tag.length = 32 ∧ v.il < 2 ^ 60 ∧ v.cl < 2 ^ 60 := by rw [hv]; exact hVt _ (List.getElem_mem htV)
      obtain ⟨q, hq, g0, g1, g2, g3⟩ := tok_rd (fun w hw => (hVt w hw).1) (hs.sv (i := 0) .z) htV
      rw [← hv] at g0 g1 g2 g3
      refine ⟨q, hq, by omega, by omega, ?_⟩
      simp only [Int.toNat_natCast]
      refine ⟨_, g0, _, _, _, g1, _, _, _, g2, _, vt, g3, ?_⟩
      clear g0 g1 g2 g3
      intro ub _ hn; replace hs := Sat.new hs hn; clear hn
      refine ⟨Sat.can hs (i := 0) .z (by simp [zeros]), ?_⟩
      intro h3 e3
      replace hs := Sat.wra (xs := v.L) hs (i := 0) .z e3 (by simp [zeros, vt])
      clear e3
      simp only [put_zero] at hs
      refine ⟨_, _, _, hs.ld (i := 0) .z rfl, ?_⟩
      have M := hBt _ (rdB (E := [_]) hs)
      obtain ⟨q2, hq2, g0, g1, g2, g3⟩ := tok_rd hUt (hs.sv (i := 2) (.s (.s .z))) ht'
      rw [← hu] at g0 g1 g2 g3
      have hbw : IntKind.u8.wrap (IntKind.i64.wrap ((t : Int) + 1)) = markB t := rfl
      have hKw : IntKind.i64.wrap (-1 - (t : Int)) = markK t := rfl
      rw [hbw, hKw]
      intro J384 hJ384
      refine loop_up v.il (fun x h' => h' = h3) ?_ ?_ 0 _ (by omega) rfl
      · rintro x h4 hx rfl hk2
        apply hJ384
        rw [ltI_eq, if_pos (by rw [decide_eq_true_iff]; omega)]
        refine ⟨_, _, _, hs.ld (i := 0) .z rfl, ?_⟩
        obtain ⟨qa, hqa, ga⟩ := M.2.2.1.get hx
        refine ⟨qa, hqa, by omega, by omega, ?_⟩
        simp only [Int.toNat_natCast, Nat.mul_one]
        refine ⟨_, ga, ?_⟩
        rw [if_neg (by simp)]
        refine ⟨q2, hq2, by omega, by omega, _, _, _, g1, ?_⟩
        rw [wrap_succ (by omega), ltI_eq]
        by_cases cx : x < u.il
        · rw [if_pos (by rw [decide_eq_true_iff]; omega)]
          obtain ⟨qb, hqb, gb⟩ := M.1.get cx
          refine ⟨q2, hq2, by omega, by omega, _, _, _, g1, qb, hqb, by omega, by omega, _, gb, ?_⟩
          rw [if_neg (by simp)]
          exact hk2 _ rfl
        · rw [if_neg (by rw [decide_eq_true_iff]; omega)]
          exact hk2 _ rfl
      · rintro h4 rfl
        apply hJ384
        rw [ltI_eq, if_neg (by rw [decide_eq_true_iff]; omega)]
        refine ⟨_, _, _, hs.ld (i := 0) .z rfl, ?_⟩
        intro J405 hJ405
        refine loop_up v.cl (fun x h' => h' = h4) ?_ ?_ 0 _ (by omega) rfl
        · rintro x h5 hx rfl hk2
          apply hJ405
          rw [ltI_eq, if_pos (by rw [decide_eq_true_iff]; omega)]
          refine ⟨_, _, _, hs.ld (i := 0) .z rfl, ?_⟩
          obtain ⟨qa, hqa, ga⟩ := M.2.2.2.get hx
          refine ⟨qa, hqa, by omega, by omega, ?_⟩
          simp only [Int.toNat_natCast]
          refine ⟨_, ga, ?_⟩
          rw [if_neg (by simp)]
          refine ⟨q2, hq2, by omega, by omega, _, _, _, g2, ?_⟩
          rw [wrap_succ (by omega), ltI_eq]
          by_cases cx : x < u.cl
          · rw [if_pos (by rw [decide_eq_true_iff]; omega)]
            obtain ⟨qb, hqb, gb⟩ := M.2.1.get cx
            refine ⟨q2, hq2, by omega, by omega, _, _, _, g2, qb, hqb, by omega, by omega, _, gb, ?_⟩
            rw [if_neg (by simp)]
            exact hk2 _ rfl
          · rw [if_neg (by rw [decide_eq_true_iff]; omega)]
            exact hk2 _ rfl
        · rintro h5 rfl
          apply hJ405
          rw [ltI_eq, if_neg (by rw [decide_eq_true_iff]; omega), wrap_succ (by omega)]
          exact hk _ hs.drop
    · clear hs
      intro h2 hs
      apply hJ364
      rw [ltI_eq, if_neg (by rw [decide_eq_true_iff]; omega)]
      have rdC : ∀ {E : List Ent} {h' : H}, Sat h0 (E ++ (slE lp U.length lc 35 (toksV V) :: slE o262 U.length n264 35 (toksV U) :: blk n64 (tokL key ip il ic cp cl cc tag) :: blk n29 (tokL key ip2 il2 ic2 cp2 cl2 cc2 tag) :: (B ++ C))) h' → Sat h0 C h' := fun {E h'} hs' => hs'.sub (((((List.sublist_append_right B C).trans (List.sublist_cons_self _ _)).trans (List.sublist_cons_self _ _)).trans (List.sublist_cons_self _ _)).trans (List.sublist_cons_self _ _) |>.trans (List.sublist_append_right _ _))
      refine ⟨_, hs.ld (i := 2) (.s (.s .z)) rfl, _, _, _, hs.ld (i := 2) (.s (.s .z)) rfl, _, _, _, hs.ld (i := 2) (.s (.s .z)) rfl, _, ht, tok_row hs (i := 2) (.s (.s .z)), ?_⟩
      refine ⟨_, hs.ld (i := 3) (.s (.s (.s .z))) rfl, _, _, _, hs.ld (i := 3) (.s (.s (.s .z))) rfl, _, _, _, hs.ld (i := 3) (.s (.s (.s .z))) rfl, _, ht, tok_row hs (i := 3) (.s (.s (.s .z))), ?_⟩
      refine back_sp (cs := cs) hs ht hl (fun h' hs' => r2 _ (rdC (E := []) hs')) ?_
      intro p9 c9 h3 hs
      refine ⟨Sat.cs hs (i := 4) (.s (.s (.s (.s .z)))) (by rw [List.drop_zero, List.take_of_length_le (Nat.le_refl _)]), ?_⟩
      refine rsame_sp (id := id) (cs := cs) hs ht (by omega) (fun h' hs' => r1 _ (rdC (E := [_]) hs')) (fun h' hs' => hs'.sv (i := 0) .z) (fun h' hs' => r3 _ (rdC (E := [_]) hs')) (fun h' hs' => r4 _ (rdC (E := [_]) hs')) ?_
      intro h4 hs
      exact k _ hs.nil
end
end Go.Proofs.YtijcpgahmbkijaaGreatDoor
end

/- TokenKeeps: what follows the narrowing; with room behind the lists. Own work. -/
section
set_option maxRecDepth 100000
set_option linter.unusedVariables false
namespace Go.Proofs.YtijcpgahmbkijaaGreatDoor
open Go Go.Vc
attribute [local irreducible] macM

theorem czSplice (cs : List CvM) {t cl : Nat} (hl : t < cs.length) (hc : t < cl) : splice (cvsV (cs.take t ++ List.replicate (cl + 2 - t) cz)) (t * 5) (cvV cs[t]) = cvsV (cs.take (t + 1) ++ List.replicate (cl + 2 - (t + 1)) cz) := by
  have := splice_append (cvsV (cs.take t)) (cvV cz) (cvsV (List.replicate (cl + 2 - (t + 1)) cz)) (cvV cs[t]) rfl
  rw [cvsV_len, List.length_take, show min t cs.length = t by omega] at this
  rw [cvsV_app, show cl + 2 - t = cl + 2 - (t + 1) + 1 by omega, List.replicate_succ]
  show splice (cvsV _ ++ (cvV cz ++ cvsV _)) _ _ = _
  rw [← List.append_assoc, this, take_snoc _ hl, cvsV_app, cvsV_snoc]

theorem sub_two {p : Option Addr} {c n : Nat} (hc : 0 < c) (hn : c ≠ n) : subAddr (subAddr p 0 c 1) n c 1 = subAddr p n c 1 := by
  unfold subAddr
  rw [if_neg hn, if_neg hn, if_neg (show ¬ c = 0 by omega)]
  cases p with
  | none => rfl
  | some a => simp only [Option.map_some, addAdd, Nat.zero_mul, Nat.zero_add]
theorem sub_same {p : Option Addr} {c : Nat} (hc : 0 < c) : subAddr (subAddr p 0 c 1) 0 c 1 = subAddr p 0 c 1 := sub_two hc (by omega)
theorem blk_cs {A : List Ent} {h0 h : H} {i b cl : Nat} {cs : List CvM} (hcl : cs.length = cl) (hs : Sat h0 A h) (m : At A i (blk b (cvsV (cs ++ [cz, cz])))) : hsv h (some ⟨b, 0, none⟩) 5 cl (cvsV cs) := by
  rw [cvsV_app] at m
  refine blk_pre hs m (by rw [cvsV_len, hcl]) ?_
  exact cvsV_one cs
theorem blk_cs2 {A : List Ent} {h0 h : H} {i b cl : Nat} {cs : List CvM} (hcl : cs.length = cl) (hs : Sat h0 A h) (m : At A i (blk b (cvsV (cs ++ [cz, cz])))) : hsv h (some ⟨b, 0, none⟩) 5 (cl + 2) (cvsV (cs ++ [cz, cz])) := by
  refine blk_pre (ys := []) hs (by rw [List.append_nil]; exact m) (by rw [cvsV_len, List.length_append, hcl]; rfl) ?_
  exact cvsV_one _
theorem getT_few {bs : List Int} (hb : isBytes bs) : (getT bs).id.length ≤ 64 ∧ (getT bs).cs.length ≤ 32 ∧ (getT bs).tag.length = 32 := by
  unfold getT
  split
  · rename_i T h
    obtain ⟨⟨_, ⟨_, i2⟩, c1, _⟩, _, t⟩ := put_get hb h
    exact ⟨by omega, c1, t⟩
  · exact ⟨Nat.zero_le _, Nat.zero_le _, zeros_len 32⟩
theorem toksV_two (u v : TR) : toksV [u, v] = Value.int .i64 u.key :: .slice u.ip u.il u.ic :: .slice u.cp u.cl u.cc :: (ints .u8 u.tag ++ Value.int .i64 v.key :: .slice v.ip v.il v.ic :: .slice v.cp v.cl v.cc :: ints .u8 v.tag) := by
  simp [toksV]
theorem toksV_one (U : List TR) : ∀ v, v ∈ toksV U → v.oneCell' = true := by
  intro v hv
  induction U with
  | nil => cases hv
  | cons x r ih =>
    rcases List.mem_append.1 hv with y | y
    · exact tokL_one x v y
    · exact ih y
theorem toksV_len {U : List TR} (h : ∀ u, u ∈ U → u.tag.length = 32) : (toksV U).length = U.length * 35 := by
  induction U with
  | nil => rfl
  | cons x r ih =>
    show (x.L ++ toksV r).length = _
    rw [List.length_append, tokL_len (h x (by simp)), ih (fun u hu => h u (by simp [hu])), List.length_cons]
    omega
theorem tailE {h0 h : H} {e : Ent} {E : List Ent} (hs : Sat h0 (e :: E) h) : ∃ E', E' = E ∧ Sat h0 (e :: E') h := ⟨E, rfl, hs⟩

theorem perm3 {α : Type} (a b : α) (P C : List α) : (P ++ a :: b :: C).Perm (a :: b :: (P ++ C)) := by
  have := List.perm_append_comm (l₁ := P) (l₂ := [a, b])
  have := this.append_right C
  simpa using this
theorem perm4 {α : Type} (a b c d : α) (P M : List α) : (a :: b :: c :: d :: (P ++ M)).Perm (P ++ ([a, b, c, d] ++ M)) := by
  have := (List.perm_append_comm (l₁ := [a, b, c, d]) (l₂ := P)).append_right M
  simpa using this
section
variable {h0 h : H} {A : List Ent} {i j d r m : Nat}
theorem lawofR_sp {Q : Int → Option Addr → Nat → Nat → Option Addr → Nat → Nat → List Int → H → Prop} {key : Int} {id tag : List Int} {cs : List CvM} {ip cp : Option Addr} {il ic cl cc : Nat} (hs : Sat h0 A h) (ht : tag.length = 32) (hi : il + 4096 ≤ 2 ^ 47) (hl : cl ≤ 65536)
    (ri : ∀ h', Sat h0 A h' → hsv h' ip 1 il (ints .u8 id)) (rc : ∀ h', Sat h0 A h' → hsv h' cp 5 cl (cvsV cs))
    (k : ∀ p1 c1 cb h', il + 3 ≤ c1 → Sat h0 (blk cb (cvsV (cs ++ [cz, cz])) :: slE p1 (il + 3) c1 1 (ints .u8 (id ++ [161, 162, 163])) :: A) h' → Q key (subAddr p1 0 c1 1) il c1 (some ⟨cb, 0, none⟩) cl (cl + 2) tag h') :
    F_portcullislaw24_of key ip il ic cp cl cc tag Q h := by
  unfold F_portcullislaw24_of G_portcullislaw24_of
  simp only [add_mk, Nat.zero_add, List.append_nil]
  have hcl : cs.length = cl := by have := (rc _ hs).1; rw [cvsV_len] at this; omega
  have hil : id.length = il := by have := (ri _ hs).1; simpa using this
  intro tb _ hn; replace hs := Sat.new hs hn; clear hn
  intro ob _ hn; replace hs := Sat.new hs hn; clear hn
  replace hs : Sat h0 (blk ob tok0 :: blk tb (tokL key ip il ic cp cl cc tag) :: A) _ := hs
  refine ⟨_, _, _, hs.ld (i := 1) (.s .z) rfl, _, _, _, hs.ld (i := 1) (.s .z) rfl, ?_⟩
  have e3 : IntKind.i64.wrap ((il : Int) + 3) = ((il + 3 : Nat) : Int) := by rw [wrap_id (by omega)]; push_cast; rfl
  rw [e3]
  refine ⟨by decide, by omega, by omega, by omega, ?_⟩
  simp only [Int.toNat_natCast]
  intro ib _ hn; replace hs := Sat.new hs hn; clear hn
  refine ⟨hcs_one (hs.ld (i := 2) (.s (.s .z)) rfl), _, ri _ hs.drop.drop.drop, ?_⟩
  replace hs := as_sl0 hs (i := 0) (c := il + 3) (sz := 1) .z (by rw [flat_len]; simp)
  rw [put_zero] at hs
  refine Sat.app hs (i := 0) (vs := ints .u8 id) .z (by simp [hil]) rfl (ints_one _ _) (by omega) ?_
  intro p1 c1 h2 hs
  simp only [put_zero, Nat.zero_add, List.nil_append] at hs ⊢
  refine ⟨_, _, _, hs.ld (i := 2) (.s (.s .z)) rfl, ?_⟩
  have e2 : IntKind.i64.wrap ((cl : Int) + 2) = ((cl + 2 : Nat) : Int) := by rw [wrap_id (by omega)]; push_cast; rfl
  rw [e2]
  refine ⟨by decide, by omega, by omega, by omega, ?_⟩
  simp only [Int.toNat_natCast]
  intro cb _ hn; replace hs := Sat.new hs hn; clear hn
  rw [czs] at hs
  refine ⟨_, _, _, hs.ld (i := 3) (.s (.s (.s .z))) rfl, ?_⟩
  intro J40 hJ40
  refine loopS cl (fun t (s : Unit) => [.dv (.one (.slice (some ⟨cb, 0, none⟩) t (cl + 2))), si t]) (fun t (s : Unit) h => Sat h0 (blk cb (cvsV (cs.take t ++ List.replicate (cl + 2 - t) cz)) :: slE p1 il c1 1 (ints .u8 id) :: blk ob tok0 :: blk tb (tokL key ip il ic cp cl cc tag) :: A) h) ?_ ?_ 0 () _ (by omega) (by simpa using hs)
  · rintro t ⟨⟩ h5 htl hs hk
    apply hJ40
    rw [ltI_eq, if_pos (by simp; omega)]
    obtain ⟨q, hl2, hq, g0, g1, g2, g3, g4⟩ := cv_rd (rc _ hs.drop.drop.drop.drop) (i := t) htl
    refine ⟨q, hq, by omega, by omega, ?_⟩
    simp only [Int.toNat_natCast]
    refine ⟨_, g0, _, g1, _, g2, _, g3, _, g4, ?_⟩
    intro b3 _ hn; replace hs := Sat.new hs hn; clear hn
    refine ⟨Sat.can hs (i := 0) .z (by simp), ?_⟩
    intro h6 e
    replace hs := Sat.wra hs (i := 0) .z e rfl
    clear e
    simp only [put_zero] at hs
    refine ⟨_, hs.ld (i := 0) .z rfl, _, hs.ld (i := 0) .z rfl, _, hs.ld (i := 0) .z rfl, _, hs.ld (i := 0) .z rfl, _, hs.ld (i := 0) .z rfl, ?_⟩
    refine caveat_sp cs[t] hs ?_
    intro h7 hs
    intro b4 _ hn; replace hs := Sat.new hs hn; clear hn
    refine ⟨_, hs.bv (i := 0) (l := 1) (sz := 5) .z rfl (cv1 cs[t]), ?_⟩
    refine app_blk hs (i := 2) (vs := cvV cs[t]) (.s (.s .z)) (by omega) rfl (by rw [cvsV_len, List.length_append, List.length_take, List.length_replicate]; omega) ?_
    intro h8 hs
    simp only [put_succ, put_zero] at hs
    rw [czSplice cs hl2 (by omega)] at hs
    rw [wrap_succ (by omega)]
    exact hk () h8 hs.drop.drop
  · rintro ⟨⟩ h5 hs
    apply hJ40
    clear hJ40
    rw [ltI_eq, if_neg (by simp)]
    rw [List.take_of_length_le (by omega), show cl + 2 - cl = 2 by omega] at hs
    replace hs : Sat h0 (blk cb (cvsV (cs ++ [cz, cz])) :: slE p1 il c1 1 (ints .u8 id) :: blk ob tok0 :: blk tb (tokL key ip il ic cp cl cc tag) :: A) _ := hs
    have t3 := At.s (x := blk cb (cvsV (cs ++ [cz, cz]))) (At.s (x := slE p1 il c1 1 (ints .u8 id)) (At.s (x := blk ob tok0) (At.z (A := A) (e := blk tb (tokL key ip il ic cp cl cc tag)))))
    refine ⟨_, hs.ld t3 rfl, _, _, _, hs.ld t3 rfl, tag, ht, tok_row hs t3, ?_⟩
    intro mb _ hn; replace hs := Sat.new hs hn; clear hn
    have t4 := At.s (x := blk mb [Value.int .u8 161, .int .u8 162, .int .u8 163]) t3
    refine ⟨tok_row hs t4, hcs_one (hs.ld t4 rfl), hcs_one (hs.ld t4 rfl), _, hs.bv (i := 0) (l := 3) (sz := 1) .z rfl (ints_one .u8 [161, 162, 163]), ?_⟩
    refine Sat.app hs (i := 2) (vs := ints .u8 [161, 162, 163]) (.s (.s .z)) rfl rfl (ints_one _ _) (by omega) ?_
    intro p6 c6 h6 hs
    simp only [put_succ, put_zero] at hs
    rw [← ints_app] at hs
    have hc := capS hs (i := 2) (.s (.s .z))
    have t5 := At.s (x := blk mb [Value.int .u8 161, .int .u8 162, .int .u8 163]) (At.s (x := blk cb (cvsV (cs ++ [cz, cz]))) (At.s (x := slE p6 (il + 3) c6 1 (ints .u8 (id ++ [161, 162, 163]))) (At.s (x := blk ob tok0) (At.z (A := A) (e := blk tb (tokL key ip il ic cp cl cc tag))))))
    refine ⟨tok_row hs t5, hcs_one (hs.ld t5 rfl), hcs_one (hs.ld t5 rfl), by omega, by omega, ?_⟩
    refine ⟨Sat.can hs (i := 3) (.s (.s (.s .z))) (by simp [zeros]), ?_⟩
    intro h7 e
    replace hs := Sat.wra (xs := tokL key (subAddr p6 0 c6 1) il c6 (some ⟨cb, 0, none⟩) cl (cl + 2) tag) hs (i := 3) (.s (.s (.s .z))) (by simpa using e) (by simp [zeros, ht])
    clear e
    simp only [put_succ, put_zero] at hs
    have t6 := At.s (x := blk mb [Value.int .u8 161, .int .u8 162, .int .u8 163]) (At.s (x := blk cb (cvsV (cs ++ [cz, cz]))) (At.s (x := slE p6 (il + 3) c6 1 (ints .u8 (id ++ [161, 162, 163]))) (At.z (A := blk tb (tokL key ip il ic cp cl cc tag) :: A) (e := blk ob (tokL key (subAddr p6 0 c6 1) il c6 (some ⟨cb, 0, none⟩) cl (cl + 2) tag)))))
    refine ⟨_, hs.ld t6 rfl, _, _, _, hs.ld t6 rfl, _, _, _, hs.ld t6 rfl, tag, ht, tok_row hs t6, ?_⟩
    exact k p6 c6 cb h7 hc (hs.sub (by (repeat (first | exact List.Sublist.refl _ | apply List.Sublist.cons_cons | apply List.Sublist.cons))))
theorem keepRest_sp {Q : Bool → H → Prop} {n29 n32 n64 n69 n101 n135 cb : Nat} {h138 : H} {key : Int} {id tag : List Int} {cs : List CvM} {cv : CvM} {ip cp a2p p1 s1 s2 t1 t2 : Option Addr} {il ic cl cc a2l a2c c1 x1 x2 z1 z2 : Nat} {bb : List Int} {O : NkE}
    (ht : tag.length = 32) (htb : isBy tag) (hl : cl ≤ 65536) (hi : il + 4096 ≤ 2 ^ 47) (ri : hsv h0 ip 1 il (ints .u8 id)) (rc : hsv h0 cp 5 cl (cvsV cs)) (ra : hsv h0 a2p 1 a2l (ints .u8 bb)) (hbb : isBytes bb) (hac : a2l ≤ a2c) (hal : a2l < 2 ^ 47)
    (hO : O = narM key id cs tag cv) (hc1 : il + 3 ≤ c1)
    (hs : Sat h0 [blk n135 tok0, slE t2 O.cs.length z2 5 (cvsV O.cs), slE t1 O.id.length z1 1 (ints .u8 O.id), blk n101 (tokL O.key s1 O.id.length x1 s2 O.cs.length x2 O.tag), slE s2 O.cs.length x2 5 (cvsV O.cs), slE s1 O.id.length x1 1 (ints .u8 O.id), blk n69 [], blk n64 (tokL key (subAddr p1 0 c1 1) il c1 (some ⟨cb, 0, none⟩) cl (cl + 2) tag), blk cb (cvsV (cs ++ [cz, cz])), slE p1 (il + 3) c1 1 (ints .u8 (id ++ [161, 162, 163])), blk n32 (cvV cv), blk n29 (tokL key ip il ic cp cl cc tag)] h138)
    (k : ∀ h', Sat h0 [] h' → Q true h') : K1_portcullislaw24_TokenKeeps F_portcullisref24_Same F_portcullislaw24_back F_portcullisref24_Token_Narrow F_token_Put F_token_Get F_portcullisref24_Get a2p a2l a2c Q h138 n135 O.key t1 O.id.length z1 t2 O.cs.length z2 O.tag n29 n32 n64 n101 n69 O.e := by
  unfold K1_portcullislaw24_TokenKeeps
  simp only [add_mk, Nat.zero_add, List.append_nil]
  have hcl : cs.length = cl := by have := rc.1; rw [cvsV_len] at this; omega
  have hil : id.length = il := by have := ri.1; simpa using this
  have hbl : bb.length = a2l := by have := ra.1; simpa using this
  have e2 : IntKind.i64.wrap ((cl : Int) + 2) = ((cl + 2 : Nat) : Int) := by rw [wrap_id (by omega)]; push_cast; rfl
  have e1 : IntKind.i64.wrap ((cl : Int) + 1) = ((cl + 1 : Nat) : Int) := by rw [wrap_id (by omega)]; push_cast; rfl
  have e3 : IntKind.i64.wrap ((il : Int) + 3) = ((il + 3 : Nat) : Int) := by rw [wrap_id (by omega)]; push_cast; rfl
  obtain ⟨n1, n2, n3, n4⟩ := narM_tag key id cs tag cv
  rw [← hO] at n1 n2 n3 n4
  intro h139 e
  replace hs := Sat.wra (xs := tokL O.key t1 O.id.length z1 t2 O.cs.length z2 O.tag) hs (i := 0) .z e (by simp [zeros, n1])
  clear e
  simp only [put_zero] at hs
  refine ⟨_, hs.ld (i := 11) (.s (.s (.s (.s (.s (.s (.s (.s (.s (.s (.s .z))))))))))) rfl, _, _, _, hs.ld (i := 11) (.s (.s (.s (.s (.s (.s (.s (.s (.s (.s (.s .z))))))))))) rfl, _, _, _, hs.ld (i := 11) (.s (.s (.s (.s (.s (.s (.s (.s (.s (.s (.s .z))))))))))) rfl, _, ht, tok_row hs (i := 11) (.s (.s (.s (.s (.s (.s (.s (.s (.s (.s (.s .z))))))))))), ?_⟩
  refine ⟨_, hs.ld (i := 10) (.s (.s (.s (.s (.s (.s (.s (.s (.s (.s .z)))))))))) rfl, _, hs.ld (i := 10) (.s (.s (.s (.s (.s (.s (.s (.s (.s (.s .z)))))))))) rfl, _, hs.ld (i := 10) (.s (.s (.s (.s (.s (.s (.s (.s (.s (.s .z)))))))))) rfl, _, hs.ld (i := 10) (.s (.s (.s (.s (.s (.s (.s (.s (.s (.s .z)))))))))) rfl, _, hs.ld (i := 10) (.s (.s (.s (.s (.s (.s (.s (.s (.s (.s .z)))))))))) rfl, ?_⟩
  refine rnar_sp (id := id) (cs := cs) cv hs ht htb (by omega) (by omega) (fun h' hs' => hs'.base ri) (fun h' hs' => hs'.base rc) ?_
  intro O' hO' u1 y1 u2 y2 h1 hs
  rw [← hO] at hO'
  subst hO'
  intro wb _ hn; replace hs := Sat.new hs hn; clear hn
  refine ⟨Sat.can hs (i := 0) .z (by simp [zeros]), ?_⟩
  intro h2 e
  replace hs := Sat.wra (xs := tokL O'.key u1 O'.id.length y1 u2 O'.cs.length y2 O'.tag) hs (i := 0) .z e (by simp [zeros, n1])
  clear e
  simp only [put_zero] at hs
  refine ⟨_, hs.ld (i := 10) (.s (.s (.s (.s (.s (.s (.s (.s (.s (.s .z)))))))))) rfl, _, _, _, hs.ld (i := 10) (.s (.s (.s (.s (.s (.s (.s (.s (.s (.s .z)))))))))) rfl, _, _, _, hs.ld (i := 10) (.s (.s (.s (.s (.s (.s (.s (.s (.s (.s .z)))))))))) rfl, _, ht, tok_row hs (i := 10) (.s (.s (.s (.s (.s (.s (.s (.s (.s (.s .z)))))))))), ?_⟩
  refine put1_sp (id := id) (cs := cs) hs ht (by omega) (fun h' hs' => ofId hil hc1 (hs'.sv (i := 12) (.s (.s (.s (.s (.s (.s (.s (.s (.s (.s (.s (.s .z)))))))))))))) (fun h' hs' => blk_cs hcl hs' (i := 11) (.s (.s (.s (.s (.s (.s (.s (.s (.s (.s (.s .z)))))))))))) ?_
  intro pp pc h3 _ hs
  replace hs := hs.drop
  intro J181 hJ181
  rw [if_neg (by simp)]
  refine ⟨_, hs.ld (i := 6) (.s (.s (.s (.s (.s (.s .z)))))) rfl, _, _, _, hs.ld (i := 6) (.s (.s (.s (.s (.s (.s .z)))))) rfl, _, _, _, hs.ld (i := 6) (.s (.s (.s (.s (.s (.s .z)))))) rfl, _, n1, tok_row hs (i := 6) (.s (.s (.s (.s (.s (.s .z)))))), ?_⟩
  refine ⟨_, hs.ld (i := 0) .z rfl, _, _, _, hs.ld (i := 0) .z rfl, _, _, _, hs.ld (i := 0) .z rfl, _, n1, tok_row hs (i := 0) .z, ?_⟩
  refine back_sp (cs := O'.cs) hs n1 (by omega) (fun h' hs' => hs'.sv (i := 7) (.s (.s (.s (.s (.s (.s (.s .z)))))))) ?_
  intro v2 z3 h4 hs
  refine ⟨Sat.cs hs (i := 1) (.s .z) (by rw [List.drop_zero, List.take_of_length_le (Nat.le_refl _)]), ?_⟩
  refine rsame_sp (id := O'.id) (cs := O'.cs) hs n1 (by omega) (fun h' hs' => hs'.sv (i := 9) (.s (.s (.s (.s (.s (.s (.s (.s (.s .z)))))))))) (fun h' hs' => hs'.sv (i := 0) .z) (fun h' hs' => hs'.sv (i := 3) (.s (.s (.s .z)))) (fun h' hs' => hs'.sv (i := 2) (.s (.s .z))) ?_
  intro h5 hs
  replace hs := hs.drop
  rw [if_neg (by decide)]
  refine ⟨_, hs.ld (i := 3) (.s (.s (.s .z))) rfl, _, _, _, hs.ld (i := 3) (.s (.s (.s .z))) rfl, _, _, _, hs.ld (i := 3) (.s (.s (.s .z))) rfl, _, n1, tok_row hs (i := 3) (.s (.s (.s .z))), ?_⟩
  refine ⟨_, hs.ld (i := 0) .z rfl, _, _, _, hs.ld (i := 0) .z rfl, _, _, _, hs.ld (i := 0) .z rfl, _, n1, tok_row hs (i := 0) .z, ?_⟩
  refine back_sp (cs := O'.cs) hs n1 (by omega) (fun h' hs' => hs'.sv (i := 4) (.s (.s (.s (.s .z))))) ?_
  intro v2 z3 h4 hs
  refine ⟨Sat.cs hs (i := 1) (.s .z) (by rw [List.drop_zero, List.take_of_length_le (Nat.le_refl _)]), ?_⟩
  refine rsame_sp (id := O'.id) (cs := O'.cs) hs n1 (by omega) (fun h' hs' => hs'.sv (i := 6) (.s (.s (.s (.s (.s (.s .z))))))) (fun h' hs' => hs'.sv (i := 0) .z) (fun h' hs' => hs'.sv (i := 3) (.s (.s (.s .z)))) (fun h' hs' => hs'.sv (i := 2) (.s (.s .z))) ?_
  intro h5 hs
  replace hs := hs.drop
  rw [if_neg (by decide)]
  refine ⟨_, hs.ld (i := 10) (.s (.s (.s (.s (.s (.s (.s (.s (.s (.s .z)))))))))) rfl, _, _, _, hs.ld (i := 10) (.s (.s (.s (.s (.s (.s (.s (.s (.s (.s .z)))))))))) rfl, _, _, _, hs.ld (i := 10) (.s (.s (.s (.s (.s (.s (.s (.s (.s (.s .z)))))))))) rfl, _, ht, tok_row hs (i := 10) (.s (.s (.s (.s (.s (.s (.s (.s (.s (.s .z)))))))))), ?_⟩
  refine ⟨_, hs.ld (i := 14) (.s (.s (.s (.s (.s (.s (.s (.s (.s (.s (.s (.s (.s (.s .z)))))))))))))) rfl, _, _, _, hs.ld (i := 14) (.s (.s (.s (.s (.s (.s (.s (.s (.s (.s (.s (.s (.s (.s .z)))))))))))))) rfl, _, _, _, hs.ld (i := 14) (.s (.s (.s (.s (.s (.s (.s (.s (.s (.s (.s (.s (.s (.s .z)))))))))))))) rfl, _, ht, tok_row hs (i := 14) (.s (.s (.s (.s (.s (.s (.s (.s (.s (.s (.s (.s (.s (.s .z)))))))))))))), ?_⟩
  refine back_sp (cs := cs) hs ht (by omega) (fun h' hs' => blk_cs hcl hs' (i := 11) (.s (.s (.s (.s (.s (.s (.s (.s (.s (.s (.s .z)))))))))))) ?_
  intro v2 z3 h4 hs
  refine ⟨Sat.cs hs (i := 15) (.s (.s (.s (.s (.s (.s (.s (.s (.s (.s (.s (.s (.s (.s (.s .z))))))))))))))) (by rw [List.drop_zero, List.take_of_length_le (Nat.le_refl _)]), ?_⟩
  refine rsame_sp (id := id) (cs := cs) hs ht (by omega) (fun h' hs' => ofId hil hc1 (hs'.sv (i := 13) (.s (.s (.s (.s (.s (.s (.s (.s (.s (.s (.s (.s (.s .z))))))))))))))) (fun h' hs' => hs'.sv (i := 0) .z) (fun h' hs' => hs'.base ri) (fun h' hs' => hs'.base rc) ?_
  intro h5 hs
  replace hs := hs.drop
  rw [if_neg (by decide)]
  refine ⟨_, _, _, hs.ld (i := 10) (.s (.s (.s (.s (.s (.s (.s (.s (.s (.s .z)))))))))) rfl, _, _, _, hs.ld (i := 14) (.s (.s (.s (.s (.s (.s (.s (.s (.s (.s (.s (.s (.s (.s .z)))))))))))))) rfl, ?_⟩
  rw [e3]
  refine ⟨by omega, by omega, _, _, _, hs.ld (i := 14) (.s (.s (.s (.s (.s (.s (.s (.s (.s (.s (.s (.s (.s (.s .z)))))))))))))) rfl, by omega, ?_⟩
  simp only [Int.toNat_natCast, Nat.sub_zero]
  refine ⟨by omega, [161, 162, 163], ?_, ?_⟩
  · rw [sub_same (by omega), sub_two (by omega) (by omega), show il + 3 - il = 3 by omega]
    have := subRd (o := il) (n := 3) (m := c1) (hs.sv (i := 12) (.s (.s (.s (.s (.s (.s (.s (.s (.s (.s (.s (.s .z))))))))))))) (by omega) (by omega)
    rwa [List.drop_left' hil] at this
  rw [show bytesOf [161, 162, 163] = ByteArray.mk #[161, 162, 163] from rfl, if_neg (by simp)]
  apply hJ181
  clear hJ181
  intro J183 hJ183
  refine ⟨_, _, _, hs.ld (i := 10) (.s (.s (.s (.s (.s (.s (.s (.s (.s (.s .z)))))))))) rfl, _, _, _, hs.ld (i := 14) (.s (.s (.s (.s (.s (.s (.s (.s (.s (.s (.s (.s (.s (.s .z)))))))))))))) rfl, ?_⟩
  rw [e2]
  have eS : subAddr (some (⟨cb, 0, none⟩ : Addr)) 0 (cl + 2) 5 = some ⟨cb, 0, none⟩ := by unfold subAddr; rw [if_neg (by omega)]; rfl
  have rdz := blk_cs2 hcl hs (i := 11) (.s (.s (.s (.s (.s (.s (.s (.s (.s (.s (.s .z)))))))))))
  refine ⟨by omega, by omega, _, _, _, hs.ld (i := 14) (.s (.s (.s (.s (.s (.s (.s (.s (.s (.s (.s (.s (.s (.s .z)))))))))))))) rfl, _, eS, by omega, ?_⟩
  simp only [Int.toNat_natCast, Nat.sub_zero]
  obtain ⟨q, hq0, hq, g0, g1, g2, g3, g4⟩ := cv_rd rdz (i := cl) (by omega)
  cases hq
  have ez : (cs ++ [cz, cz])[cl] = cz := by rw [List.getElem_append_right (by omega)]; simp [hcl]
  rw [ez] at g0 g1 g2 g3 g4
  refine ⟨by omega, _, g0, _, g1, _, g2, _, g3, _, g4, ?_⟩
  clear g0 g1 g2 g3 g4
  rw [if_neg (by decide)]
  refine ⟨_, _, _, hs.ld (i := 14) (.s (.s (.s (.s (.s (.s (.s (.s (.s (.s (.s (.s (.s (.s .z)))))))))))))) rfl, ?_⟩
  rw [e1]
  simp only [Int.toNat_natCast]
  obtain ⟨q, hq1, hq, g0, g1, g2, g3, g4⟩ := cv_rd rdz (i := cl + 1) (by omega)
  cases hq
  have ez : (cs ++ [cz, cz])[cl + 1] = cz := by rw [List.getElem_append_right (by omega)]; simp [hcl]
  rw [ez] at g0 g1 g2 g3 g4
  refine ⟨_, eS, by omega, by omega, _, g0, _, g1, _, g2, _, g3, _, g4, ?_⟩
  clear g0 g1 g2 g3 g4
  rw [if_neg (by decide)]
  apply hJ183
  clear hJ183 J183 rdz
  intro J185 hJ185
  have way : ∀ (U : List TR) (o : Option Addr) (n c : Nat) (h' : H), (∀ u, u ∈ U → u.tag.length = 32 ∧ u.il + 4096 ≤ 2 ^ 47 ∧ u.cl < 2 ^ 30 ∧ u.id.length = u.il ∧ u.cs.length = u.cl) → n = U.length → U.length ≤ 2 → Sat h0 (slE o n c 35 (toksV U) :: (owns U ++ [blk n64 (tokL key (subAddr p1 0 c1 1) il c1 (some ⟨cb, 0, none⟩) cl (cl + 2) tag), blk n29 (tokL key ip il ic cp cl cc tag), blk cb (cvsV (cs ++ [cz, cz])), slE p1 (il + 3) c1 1 (ints .u8 (id ++ [161, 162, 163]))])) h' → J185 [.dv (.one (.slice o n c))] h' := by
    clear hs
    intro U o n c h6 hU hn hU2 hs
    subst hn
    apply hJ185
    clear hJ185
    intro ob _ hn; replace hs := Sat.new hs hn; clear hn
    refine ⟨_, hs.base ra, ?_⟩
    replace hs := hs.drop.sl_nil 1 (some ⟨ob, 0, none⟩)
    refine Sat.app hs (i := 0) (vs := ints .u8 bb) .z (by simp [hbl]) rfl (ints_one _ _) (by dsimp only; omega) ?_
    intro op oc h7 hs
    simp only [put_zero, List.nil_append, Nat.zero_add] at hs ⊢
    have hcap := capS hs (i := 0) .z
    obtain ⟨g1, g2, g3⟩ := getT_few hbb
    refine get1_sp hs hbb hcap (by omega) (fun h' hs' => hs'.sv (i := 0) .z) ?_
    intro T hT _ _ v a1 d1 a2 d2 h8 hs
    subst T
    intro pb _ hn; replace hs := Sat.new hs hn; clear hn
    refine ⟨Sat.can hs (i := 0) .z (by simp [zeros]), ?_⟩
    intro h9 e
    replace hs := Sat.wra (xs := tokL (getT bb).key a1 (getT bb).id.length d1 a2 (getT bb).cs.length d2 (getT bb).tag) hs (i := 0) .z e (by simp [zeros, g3])
    clear e
    simp only [put_zero] at hs
    refine get1_sp hs hbb hcap (by omega) (fun h' hs' => hs'.sv (i := 3) (.s (.s (.s .z)))) ?_
    intro T hT _ _ v' b1 f1 b2 f2 h10 hs
    subst T
    intro qb _ hn; replace hs := Sat.new hs hn; clear hn
    refine ⟨Sat.can hs (i := 0) .z (by simp [zeros]), ?_⟩
    intro h11 e
    replace hs := Sat.wra (xs := tokL (getT bb).key b1 (getT bb).id.length f1 b2 (getT bb).cs.length f2 (getT bb).tag) hs (i := 0) .z e (by simp [zeros, g3])
    clear e
    simp only [put_zero] at hs
    refine rget1_sp hs hbb hac (by omega) (fun h' hs' => hs'.base ra) ?_
    intro T hT _ r1 m1 r2 m2 h12 hs
    subst T
    intro gb _ hn; replace hs := Sat.new hs hn; clear hn
    intro eb _ hn; replace hs := Sat.new hs hn; clear hn
    refine ⟨Sat.can hs (i := 1) (.s .z) (by simp [zeros]), ?_⟩
    intro h13 e
    replace hs := Sat.wra (xs := tokL (getT bb).key r1 (getT bb).id.length m1 r2 (getT bb).cs.length m2 (getT bb).tag) hs (i := 1) (.s .z) e (by simp [zeros, g3])
    clear e
    simp only [put_succ, put_zero] at hs
    refine ⟨Sat.can hs (i := 0) .z (by simp), ?_⟩
    intro h14 e
    replace hs := Sat.wra hs (i := 0) .z e rfl
    clear e
    simp only [put_zero] at hs
    refine ⟨bb, hs.sv (i := 10) (.s (.s (.s (.s (.s (.s (.s (.s (.s (.s .z)))))))))), bb, hs.base ra, ?_⟩
    rw [if_neg (by simp)]
    intro J251 hJ251
    replace hs := hs.front (e := slE op a2l oc 1 (ints .u8 bb)) (i := 10) (.s (.s (.s (.s (.s (.s (.s (.s (.s (.s .z))))))))))
    simp only [del] at hs
    obtain ⟨E, hE, hs⟩ := tailE hs
    refine loop_up a2l (fun t h => ∃ xs : List Int, Sat h0 (slE op a2l oc 1 (ints .u8 xs) :: E) h) ?_ ?_ 0 _ (by omega) ⟨bb, hs⟩
    · clear hs
      rintro t h15 ht2 ⟨xs, hs⟩ hk
      apply hJ251
      rw [ltI_eq, if_pos (by rw [decide_eq_true_iff]; omega)]
      obtain ⟨qa, hqa, ga⟩ := hsvI (hs.sv (i := 0) .z) ht2
      refine ⟨qa, hqa, by omega, by omega, ?_⟩
      simp only [Int.toNat_natCast, Nat.mul_one]
      refine ⟨_, ga, ?_⟩
      obtain ⟨q2, hq2, hcn, hwr⟩ := hs.slPut (i := 0) (v := .int .u8 (bits BinOp.xor IntKind.u8 (xs.getD t 0) 66)) .z ht2 rfl
      refine ⟨q2, hq2, by omega, by omega, hcn, ?_⟩
      intro h16 e4
      have hs := hwr h16 e4
      simp only [put_zero] at hs
      rw [ints_set] at hs
      rw [wrap_succ (by omega)]
      exact hk _ ⟨_, hs⟩
    clear hs
    rintro h15 ⟨xs, hs⟩
    apply hJ251
    clear hJ251
    rw [ltI_eq, if_neg (by rw [decide_eq_true_iff]; omega)]
    subst hE
    replace hs := hs.drop
    intro J259 hJ259
    refine ⟨_, hs.ld (i := 7) (.s (.s (.s (.s (.s (.s (.s .z))))))) rfl, _, _, _, hs.ld (i := 7) (.s (.s (.s (.s (.s (.s (.s .z))))))) rfl, _, _, _, hs.ld (i := 7) (.s (.s (.s (.s (.s (.s (.s .z))))))) rfl, _, g3, tok_row hs (i := 7) (.s (.s (.s (.s (.s (.s (.s .z))))))), ?_⟩
    refine ⟨_, hs.ld (i := 1) (.s .z) rfl, _, _, _, hs.ld (i := 1) (.s .z) rfl, _, _, _, hs.ld (i := 1) (.s .z) rfl, _, g3, tok_row hs (i := 1) (.s .z), ?_⟩
    refine back_sp (cs := (getT bb).cs) hs g3 (by omega) (fun h' hs' => hs'.sv (i := 8) (.s (.s (.s (.s (.s (.s (.s (.s .z))))))))) ?_
    intro v2 z3 h16 hs
    refine ⟨Sat.cs hs (i := 2) (.s (.s .z)) (by rw [List.drop_zero, List.take_of_length_le (Nat.le_refl _)]), ?_⟩
    refine rsame_sp (id := (getT bb).id) (cs := (getT bb).cs) hs g3 (by omega) (fun h' hs' => hs'.sv (i := 10) (.s (.s (.s (.s (.s (.s (.s (.s (.s (.s .z))))))))))) (fun h' hs' => hs'.sv (i := 0) .z) (fun h' hs' => hs'.sv (i := 4) (.s (.s (.s (.s .z))))) (fun h' hs' => hs'.sv (i := 3) (.s (.s (.s .z)))) ?_
    intro h17 hs
    replace hs := hs.drop
    rw [if_neg (by decide)]
    refine ⟨_, hs.ld (i := 4) (.s (.s (.s (.s .z)))) rfl, _, _, _, hs.ld (i := 4) (.s (.s (.s (.s .z)))) rfl, _, _, _, hs.ld (i := 4) (.s (.s (.s (.s .z)))) rfl, _, g3, tok_row hs (i := 4) (.s (.s (.s (.s .z)))), ?_⟩
    refine ⟨_, hs.ld (i := 1) (.s .z) rfl, _, _, _, hs.ld (i := 1) (.s .z) rfl, _, _, _, hs.ld (i := 1) (.s .z) rfl, _, g3, tok_row hs (i := 1) (.s .z), ?_⟩
    refine back_sp (cs := (getT bb).cs) hs g3 (by omega) (fun h' hs' => hs'.sv (i := 5) (.s (.s (.s (.s (.s .z)))))) ?_
    intro v2 z3 h16 hs
    refine ⟨Sat.cs hs (i := 2) (.s (.s .z)) (by rw [List.drop_zero, List.take_of_length_le (Nat.le_refl _)]), ?_⟩
    refine rsame_sp (id := (getT bb).id) (cs := (getT bb).cs) hs g3 (by omega) (fun h' hs' => hs'.sv (i := 7) (.s (.s (.s (.s (.s (.s (.s .z)))))))) (fun h' hs' => hs'.sv (i := 0) .z) (fun h' hs' => hs'.sv (i := 4) (.s (.s (.s (.s .z))))) (fun h' hs' => hs'.sv (i := 3) (.s (.s (.s .z)))) ?_
    intro h17 hs
    replace hs := hs.drop
    rw [if_neg (by decide)]
    apply hJ259
    clear hJ259
    intro J261 hJ261
    have fin : ∀ (V : List TR) (o : Option Addr) (n c : Nat) (h' : H), (∀ u, u ∈ V → u.tag.length = 32 ∧ u.il + 4096 ≤ 2 ^ 47 ∧ u.cl < 2 ^ 30 ∧ u.id.length = u.il ∧ u.cs.length = u.cl) → n = V.length → V.length ≤ 4 → Sat h0 (slE o n c 35 (toksV V) :: (owns V ++ [blk n64 (tokL key (subAddr p1 0 c1 1) il c1 (some ⟨cb, 0, none⟩) cl (cl + 2) tag), blk n29 (tokL key ip il ic cp cl cc tag), blk cb (cvsV (cs ++ [cz, cz])), slE p1 (il + 3) c1 1 (ints .u8 (id ++ [161, 162, 163]))])) h' → J261 [.dv (.one (.slice o n c))] h' := by
      clear hs
      intro V o n c h18 hV hn hV2 hs
      apply hJ261
      clear hJ261
      have K := keepFin_sp (Q := Q) (U := V) (id := id) (cs := cs) (C := [blk cb (cvsV (cs ++ [cz, cz])), slE p1 (il + 3) c1 1 (ints .u8 (id ++ [161, 162, 163]))]) hV hn (by omega) ht (by omega) (fun h' hs' => ofId hil hc1 (hs'.sv (i := 1) (.s .z))) (fun h' hs' => blk_cs hcl hs' (i := 0) .z) (fun h' hs' => hs'.base ri) (fun h' hs' => hs'.base rc) (hs.perm (List.Perm.cons _ (perm3 _ _ _ _))) k
      simp only [add_mk, Nat.zero_add, List.append_nil] at K
      exact K
    refine ⟨_, hs.ld (i := 0) .z rfl, ?_⟩
    by_cases w0 : ((getE bb).1 == 0) = true
    · rw [if_pos w0]
      refine ⟨_, hs.ld (i := 7) (.s (.s (.s (.s (.s (.s (.s .z))))))) rfl, _, _, _, hs.ld (i := 7) (.s (.s (.s (.s (.s (.s (.s .z))))))) rfl, _, _, _, hs.ld (i := 7) (.s (.s (.s (.s (.s (.s (.s .z))))))) rfl, _, g3, tok_row hs (i := 7) (.s (.s (.s (.s (.s (.s (.s .z))))))), ?_⟩
      refine ⟨_, hs.ld (i := 4) (.s (.s (.s (.s .z)))) rfl, _, _, _, hs.ld (i := 4) (.s (.s (.s (.s .z)))) rfl, _, _, _, hs.ld (i := 4) (.s (.s (.s (.s .z)))) rfl, _, g3, tok_row hs (i := 4) (.s (.s (.s (.s .z)))), ?_⟩
      intro lb hv9 hn
      obtain ⟨X, hX⟩ : ∃ X : List TR, X = [⟨(getT bb).key, a1, (getT bb).id.length, d1, a2, (getT bb).cs.length, d2, (getT bb).tag, (getT bb).id, (getT bb).cs⟩, ⟨(getT bb).key, b1, (getT bb).id.length, f1, b2, (getT bb).cs.length, f2, (getT bb).tag, (getT bb).id, (getT bb).cs⟩] := ⟨_, rfl⟩
      replace hn : hnew h17 lb (toksV X) hv9 := by rw [hX, toksV_two]; exact hn
      replace hs := Sat.new hs hn; clear hn
      have hX1 : ∀ u, u ∈ X → u.tag.length = 32 ∧ u.il + 4096 ≤ 2 ^ 47 ∧ u.cl < 2 ^ 30 ∧ u.id.length = u.il ∧ u.cs.length = u.cl := by
        intro u hu; rw [hX] at hu
        simp only [List.mem_cons, List.not_mem_nil, or_false] at hu
        rcases hu with rfl | rfl <;> exact ⟨g3, by dsimp only; omega, by dsimp only; omega, rfl, rfl⟩
      have hX2 : X.length = 2 := by rw [hX]; rfl
      have hX3 : (toksV X).length = 2 * 35 := by rw [toksV_len (fun u hu => (hX1 u hu).1), hX2]
      refine ⟨toksV X, hs.bv (i := 0) (l := 2) (sz := 35) .z hX3 (toksV_one X), ?_⟩
      refine Sat.app hs (i := 11) (.s (.s (.s (.s (.s (.s (.s (.s (.s (.s (.s .z))))))))))) (vs := toksV X) hX3 (by simp [zeros]) (toksV_one X) (by omega) ?_
      intro o3 c3 h18 hs
      simp only [put_succ, put_zero] at hs
      rw [← toksV_app] at hs
      refine fin (U ++ X) o3 _ c3 h18 ?_ (by rw [List.length_append, hX2]) (by rw [List.length_append, hX2]; omega) ?_
      · intro u hu
        rcases List.mem_append.1 hu with y | y
        · exact hU u y
        · exact hX1 u y
      have eo : owns X = [slE a1 (getT bb).id.length d1 1 (ints .u8 (getT bb).id), slE a2 (getT bb).cs.length d2 5 (cvsV (getT bb).cs), slE b1 (getT bb).id.length f1 1 (ints .u8 (getT bb).id), slE b2 (getT bb).cs.length f2 5 (cvsV (getT bb).cs)] := by rw [hX]; rfl
      rw [owns_app, eo]
      replace hs := Sat.front hs (e := slE b2 _ _ 5 _) (by (repeat (first | exact At.z | apply At.s)))
      simp only [del] at hs
      replace hs := Sat.front hs (e := slE b1 _ _ 1 _) (by (repeat (first | exact At.z | apply At.s)))
      simp only [del] at hs
      replace hs := Sat.front hs (e := slE a2 _ _ 5 _) (by (repeat (first | exact At.z | apply At.s)))
      simp only [del] at hs
      replace hs := Sat.front hs (e := slE a1 _ _ 1 _) (by (repeat (first | exact At.z | apply At.s)))
      simp only [del] at hs
      replace hs := Sat.front hs (e := slE o3 _ _ 35 _) (by (repeat (first | exact At.z | apply At.s)))
      simp only [del] at hs
      refine (hs.sub (B := slE o3 (U.length + 2) c3 35 (toksV (U ++ X)) :: slE a1 (getT bb).id.length d1 1 (ints .u8 (getT bb).id) :: slE a2 (getT bb).cs.length d2 5 (cvsV (getT bb).cs) :: slE b1 (getT bb).id.length f1 1 (ints .u8 (getT bb).id) :: slE b2 (getT bb).cs.length f2 5 (cvsV (getT bb).cs) :: (owns U ++ [blk n64 (tokL key (subAddr p1 0 c1 1) il c1 (some ⟨cb, 0, none⟩) cl (cl + 2) tag), blk n29 (tokL key ip il ic cp cl cc tag), blk cb (cvsV (cs ++ [cz, cz])), slE p1 (il + 3) c1 1 (ints .u8 (id ++ [161, 162, 163]))])) (by (repeat (first | exact List.Sublist.refl _ | apply List.Sublist.cons_cons | apply List.Sublist.cons)))).perm ?_
      refine List.Perm.cons _ ?_
      rw [List.append_assoc]
      exact perm4 _ _ _ _ _ _
    · rw [if_neg w0]
      refine fin U o _ c _ hU rfl (by omega) ?_
      exact hs.drop.drop.drop.drop.drop.drop.drop.drop.drop.drop
  by_cases e0 : (O'.e == 0) = true
  · rw [if_pos e0]
    refine ⟨_, hs.ld (i := 6) (.s (.s (.s (.s (.s (.s .z)))))) rfl, _, _, _, hs.ld (i := 6) (.s (.s (.s (.s (.s (.s .z)))))) rfl, _, _, _, hs.ld (i := 6) (.s (.s (.s (.s (.s (.s .z)))))) rfl, _, n1, tok_row hs (i := 6) (.s (.s (.s (.s (.s (.s .z)))))), ?_⟩
    refine ⟨_, hs.ld (i := 3) (.s (.s (.s .z))) rfl, _, _, _, hs.ld (i := 3) (.s (.s (.s .z))) rfl, _, _, _, hs.ld (i := 3) (.s (.s (.s .z))) rfl, _, n1, tok_row hs (i := 3) (.s (.s (.s .z))), ?_⟩
    intro lb hv9 hn
    obtain ⟨X, hX⟩ : ∃ X : List TR, X = [⟨O'.key, s1, O'.id.length, x1, s2, O'.cs.length, x2, O'.tag, O'.id, O'.cs⟩, ⟨O'.key, t1, O'.id.length, z1, t2, O'.cs.length, z2, O'.tag, O'.id, O'.cs⟩] := ⟨_, rfl⟩
    replace hn : hnew h5 lb (toksV X) hv9 := by rw [hX, toksV_two]; exact hn
    replace hs := Sat.new hs hn; clear hn
    have hX1 : ∀ u, u ∈ X → u.tag.length = 32 ∧ u.il + 4096 ≤ 2 ^ 47 ∧ u.cl < 2 ^ 30 ∧ u.id.length = u.il ∧ u.cs.length = u.cl := by
      intro u hu; rw [hX] at hu
      simp only [List.mem_cons, List.not_mem_nil, or_false] at hu
      rcases hu with rfl | rfl <;> exact ⟨n1, by dsimp only; omega, by dsimp only; omega, rfl, rfl⟩
    have hX2 : X.length = 2 := by rw [hX]; rfl
    have hX3 : (toksV X).length = 2 * 35 := by rw [toksV_len (fun u hu => (hX1 u hu).1), hX2]
    refine ⟨toksV X, hs.bv (i := 0) (l := 2) (sz := 35) .z hX3 (toksV_one X), ?_⟩
    replace hs := hs.sl_nil 35 (some ⟨n69, 0, none⟩)
    refine Sat.app hs (i := 0) .z (vs := toksV X) hX3 (by simp [zeros]) (toksV_one X) (by dsimp only; omega) ?_
    intro o3 c3 h18 hs
    simp only [put_zero, List.nil_append, Nat.zero_add] at hs ⊢
    refine way X o3 _ c3 h18 hX1 hX2.symm (by omega) ?_
    have eo : owns X = [slE s1 O'.id.length x1 1 (ints .u8 O'.id), slE s2 O'.cs.length x2 5 (cvsV O'.cs), slE t1 O'.id.length z1 1 (ints .u8 O'.id), slE t2 O'.cs.length z2 5 (cvsV O'.cs)] := by rw [hX]; rfl
    rw [eo]
    replace hs := Sat.front hs (e := slE p1 (il + 3) _ 1 _) (by (repeat (first | exact At.z | apply At.s)))
    simp only [del] at hs
    replace hs := Sat.front hs (e := blk cb _) (by (repeat (first | exact At.z | apply At.s)))
    simp only [del] at hs
    replace hs := Sat.front hs (e := blk n29 _) (by (repeat (first | exact At.z | apply At.s)))
    simp only [del] at hs
    replace hs := Sat.front hs (e := blk n64 _) (by (repeat (first | exact At.z | apply At.s)))
    simp only [del] at hs
    replace hs := Sat.front hs (e := slE t2 _ _ 5 _) (by (repeat (first | exact At.z | apply At.s)))
    simp only [del] at hs
    replace hs := Sat.front hs (e := slE t1 _ _ 1 _) (by (repeat (first | exact At.z | apply At.s)))
    simp only [del] at hs
    replace hs := Sat.front hs (e := slE s2 _ _ 5 _) (by (repeat (first | exact At.z | apply At.s)))
    simp only [del] at hs
    replace hs := Sat.front hs (e := slE s1 _ _ 1 _) (by (repeat (first | exact At.z | apply At.s)))
    simp only [del] at hs
    replace hs := Sat.front hs (e := slE o3 _ _ 35 _) (by (repeat (first | exact At.z | apply At.s)))
    simp only [del] at hs
    exact hs.sub (by (repeat (first | exact List.Sublist.refl _ | apply List.Sublist.cons_cons | apply List.Sublist.cons)))
  · rw [if_neg e0]
    refine way [] (some ⟨n69, 0, none⟩) 0 0 _ (fun u hu => by cases hu) rfl (by decide) ?_
    replace hs := Sat.front hs (e := slE p1 (il + 3) _ 1 _) (by (repeat (first | exact At.z | apply At.s)))
    simp only [del] at hs
    replace hs := Sat.front hs (e := blk cb _) (by (repeat (first | exact At.z | apply At.s)))
    simp only [del] at hs
    replace hs := Sat.front hs (e := blk n29 _) (by (repeat (first | exact At.z | apply At.s)))
    simp only [del] at hs
    replace hs := Sat.front hs (e := blk n64 _) (by (repeat (first | exact At.z | apply At.s)))
    simp only [del] at hs
    exact (hs.sub (by (repeat (first | exact List.Sublist.refl _ | apply List.Sublist.cons_cons | apply List.Sublist.cons)))).sl_nil 35 _
end
end Go.Proofs.YtijcpgahmbkijaaGreatDoor
end

/- TokenKeeps: tokens and bytes stay, room too; what came out is its owner's. Own work. -/
section
set_option maxRecDepth 100000
set_option linter.unusedVariables false
namespace Go.Proofs.YtijcpgahmbkijaaGreatDoor
open Go Go.Vc
attribute [local irreducible] macM
section
variable {h0 h : H} {A : List Ent} {i j d r m : Nat}
theorem keepMid_sp {Q : Bool → H → Prop} {n29 n32 n64 n69 n101 cb : Nat} {key : Int} {id tag : List Int} {cs : List CvM} {cv : CvM} {ip cp a2p p1 s1 s2 : Option Addr} {il ic cl cc a2l a2c c1 x1 x2 : Nat} {bb : List Int} {O : NkE}
    (ht : tag.length = 32) (htb : isBy tag) (hl : cl ≤ 65536) (hi : il + 4096 ≤ 2 ^ 47) (ri : hsv h0 ip 1 il (ints .u8 id)) (rc : hsv h0 cp 5 cl (cvsV cs)) (ra : hsv h0 a2p 1 a2l (ints .u8 bb)) (hbb : isBytes bb) (hac : a2l ≤ a2c) (hal : a2l < 2 ^ 47)
    (hO : O = narM key id cs tag cv) (hc1 : il + 3 ≤ c1)
    (hs : Sat h0 [blk n101 tok0, slE s2 O.cs.length x2 5 (cvsV O.cs), slE s1 O.id.length x1 1 (ints .u8 O.id), blk n69 [], blk n64 (tokL key (subAddr p1 0 c1 1) il c1 (some ⟨cb, 0, none⟩) cl (cl + 2) tag), blk cb (cvsV (cs ++ [cz, cz])), slE p1 (il + 3) c1 1 (ints .u8 (id ++ [161, 162, 163])), blk n32 (cvV cv), blk n29 (tokL key ip il ic cp cl cc tag)] h)
    (k : ∀ h', Sat h0 [] h' → Q true h') : K2_portcullislaw24_TokenKeeps F_portcullisref24_Same F_portcullislaw24_back F_token_Token_Narrow F_portcullislaw24_caveat F_portcullisref24_Token_Narrow F_token_Put F_token_Get F_portcullisref24_Get a2p a2l a2c Q h n101 O.key s1 O.id.length x1 s2 O.cs.length x2 O.tag n64 n32 n29 n69 O.e := by
  unfold K2_portcullislaw24_TokenKeeps
  simp only [add_mk, Nat.zero_add, List.append_nil]
  have hcl : cs.length = cl := by have := rc.1; rw [cvsV_len] at this; omega
  have hil : id.length = il := by have := ri.1; simpa using this
  obtain ⟨n1, n2, n3, n4⟩ := narM_tag key id cs tag cv
  rw [← hO] at n1 n2 n3 n4
  intro h2 e
  replace hs := Sat.wra (xs := tokL O.key s1 O.id.length x1 s2 O.cs.length x2 O.tag) hs (i := 0) .z e (by simp [zeros, n1])
  clear e
  simp only [put_zero] at hs
  refine ⟨_, hs.ld (i := 4) (.s (.s (.s (.s .z)))) rfl, _, _, _, hs.ld (i := 4) (.s (.s (.s (.s .z)))) rfl, _, _, _, hs.ld (i := 4) (.s (.s (.s (.s .z)))) rfl, _, ht, tok_row hs (i := 4) (.s (.s (.s (.s .z)))), ?_⟩
  refine ⟨_, hs.ld (i := 7) (.s (.s (.s (.s (.s (.s (.s .z))))))) rfl, _, hs.ld (i := 7) (.s (.s (.s (.s (.s (.s (.s .z))))))) rfl, _, hs.ld (i := 7) (.s (.s (.s (.s (.s (.s (.s .z))))))) rfl, _, hs.ld (i := 7) (.s (.s (.s (.s (.s (.s (.s .z))))))) rfl, _, hs.ld (i := 7) (.s (.s (.s (.s (.s (.s (.s .z))))))) rfl, ?_⟩
  refine ⟨?_, ?_⟩
  · refine caveat_sp cv hs ?_
    intro h3 hs
    refine ⟨Sat.cs hs (i := 4) (.s (.s (.s (.s .z)))) (by rw [List.drop_zero, List.take_of_length_le (Nat.le_refl _)]), ?_, ?_⟩
    · skip
      refine nar_sp (id := id) (cs := cs) cv hs ht (by omega) (by omega) (fun h' hs' => ofId hil hc1 (hs'.sv (i := 6) (.s (.s (.s (.s (.s (.s .z)))))))) (fun h' hs' => blk_cs hcl hs' (i := 5) (.s (.s (.s (.s (.s .z)))))) ?_
      intro O2 hO2 t1 z1 t2 z2 h4 hs
      rw [← hO] at hO2
      subst hO2
      intro nb _ hn; replace hs := Sat.new hs hn; clear hn
      exact ⟨Sat.can hs (i := 0) .z (by simp [zeros]), keepRest_sp ht htb hl hi ri rc ra hbb hac hal hO hc1 hs k⟩
    · intro nb _ hn; replace hs := Sat.new hs hn; clear hn
      refine ⟨Sat.cs hs (i := 5) (.s (.s (.s (.s (.s .z))))) (by rw [List.drop_zero, List.take_of_length_le (Nat.le_refl _)]), ?_⟩
      refine nar_sp (id := id) (cs := cs) cv hs ht (by omega) (by omega) (fun h' hs' => ofId hil hc1 (hs'.sv (i := 7) (.s (.s (.s (.s (.s (.s (.s .z))))))))) (fun h' hs' => blk_cs hcl hs' (i := 6) (.s (.s (.s (.s (.s (.s .z))))))) ?_
      intro O2 hO2 t1 z1 t2 z2 h4 hs
      rw [← hO] at hO2
      subst hO2
      refine ⟨Sat.can hs (i := 2) (.s (.s .z)) (by simp [zeros]), ?_⟩
      replace hs := hs.front (e := blk nb tok0) (i := 2) (.s (.s .z))
      simp only [del] at hs
      exact keepRest_sp ht htb hl hi ri rc ra hbb hac hal hO hc1 hs k
  · intro nb _ hn; replace hs := Sat.new hs hn; clear hn
    refine ⟨Sat.cs hs (i := 8) (.s (.s (.s (.s (.s (.s (.s (.s .z)))))))) rfl, Sat.cs hs (i := 5) (.s (.s (.s (.s (.s .z))))) (by rw [List.drop_zero, List.take_of_length_le (Nat.le_refl _)]), ?_⟩
    refine caveat_sp cv hs ?_
    intro h3 hs
    refine ⟨Sat.cs hs (i := 5) (.s (.s (.s (.s (.s .z))))) (by rw [List.drop_zero, List.take_of_length_le (Nat.le_refl _)]), ?_⟩
    · skip
      refine nar_sp (id := id) (cs := cs) cv hs ht (by omega) (by omega) (fun h' hs' => ofId hil hc1 (hs'.sv (i := 7) (.s (.s (.s (.s (.s (.s (.s .z))))))))) (fun h' hs' => blk_cs hcl hs' (i := 6) (.s (.s (.s (.s (.s (.s .z))))))) ?_
      intro O2 hO2 t1 z1 t2 z2 h4 hs
      rw [← hO] at hO2
      subst hO2
      refine ⟨Sat.can hs (i := 2) (.s (.s .z)) (by simp [zeros]), ?_⟩
      replace hs := hs.front (e := blk nb tok0) (i := 2) (.s (.s .z))
      simp only [del] at hs
      exact keepRest_sp ht htb hl hi ri rc ra hbb hac hal hO hc1 hs k
theorem TokenKeeps_sp {Q : Bool → H → Prop} (hg : hc h0 ⟨0, 0, none⟩ = some errTypeV) {key : Int} {id tag : List Int} {cs : List CvM} (cv : CvM) {ip cp a2p : Option Addr} {il ic cl cc a2l a2c : Nat} {bb : List Int}
    (ht : tag.length = 32) (htb : isBy tag) (hi : il + 4096 ≤ 2 ^ 47) (ri : hsv h0 ip 1 il (ints .u8 id)) (rc : hsv h0 cp 5 cl (cvsV cs)) (ra : hsv h0 a2p 1 a2l (ints .u8 bb)) (hbb : isBytes bb) (hac : a2l ≤ a2c) (hal : a2l < 2 ^ 47) (hs : Sat h0 [] h)
    (k : ∀ h', Sat h0 [] h' → Q true h') : F_portcullislaw24_TokenKeeps key ip il ic cp cl cc tag cv.kind cv.slot cv.frm cv.to cv.set a2p a2l a2c Q h := by
  unfold F_portcullislaw24_TokenKeeps G_portcullislaw24_TokenKeeps
  simp only [add_mk, Nat.zero_add, List.append_nil]
  have hcl : cs.length = cl := by have := rc.1; rw [cvsV_len] at this; omega
  have hil : id.length = il := by have := ri.1; simpa using this
  intro n29 _ hn; replace hs := Sat.new hs hn; clear hn
  intro n32 _ hn; replace hs := Sat.new hs hn; clear hn
  replace hs : Sat h0 [blk n32 (cvV cv), blk n29 (tokL key ip il ic cp cl cc tag)] _ := hs
  refine awake24_sp hg hs ?_
  intro h1 hs
  rw [if_neg (by decide)]
  refine ⟨_, hs.ld (i := 1) (.s .z) rfl, _, _, _, hs.ld (i := 1) (.s .z) rfl, _, _, _, hs.ld (i := 1) (.s .z) rfl, _, ht, tok_row hs (i := 1) (.s .z), ?_⟩
  refine rfew_sp hs ?_
  intro h2 hs
  by_cases cf : cl ≤ 65536
  case neg =>
    rw [if_pos (by simp [cf])]
    exact k _ hs.nil
  rw [if_neg (by simp [cf])]
  refine ⟨_, hs.ld (i := 1) (.s .z) rfl, _, _, _, hs.ld (i := 1) (.s .z) rfl, _, _, _, hs.ld (i := 1) (.s .z) rfl, _, ht, tok_row hs (i := 1) (.s .z), ?_⟩
  refine lawofR_sp (id := id) (cs := cs) hs ht hi cf (fun h' hs' => hs'.base ri) (fun h' hs' => hs'.base rc) ?_
  intro p1 c1 cb h6 hc1 hs
  intro n64 _ hn; replace hs := Sat.new hs hn; clear hn
  refine ⟨Sat.can hs (i := 0) .z (by simp [zeros]), ?_⟩
  intro h7 e7
  replace hs := Sat.wra (xs := tokL key (subAddr p1 0 c1 1) il c1 (some ⟨cb, 0, none⟩) cl (cl + 2) tag) hs (i := 0) .z e7 (by simp [zeros, ht])
  clear e7
  simp only [put_zero] at hs
  intro n69 _ hn; replace hs := Sat.new hs hn; clear hn
  refine ⟨_, hs.ld (i := 1) (.s .z) rfl, _, _, _, hs.ld (i := 1) (.s .z) rfl, _, _, _, hs.ld (i := 1) (.s .z) rfl, _, ht, tok_row hs (i := 1) (.s .z), ?_⟩
  refine ⟨_, hs.ld (i := 4) (.s (.s (.s (.s .z)))) rfl, _, hs.ld (i := 4) (.s (.s (.s (.s .z)))) rfl, _, hs.ld (i := 4) (.s (.s (.s (.s .z)))) rfl, _, hs.ld (i := 4) (.s (.s (.s (.s .z)))) rfl, _, hs.ld (i := 4) (.s (.s (.s (.s .z)))) rfl, ?_⟩
  refine ⟨?_, ?_⟩
  · refine caveat_sp cv hs ?_
    intro h3 hs
    refine ⟨Sat.cs hs (i := 1) (.s .z) (by rw [List.drop_zero, List.take_of_length_le (Nat.le_refl _)]), ?_, ?_⟩
    · skip
      refine nar_sp (id := id) (cs := cs) cv hs ht (by omega) (by omega) (fun h' hs' => ofId hil hc1 (hs'.sv (i := 3) (.s (.s (.s .z))))) (fun h' hs' => blk_cs hcl hs' (i := 2) (.s (.s .z))) ?_
      intro O hO s1 x1 s2 x2 h4 hs
      intro nb _ hn; replace hs := Sat.new hs hn; clear hn
      exact ⟨Sat.can hs (i := 0) .z (by simp [zeros]), keepMid_sp ht htb cf hi ri rc ra hbb hac hal hO hc1 hs k⟩
    · intro nb _ hn; replace hs := Sat.new hs hn; clear hn
      refine ⟨Sat.cs hs (i := 2) (.s (.s .z)) (by rw [List.drop_zero, List.take_of_length_le (Nat.le_refl _)]), ?_⟩
      refine nar_sp (id := id) (cs := cs) cv hs ht (by omega) (by omega) (fun h' hs' => ofId hil hc1 (hs'.sv (i := 4) (.s (.s (.s (.s .z)))))) (fun h' hs' => blk_cs hcl hs' (i := 3) (.s (.s (.s .z)))) ?_
      intro O hO s1 x1 s2 x2 h4 hs
      refine ⟨Sat.can hs (i := 2) (.s (.s .z)) (by simp [zeros]), ?_⟩
      replace hs := hs.front (e := blk nb tok0) (i := 2) (.s (.s .z))
      simp only [del] at hs
      exact keepMid_sp ht htb cf hi ri rc ra hbb hac hal hO hc1 hs k
  · intro nb _ hn; replace hs := Sat.new hs hn; clear hn
    refine ⟨Sat.cs hs (i := 5) (.s (.s (.s (.s (.s .z))))) rfl, Sat.cs hs (i := 2) (.s (.s .z)) (by rw [List.drop_zero, List.take_of_length_le (Nat.le_refl _)]), ?_⟩
    refine caveat_sp cv hs ?_
    intro h3 hs
    refine ⟨Sat.cs hs (i := 2) (.s (.s .z)) (by rw [List.drop_zero, List.take_of_length_le (Nat.le_refl _)]), ?_⟩
    · skip
      refine nar_sp (id := id) (cs := cs) cv hs ht (by omega) (by omega) (fun h' hs' => ofId hil hc1 (hs'.sv (i := 4) (.s (.s (.s (.s .z)))))) (fun h' hs' => blk_cs hcl hs' (i := 3) (.s (.s (.s .z)))) ?_
      intro O hO s1 x1 s2 x2 h4 hs
      refine ⟨Sat.can hs (i := 2) (.s (.s .z)) (by simp [zeros]), ?_⟩
      replace hs := hs.front (e := blk nb tok0) (i := 2) (.s (.s .z))
      simp only [del] at hs
      exact keepMid_sp ht htb cf hi ri rc ra hbb hac hal hO hc1 hs k
end
end Go.Proofs.YtijcpgahmbkijaaGreatDoor
end

/- TokenKeeps: tokens and bytes stay, room too; what came out is its owner's; for every input. -/
section
set_option maxRecDepth 100000
set_option linter.unusedVariables false
namespace Go.Proofs.YtijcpgahmbkijaaGreatDoor
open Go Go.Vc Go.ChangeShapes Go.WideShapes Go.ChangeAt Go.RowKit

theorem cav24_of {D : Type} {enc : TypeId × Value → D} {W : World} {v : Value} {base : Nat} (h : Rdt enc PP W 50 v.cells.toList) (ho : Value.okWide PP W .any base 50 v) :
    ∃ c : CvM, v = .agg (cvV c).toArray ∧ c.typed := by
  have e := okw_agg (by kernel_rfl) ho
  obtain ⟨a, r1, e1, ha, b, r2, rfl, hb, c, r3, rfl, hc, d, r4, rfl, hd, f, r5, rfl, hf, hr⟩ := Rdt.xm 8 _ _ _ xCav24 h
  simp only [XM] at hr
  subst hr
  refine ⟨⟨a, b, c, d, f⟩, ?_, ⟨ha, hb, hc, hd, hf⟩⟩
  rw [e]
  congr 1
  rw [← Array.toArray_toList (xs := v.cells), e1]

theorem TokenKeeps_calls {D : Type} {enc : TypeId × Value → D} {W : World} {base : Nat} (hg : hc W.heap ⟨0, 0, none⟩ = some errTypeV) (vs : List Value) (h : ArgsOk enc PP W base [28, 50, 23] vs) : CallsTrue PP 5 vs W := by
  obtain ⟨hl, h⟩ := h
  match vs, hl with
  | [v0, v1, v2], _ =>
  obtain ⟨r0, w0⟩ := h 0 _ v0 rfl rfl
  obtain ⟨r1, w1⟩ := h 1 _ v1 rfl rfl
  obtain ⟨r2, w2⟩ := h 2 _ v2 rfl rfl
  obtain ⟨key, id, tag, cs, ip, il, ic, cp, cl, cc, rfl, T⟩ := tok24_of r0 w0
  obtain ⟨cv, rfl, _⟩ := cav24_of r1 w1
  obtain ⟨p, l, c, rfl, hsl⟩ := slice24_of (e := 5) (by kernel_rfl) r2 w2
  obtain ⟨bs, b1, b2, b3, b4⟩ := bytes24_of hsl
  have := R_portcullislaw24_TokenKeeps [.agg [.c (.int .i64 key), .c (.slice ip il ic), .c (.slice cp cl cc), .row .u8 32 tag], .agg [.c (.int .i64 cv.kind), .c (.int .i64 cv.slot), .c (.int .i64 cv.frm), .c (.int .i64 cv.to), .c (.int .u64 cv.set)], .one (.slice p l c)] (fun rs h' => rs = [DV.one (.bool true)] ∧ Ext none_ W.heap h') W.heap (by
    intro x hx
    simp only [List.mem_cons, List.not_mem_nil, or_false] at hx
    rcases hx with rfl | rfl | rfl
    · exact ok_tok T.tl
    · intro y hy
      simp only [List.mem_cons, List.not_mem_nil, or_false] at hy
      rcases hy with rfl | rfl | rfl | rfl | rfl <;> rfl
    · rfl) (by
    show F_portcullislaw24_TokenKeeps key ip il ic cp cl cc tag cv.kind cv.slot cv.frm cv.to cv.set p l c (fun b h' => [DV.one (.bool b)] = [DV.one (.bool true)] ∧ Ext none_ W.heap h') W.heap
    exact TokenKeeps_sp hg cv T.tl T.tb T.ii T.ri T.rc b1 b2 b3 (by omega) (Sat.init _) fun h' x => ⟨rfl, x.ex⟩)
  have e : [DV.agg [.c (.int .i64 key), .c (.slice ip il ic), .c (.slice cp cl cc), .row .u8 32 tag], .agg [.c (.int .i64 cv.kind), .c (.int .i64 cv.slot), .c (.int .i64 cv.frm), .c (.int .i64 cv.to), .c (.int .u64 cv.set)], .one (.slice p l c)].map DV.flat = [.agg (tokL key ip il ic cp cl cc tag).toArray, .agg (cvV cv).toArray, .slice p l c] := by
    simp [DV.flat, flats, Ch.flat]
  rw [e] at this
  exact this
theorem TokenKeeps_lifted (os : Os) (started : os.Started) (D : Type) (enc : TypeId × Value → D) :
    ReturnsInHanded {} Tryz.checked os 5 .any (fun w args => (Rows.tokenKeepsSpec.pre enc Tryz.prog Tryz.f5 [] false w args ∧ laidMetH Tryz.prog laidL w) ∧ sizedMet enc Tryz.prog Tryz.f5 (OpenSpec.ofChange Rows.tokenKeepsSpec) false w args)
      (Rows.tokenKeepsSpec.post enc Tryz.prog Tryz.f5 false true false false) := by
  refine returnsInHanded_of_change_and (C := Tryz.checked) (X := fun w _ => laidMetH Tryz.prog laidL w) (fun _ _ _ hh h => h.of_heap hh) Tryz.own started (by kernel_rfl) Tryz.func5
    (ChangeSpec.witness_at (enc := enc) (C := Tryz.checked) (os := os) (X := fun w _ => laidMetH Tryz.prog laidL w) false (laidWorld os) #[.agg #[.int .i64 0, .slice none 0 0, .slice none 0 0, .int .u8 0, .int .u8 0, .int .u8 0, .int .u8 0, .int .u8 0, .int .u8 0, .int .u8 0, .int .u8 0, .int .u8 0, .int .u8 0, .int .u8 0, .int .u8 0, .int .u8 0, .int .u8 0, .int .u8 0, .int .u8 0, .int .u8 0, .int .u8 0, .int .u8 0, .int .u8 0, .int .u8 0, .int .u8 0, .int .u8 0, .int .u8 0, .int .u8 0, .int .u8 0, .int .u8 0, .int .u8 0, .int .u8 0, .int .u8 0, .int .u8 0, .int .u8 0], .agg #[.int .i64 0, .int .i64 0, .int .i64 0, .int .i64 0, .int .u64 0], .slice none 0 0] 8 rfl (by kernel_rfl) (by kernel_rfl) (by kernel_rfl) (by kernel_rfl) (by kernel_rfl) (laidWorld_met os _)) ?_
  intro W base args ds gs before hval hW hcnd hsz hL _
  exact law_go (P := Tryz.prog) (fn := Tryz.f5) (s := Rows.tokenKeepsSpec) [28, 50, 23] (by kernel_rfl) Tryz.laidOut rfl (by kernel_rfl) (by kernel_rfl) Tryz.ubool
    (fun ds hl => match ds, hl with | [d1, d2, d3], _ => rfl) hval hW hsz (TokenKeeps_calls (handle_of_laid hL))

theorem TokenKeeps_said : Rows.TokenKeepsSaid :=
  OpenClaim.holds_of_wide 5 Tryz.f5 rfl rfl rfl rfl rfl rfl rfl ⟨rfl, rfl, rfl, rfl, rfl⟩ rfl rfl rfl rfl rfl (by kernel_rfl) Tryz.func5 (by kernel_rfl)
    (of_decide_eq_true (by kernel_rfl)) (by unfold Func.isWrapper; first | (rw [if_pos (by decide +kernel)]; kernel_rfl) | (rw [if_neg (by decide +kernel)]; exact ⟨rfl, rfl⟩))
    (fun os started H enc _ => TokenKeeps_lifted os started H enc)

theorem TokenKeeps_plain (f : FuncId) (fn : Func) (hf : Tryz.pinned.checked.prog.funcNamed "portcullis/portcullislaw24.TokenKeeps" = some f) (hfn : Tryz.pinned.checked.prog.funcs[f]? = some fn) :
    true = Tryz.pinned.checked.prog.looks [] ∧ ∀ (j : Nat) t, fn.params[j]? = some t → Tryz.pinned.checked.prog.wantsStandIn t = false := by
  obtain rfl : f = 5 := Option.some.inj ((show Tryz.prog.funcNamed "portcullis/portcullislaw24.TokenKeeps" = some 5 by kernel_rfl).symm.trans hf) |>.symm
  obtain rfl : fn = Tryz.f5 := (Option.some.inj (Tryz.func5.symm.trans hfn)).symm
  refine ⟨by kernel_rfl, fun j t ht => ?_⟩
  have hm := Array.mem_of_getElem? ht
  have hm2 : t ∈ ([28, 50, 23] : List Nat) := by
    have : Tryz.f5.params.toList = [28, 50, 23] := by kernel_rfl
    rw [← this]; exact Array.mem_toList_iff.2 hm
  simp only [List.mem_cons, List.not_mem_nil, or_false] at hm2
  rcases hm2 with rfl | rfl | rfl <;> (first | kernel_rfl | rfl)

theorem TokenKeeps_holds : Rows.TokenKeepsCardSaid :=
  Claim7.holds_tied_plain_at .later [] _ _ _ _ TokenKeeps_said (fun _ h => by cases h) (by kernel_rfl) (fun _ h => by cases h) tokenKeeps_row_tie rfl ⟨rfl, rfl⟩ (by kernel_rfl) rfl TokenKeeps_plain (by kernel_rfl)

end Go.Proofs.YtijcpgahmbkijaaGreatDoor
end
