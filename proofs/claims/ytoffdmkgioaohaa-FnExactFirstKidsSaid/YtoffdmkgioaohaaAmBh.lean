/- Equations for the small words, and all equations in one. -/
import Derived.Test.YtoffdmkgioaohaaAmBg
namespace Go.AM

section
variable {P : Program} {cf : Cfg} {H : Handler} {fn : FuncId} {σ : St} {d : Option Tmp}

theorem gb_some {e : Nat} {want : Bool} : gb (some e) σ want = match σ.slots e with
    | .c (.bool b) => some (b == want)
    | .c _ => some false
    | _ => none := rfl
theorem gb_none {want : Bool} : gb none σ want = some false := rfl
theorem gs_list (l : List Oper) (j : Nat) : gslot l.toArray j = gslotL l j := by
  unfold gslot
  simp only [List.getElem?_toArray]
  induction l generalizing j with
  | nil => simp [gslotL]
  | cons o l ih => cases j with
    | zero => simp [gslotL]
    | succ j => simpa [gslotL] using ih j
theorem gl_zero (o : Oper) (l : List Oper) : gslotL (o :: l) 0 = o.dst := rfl
theorem gl_succ (o : Oper) (l : List Oper) (j : Nat) : gslotL (o :: l) (j + 1) = gslotL l j := rfl
theorem site_eq (d k : Nat) : site d k = 8 * d + 16 + k := rfl
theorem splice_eq (cells : List AV) (j : Nat) (vs : List AV) : splice cells j vs = cells.take j ++ vs ++ cells.drop (j + vs.length) := rfl
theorem co_agg (cs : List AV) : cellsOf (.agg cs) = cs := rfl
theorem co_c (v : Value) : cellsOf (.c v) = [.c v] := rfl
theorem co_tr (t : Tag) (e : Nat) (rows : List (List AV)) : cellsOf (.tr t e rows) = [.tr t e rows] := rfl
theorem co_sl (o g e off n : Nat) : cellsOf (.sl o g e off n) = [.sl o g e off n] := rfl
theorem co_ptr (o g i j : Nat) : cellsOf (.ptr o g i j) = [.ptr o g i j] := rfl
theorem co_ip (t : Tag) (cs : List AV) : cellsOf (.ip t cs) = [.ip t cs] := rfl
theorem co_ib (cs : List AV) : cellsOf (.ib cs) = [.ib cs] := rfl
theorem co_fn (f : FuncId) (cs : List AV) : cellsOf (.fn f cs) = [.fn f cs] := rfl
theorem co_mp (o g : Nat) : cellsOf (.mp o g) = [.mp o g] := rfl
theorem so_c (v : Value) : storable (.c v) = cellV v := rfl
theorem so_tr (t : Tag) (e : Nat) (rows : List (List AV)) : storable (.tr t e rows) = true := rfl
theorem so_sl (o g e off n : Nat) : storable (.sl o g e off n) = true := rfl
theorem so_ptr (o g i j : Nat) : storable (.ptr o g i j) = true := rfl
theorem so_ip (t : Tag) (cs : List AV) : storable (.ip t cs) = true := rfl
theorem so_ib (cs : List AV) : storable (.ib cs) = true := rfl
theorem so_fn (f : FuncId) (cs : List AV) : storable (.fn f cs) = true := rfl
theorem so_mp (o g : Nat) : storable (.mp o g) = true := rfl
theorem cV_int (k : IntKind) (n : Int) : cellV (.int k n) = true := rfl
theorem cV_bool (b : Bool) : cellV (.bool b) = true := rfl
theorem cV_str (s : ByteArray) : cellV (.string s) = true := rfl
theorem cV_sl (a : Option Addr) (n c : Nat) : cellV (.slice a n c) = true := rfl
theorem cV_ptr (a : Option Addr) : cellV (.pointer a) = true := rfl
theorem isC_c (v : Value) : isC (.c v) = cellV v := rfl
theorem isC_tr (t : Tag) (e : Nat) (rows : List (List AV)) : isC (.tr t e rows) = false := rfl
theorem isC_sl (o g e off n : Nat) : isC (.sl o g e off n) = false := rfl
theorem pl_c (v : Value) : plain (.c v) = cellV v := rfl
theorem pl_tr (t : Tag) (e : Nat) (rows : List (List AV)) : plain (.tr t e rows) = true := rfl
theorem pl_sl (o g e off n : Nat) : plain (.sl o g e off n) = false := rfl
theorem rg_0 : List.range 0 = [] := rfl
theorem rg_1 : List.range 1 = [0] := rfl
theorem rg_2 : List.range 2 = [0, 1] := rfl
theorem rg_3 : List.range 3 = [0, 1, 2] := rfl
theorem rg_4 : List.range 4 = [0, 1, 2, 3] := rfl
theorem rg_5 : List.range 5 = [0, 1, 2, 3, 4] := rfl
theorem rg_6 : List.range 6 = [0, 1, 2, 3, 4, 5] := rfl
theorem rg_7 : List.range 7 = [0, 1, 2, 3, 4, 5, 6] := rfl
theorem rg_8 : List.range 8 = [0, 1, 2, 3, 4, 5, 6, 7] := rfl
theorem ix_nil (b : Nat) : ([] : List Nat).idxOf? b = none := rfl
theorem ix_cons (a b : Nat) (l : List Nat) : (a :: l).idxOf? b = if a == b then some 0 else (l.idxOf? b).map (· + 1) := List.idxOf?_cons
theorem aC_nil : allC [] = true := rfl
theorem aC_cons (r : List AV) (rows : List (List AV)) : allC (r :: rows) = (r.all isC && allC rows) := rfl
theorem aP_nil : allPlain [] = true := rfl
theorem aP_cons (r : List AV) (rows : List (List AV)) : allPlain (r :: rows) = (r.all plain && allPlain rows) := rfl
theorem aC_app (a b : List (List AV)) : allC (a ++ b) = (allC a && allC b) := by simp [allC]
theorem aP_app (a b : List (List AV)) : allPlain (a ++ b) = (allPlain a && allPlain b) := by simp [allPlain]
theorem pk_agg (cs : List AV) : pack true cs = some (.agg cs) := rfl
theorem pk_one (v : AV) : pack false [v] = some v := rfl
theorem rt_c (t : Tag) (v : Value) : retag t (.c v) = .c v := rfl
theorem rt_tr (t t' : Tag) (e : Nat) (rows : List (List AV)) : retag t (.tr t' e rows) = .tr t e rows := rfl
theorem tk_ep (n : Nat) : σ.tagOK (.ep n) = (n == σ.ep) := rfl
theorem tk_im : σ.tagOK .im = true := rfl
theorem tk_b1 : σ.tagOK .b1 = true := rfl
theorem tk_bo : σ.tagOK .bo = true := rfl
theorem ob_box' {objs : Nat → Option Ob} {o : Nat} : boxRefs objs o = match objs o with
    | some (.box cells) => cells.flatMap refs1
    | _ => [] := rfl
theorem wb_eq (objs : Nat → Option Ob) (os : List Nat) : withBoxes objs os = (os.flatMap fun o => o :: boxRefs objs o).foldl (fun acc o => if acc.contains o then acc else acc ++ [o]) [] := rfl
theorem rf_c (v : Value) : refs1 (.c v) = [] := rfl
theorem rf_tr (t : Tag) (e : Nat) (rows : List (List AV)) : refs1 (.tr t e rows) = [] := rfl
theorem rf_ip (t : Tag) (cs : List AV) : refs1 (.ip t cs) = [] := rfl
theorem rf_ib (cs : List AV) : refs1 (.ib cs) = [] := rfl
theorem rf_fn (f : FuncId) (cs : List AV) : refs1 (.fn f cs) = [] := rfl
theorem rf_bad : refs1 .bad = [] := rfl
theorem rf_mp (o g : Nat) : refs1 (.mp o g) = [] := rfl
theorem rf_sl (o g e off n : Nat) : refs1 (.sl o g e off n) = [o] := rfl
theorem rf_ptr (o g i j : Nat) : refs1 (.ptr o g i j) = [o] := rfl
theorem rf_agg (cs : List AV) : refs1 (.agg cs) = cs.flatMap fun | .sl o _ _ _ _ => [o] | .ptr o _ _ _ => [o] | _ => [] := rfl
theorem rf_tup (cs : List AV) : refs1 (.tup cs) = cs.flatMap fun
    | .sl o _ _ _ _ => [o] | .ptr o _ _ _ => [o]
    | .agg cs => cs.flatMap fun | .sl o _ _ _ _ => [o] | .ptr o _ _ _ => [o] | _ => []
    | _ => [] := rfl
theorem mr_nil (mv : List Nat) (i : Nat) : movedRefs mv i [] = [] := rfl
theorem mr_cons (mv : List Nat) (i : Nat) (v : AV) (vs : List AV) : movedRefs mv i (v :: vs) = (if mv.contains i then refs1 v else []) ++ movedRefs mv (i + 1) vs := rfl
theorem it_im : inTag .im = some .im := rfl
theorem it_b1 : inTag .b1 = some .b1 := rfl
theorem it_bo : inTag .bo = some .b1 := rfl
theorem ot_im : outTag .im = some .im := rfl
theorem ot_b1 : outTag .b1 = some .bo := rfl
theorem et_im : expTag .im = some .im := rfl
theorem et_b1 : expTag .b1 = some .b1 := rfl
theorem im_eq (T : List Nat) (o g : Nat) : inMap σ T o g = if σ.gens o = g then (T.idxOf? o).map fun k => (k, 0) else none := rfl
theorem new_eq (e nn o : Nat) : isNew e nn o = (List.range nn).any fun k => o == site e k := rfl
theorem om_eq (e : Nat) (T : List Nat) (nn k g : Nat) : outMap σ e T nn k g = match T[k]? with
    | some o => if isNew e nn o then none else some (o, σ.gens o + g)
    | none => if k < T.length + nn then some (site e (k - T.length), σ.gens (site e (k - T.length)) + 1 + g) else none := rfl
theorem bo_nil (e : Nat) (T : List Nat) (nn k : Nat) : backObjs σ e T nn k [] = some [] := rfl
theorem bo_none (e : Nat) (T : List Nat) (nn k g : Nat) (rest : List (Nat × Option Ob)) : backObjs σ e T nn k ((g, none) :: rest) = match T[k]?, backObjs σ e T nn (k + 1) rest with
    | some o, some rest' => if isNew e nn o then some rest' else some ((o, none, σ.gens o + g) :: rest')
    | _, _ => none := rfl
theorem bo_some (e : Nat) (T : List Nat) (nn k g : Nat) (ob : Ob) (rest : List (Nat × Option Ob)) : backObjs σ e T nn k ((g, some ob) :: rest) = match outMap σ e T nn k g, renOb outTag (outMap σ e T nn) ob, backObjs σ e T nn (k + 1) rest with
    | some (o, g'), some ob', some rest' => some ((o, some ob', g') :: rest')
    | _, _, _ => none := rfl
theorem pa_nil (T : List Nat) (σv : St) (mv : List Nat) (i : Nat) : passArgs σ T σv mv i [] = some [] := rfl
theorem pa_cons (T : List Nat) (σv : St) (mv : List Nat) (i : Nat) (v : AV) (vs : List AV) : passArgs σ T σv mv i (v :: vs) = match (if mv.contains i then ren2 inTag (inMap σ T) v else σv.view 6 v) with
    | some x => match passArgs σ T σv mv (i + 1) vs with
      | some xs => some (x :: xs)
      | none => none
    | none => none := by
  simp only [passArgs, passArg]
  cases (if mv.contains i then ren2 inTag (inMap σ T) v else σv.view 6 v) with
  | none => rfl
  | some x => cases passArgs σ T σv mv (i + 1) vs <;> rfl
theorem po_nil (T : List Nat) : passObjs σ T [] = some [] := rfl
theorem po_cons (T : List Nat) (o : Nat) (os : List Nat) : passObjs σ T (o :: os) = match σ.objs o, passObjs σ T os with
    | some ob, some obs => match renOb inTag (inMap σ T) ob with
      | some ob => some (ob :: obs)
      | none => none
    | _, _ => none := rfl
theorem fo_box (cs : List AV) : flatOb (some (.box cs)) = true := rfl
theorem fo_slice (e : Nat) (rows : List (List AV)) : flatOb (some (.slice e rows)) = allC rows := rfl
theorem cp_some (e : Nat) (h : List AV → List Ob → Option Out) (ts : List TypeId) (xs : List AV) : callP P σ e h ts (some xs) = ans σ e [] false (h (nrmArgs P [] 0 ts xs) []) := rfl
theorem cm_eq (e : Nat) (fl : Bool) (mv : List Nat) (h : List AV → List Ob → Option Out) (ts : List TypeId) (args : List AV) (T : List Nat) : callM P σ e fl mv h ts args T =
  if fl = true ∧ T.all (fun o => flatOb (σ.objs o)) = false then none else
  match passArgs σ T { σ with objs := fun o => if T.contains o then none else σ.objs o, ep := if fl then σ.ep else σ.ep + 1 } mv 0 args with
  | some as => match passObjs σ T T with
    | some obs => ans σ e T (!fl) (h (nrmArgs P mv 0 ts as) obs)
    | none => none
  | none => none := rfl
theorem an_some (e : Nat) (T : List Nat) (ep : Bool) (v : AV) (obs : List (Nat × Option Ob)) : ans σ e T ep (some (v, obs)) =
    if obs.length < T.length ∨ 8 < obs.length - T.length then none else
    match ren3 outTag (outMap σ e T (obs.length - T.length)) v, backObjs σ e T (obs.length - T.length) 0 obs with
    | some v', some obs' => some ⟨v', obs', ep⟩
    | _, _ => none := rfl
theorem va_nil : viewAll σ [] = some [] := rfl
theorem va_cons (v : AV) (vs : List AV) : viewAll σ (v :: vs) = match σ.view 6 v with
    | some x => match viewAll σ vs with
      | some xs => some (x :: xs)
      | none => none
    | none => none := rfl
theorem vo_box (k i j : Nat) (cells : List AV) : vwOb σ k i j (some (.box cells)) = if i = 0 ∧ j ≤ cells.length then (viewsK σ k (cells.drop j)).map .ib else none := rfl
theorem vo_slice (k i j e : Nat) (rows : List (List AV)) : vwOb σ k i j (some (.slice e rows)) = match rows[i]? with
    | some r => some (.ip .bo (r.drop j))
    | none => none := rfl
theorem ro_slice (g g' e e' off n w : Nat) (rows : List (List AV)) : rowsOb g g' e e' off n (some (.slice w rows)) = if g' = g ∧ e' = e then some ((rows.drop off).take n) else none := rfl
theorem lo_box (e o g i j s : Nat) (a : Bool) (cells : List AV) : ldOb cf fn σ e o g i j s a (some (.box cells)) = if i = 0 ∧ j + s ≤ cells.length then (pack a ((cells.drop j).take s)).map fun v => ⟨v, [], false⟩ else none := rfl
theorem lo_slice (e o g i j s e2 : Nat) (a : Bool) (rows : List (List AV)) : ldOb cf fn σ e o g i j s a (some (.slice e2 rows)) = match rows[i]? with
    | some r => if j + s ≤ r.length then
        if ((cf.tk1 fn).contains e || (cf.tk2 fn).contains e) = true then
          match splitTr ((r.drop j).take s) with
          | some (pre, e', rows', post) =>
            if o = site e 0 ∨ allPlain rows' = false then none else
            (pack a (pre ++ [.sl (site e 0) (σ.gens (site e 0) + 1) e' 0 rows'.length] ++ post)).map fun u =>
              ⟨u, [(o, some (.slice e2 (rows.set i (splice r j (pre ++ [if (cf.tk1 fn).contains e then .sl (site e 0) (σ.gens (site e 0) + 1) e' 0 rows'.length else .bad] ++ post)))), g),
                (site e 0, some (.slice e' rows'), σ.gens (site e 0) + 1)], true⟩
          | _ => none
        else (pack a (((r.drop j).take s).map (retag (.ep σ.ep)))).map fun v => ⟨v, [], false⟩
      else none
    | none => none := rfl
theorem sb_box (o g i j s : Nat) (t : TypeId) (cs cells : List AV) : stOb cf σ o g i j s t cs (some (.box cells)) = if i = 0 ∧ j + s ≤ cells.length ∧ cs.all storable = true then some ⟨.c undef, [(o, some (.box (splice cells j cs)), g)], false⟩ else none := rfl
theorem sb_slice (o g i j s e : Nat) (t : TypeId) (cs : List AV) (rows : List (List AV)) : stOb cf σ o g i j s t cs (some (.slice e rows)) = match rows[i]?, σ.absorb (layT cf.P 8 t) cs with
    | some r, some (xs, ks) =>
      if j + s ≤ r.length ∧ ks.contains o = false ∧ xs.length = s then some ⟨.c undef, (o, some (.slice e (rows.set i (splice r j xs))), g) :: killed σ ks, false⟩ else none
    | _, _ => none := rfl
theorem rb_box (g' g i j s : Nat) (a : Bool) (cells : List AV) : rsOb g' g i j s a (some (.box cells)) = if g' = g ∧ i = 0 ∧ j + s ≤ cells.length then pack a ((cells.drop j).take s) else none := rfl
theorem ra_nil' : resAll cf σ [] = some [] := rfl
theorem ra_cons' (x : ResultVar) (xs : List ResultVar) : resAll cf σ (x :: xs) = match resultOf cf σ x with
    | some v => match resAll cf σ xs with
      | some vs => some (v :: vs)
      | none => none
    | none => none := rfl
theorem one_one (v : AV) : one? [v] = v := rfl
theorem one_two (v u : AV) (vs : List AV) : one? (v :: u :: vs) = .tup (v :: u :: vs) := rfl
theorem one_nil : one? [] = .tup [] := rfl
theorem fn_some (n : Nat) (vs : List AV) : fin cf n σ (some vs) = fin.finV n σ (one? vs) ((withBoxes σ.objs (refs1 (one? vs) ++ (List.range n).flatMap (boxRefs σ.objs))).filter (n ≤ ·)) := rfl
theorem fv_eq (n : Nat) (v : AV) (ex : List Nat) : fin.finV n σ v ex = match ren3 expTag (expMap n σ ex) v with
    | some v' => match expObjs n σ ex (List.range n ++ ex) with
      | some obs => some (v', obs)
      | none => none
    | none => none := rfl
theorem em_eq (n : Nat) (ex : List Nat) (o g : Nat) : expMap n σ ex o g = if o < n then some (o, g) else if σ.gens o = g then (ex.idxOf? o).map fun k => (n + k, 0) else none := rfl
theorem eo_nil (n : Nat) (ex : List Nat) : expObjs n σ ex [] = some [] := rfl
theorem eo_cons (n : Nat) (ex : List Nat) (o : Nat) (os : List Nat) : expObjs n σ ex (o :: os) = match (match (σ.objs o).bind (renOb expTag (expMap n σ ex)) with | some ob => some (some ob) | none => if o < n then some none else none), expObjs n σ ex os with
    | some ob, some rest => some ((if o < n then σ.gens o else 0, ob) :: rest)
    | _, _ => none := rfl
theorem up_im : Tag.up .im = .im := rfl
theorem up_b1 : Tag.up .b1 = .b1 := rfl
theorem up_bo : Tag.up .bo = .b1 := rfl
theorem fx_im : Tag.fixed .im = true := rfl
theorem fx_b1 : Tag.fixed .b1 = true := rfl
theorem fx_bo : Tag.fixed .bo = true := rfl
theorem mo_str (e : Nat) (b : ByteArray) : moreOf σ e (.c (.string b)) = if e = 1 then some (byteRows b, []) else none := rfl
theorem mo_tr (e : Nat) (t : Tag) (w : Nat) (rows : List (List AV)) : moreOf σ e (.tr t w rows) = match σ.rows e (.tr t w rows) with
    | some rows => if allC rows then some (rows, []) else none
    | none => none := by
  simp only [moreOf]
  cases σ.rows e (.tr t w rows) <;> rfl
theorem mo_nil (e : Nat) : moreOf σ e (.c (.slice none 0 0)) = some ([], []) := rfl
theorem mo_sl (e o g w n : Nat) : moreOf σ e (.sl o g w 0 n) = match σ.rows e (.sl o g w 0 n) with
    | some rows => if allC rows then some (rows, []) else match σ.objs o with
          | some (.slice _ all) => if n = all.length ∧ allPlain rows = true then some (rows, [o]) else none
          | _ => none
    | none => none := by
  simp only [moreOf]
  cases σ.rows e (.sl o g w 0 n) with
  | none => rfl
  | some r =>
    simp only
    cases σ.objs o with
    | none => rfl
    | some ob => cases ob <;> rfl
theorem rn_tmp (t o e : Nat) : renames (some (.tmp t)) o e = (o == site t 0 && o != site e 0) := rfl
theorem rn_const (v : Value) (o e : Nat) : renames (some (.const v)) o e = (false && o != site e 0) := rfl
theorem kl_nil : killed σ [] = [] := rfl
theorem kl_cons (o : Nat) (os : List Nat) : killed σ (o :: os) = (o, none, σ.gens o) :: killed σ os := rfl
theorem ab_nil (ls : List (Option Nat)) : σ.absorb ls [] = some ([], []) := by cases ls <;> rfl
theorem ab_cons (l : Option Nat) (ls : List (Option Nat)) (v : AV) (vs : List AV) : σ.absorb (l :: ls) (v :: vs) = match σ.absorb1 l v, σ.absorb ls vs with
    | some (x, a), some (xs, b) => if a.all (fun o => !b.contains o) then some (x :: xs, a ++ b) else none
    | _, _ => none := rfl
theorem a1_nil (e : Nat) : σ.absorb1 (some e) (.c (.slice none 0 0)) = some (.tr .im e [], []) := rfl
theorem a1_int (l : Option Nat) (k : IntKind) (n : Int) : σ.absorb1 l (.c (.int k n)) = some (.c (.int k n), []) := by cases l <;> rfl
theorem a1_bool (l : Option Nat) (b : Bool) : σ.absorb1 l (.c (.bool b)) = some (.c (.bool b), []) := by cases l <;> rfl
theorem a1_str (l : Option Nat) (s : ByteArray) : σ.absorb1 l (.c (.string s)) = some (.c (.string s), []) := by cases l <;> rfl
theorem a1_sl (l : Option Nat) (o g w off n : Nat) : σ.absorb1 l (.sl o g w off n) = match σ.objs o with
    | some (.slice e' rows) => if σ.gens o = g ∧ off = 0 ∧ e' = w then some (.tr .im w (rows.take n), [o]) else none
    | _ => none := by
  cases l <;> simp only [St.absorb1] <;> cases σ.objs o with
  | none => rfl
  | some ob => cases ob <;> rfl
theorem fr_nil (t : TypeId) (cells : List AV) : fillRow P t cells [] = some cells := rfl
theorem fr_cons (t : TypeId) (cells : List AV) (i : Nat) (v : AV) (rest : List (Nat × AV)) : fillRow P t cells ((i, v) :: rest) = match fieldT P t i with
    | some (off, s, _) =>
      let cs := cellsOf v
      if cs.length = s ∧ off + s ≤ cells.length ∧ cs.all storable = true then fillRow P t (splice cells off cs) rest else none
    | none => none := rfl
theorem pr_nil (lay : List (Option Nat)) (e i : Nat) : partRows σ lay e i [] = some ([], []) := rfl
theorem pr_cons (lay : List (Option Nat)) (e i j : Nat) (v : AV) (rest : List (Nat × AV)) : partRows σ lay e i ((j, v) :: rest) =
    if i = j ∧ (cellsOf v).length = e then
      match σ.absorb lay (cellsOf v), partRows σ lay e (i + 1) rest with
      | some (xs, a), some (rows, b) => if xs.length = e ∧ a.all (fun o => !b.contains o) = true then some (xs :: rows, a ++ b) else none
      | _, _ => none
    else none := rfl
theorem st_nil : splitTr [] = none := rfl
theorem st_c (v : Value) (cells : List AV) : splitTr (.c v :: cells) = (splitTr cells).map fun x => (.c v :: x.1, x.2) := rfl
theorem st_tr (t : Tag) (e : Nat) (rows : List (List AV)) (post : List AV) : splitTr (.tr t e rows :: post) = if post.all isC then some ([], e, rows, post) else none := rfl

end

/-! #### all in one -/
theorem engE : type_of% (And.intro (And.intro (And.intro (And.intro (And.intro (And.intro (And.intro (And.intro @ev_nil @opt_some) (And.intro @opt_none (And.intro @opt_map @evk_some))) (And.intro (And.intro @evk_none @ev_cons) (And.intro @evb_true (And.intro @evb_false @ev_guard)))) (And.intro (And.intro (And.intro @tv_nil @tvk_some) (And.intro @tv_cons (And.intro @tvb_true @tvb_false))) (And.intro (And.intro @tv_guard @tagOK_fixed) (And.intro @get_tmp (And.intro @get_fn @get_int))))) (And.intro (And.intro (And.intro (And.intro @get_bool @get_str) (And.intro @vals_nil (And.intro @vals_one @vals_two))) (And.intro (And.intro @vals_three @vals_four) (And.intro @vals_five (And.intro @at_put @put_none)))) (And.intro (And.intro (And.intro @put_objs @put_gens) (And.intro @put_ep (And.intro @set_slots @set_objs))) (And.intro (And.intro @set_gens (And.intro @set_ep @bump_slots)) (And.intro @bump_objs (And.intro @bump_gens @bump_ep)))))) (And.intro (And.intro (And.intro (And.intro (And.intro @app_val @app_bump) (And.intro @app_obj (And.intro @init_slots @init_objs))) (And.intro (And.intro @init_gens @init_ep) (And.intro @oe_move (And.intro @oe_assign @oe_pick)))) (And.intro (And.intro (And.intro @oe_alloc @oe_box) (And.intro @oe_build (And.intro @oe_buildSlice @oe_store))) (And.intro (And.intro @oe_load @oe_nilCheck) (And.intro @oe_binOp (And.intro @oe_unOp @oe_makeFunc))))) (And.intro (And.intro (And.intro (And.intro @oe_makeMap @oe_makeSlice) (And.intro @oe_slice (And.intro @oe_fieldAddr @oe_field))) (And.intro (And.intro @oe_indexAddr @oe_index) (And.intro @oe_extract (And.intro @oe_builtin @oe_call)))) (And.intro (And.intro (And.intro @ld_ip @ld_ib) (And.intro @ld_ptr (And.intro @st_ptr @ap_eq))) (And.intro (And.intro @vw_c (And.intro @vw_fix @vw_im)) (And.intro @vw_b1 (And.intro @vw_bo @vw_ep))))))) (And.intro (And.intro (And.intro (And.intro (And.intro (And.intro @vw_ipfix @vw_ipep) (And.intro @vw_sl (And.intro @vw_ptr @vw_ib))) (And.intro (And.intro @vw_fn @vw_agg) (And.intro @vwK_nil (And.intro @vwK_cons @rows_fix)))) (And.intro (And.intro (And.intro @rows_ep @rows_sl) (And.intro @bin_add (And.intro @bin_sub @bin_mul))) (And.intro (And.intro @bin_quo @bin_rem) (And.intro @bin_eql (And.intro @bin_neq @bin_lss))))) (And.intro (And.intro (And.intro (And.intro @bin_leq @bin_gtr) (And.intro @bin_geq (And.intro @bin_and @bin_or))) (And.intro (And.intro @bin_shl @bin_shr) (And.intro @bin_strAdd (And.intro @bin_strEql @bin_strNeq)))) (And.intro (And.intro (And.intro @bin_boolEql @bin_boolNeq) (And.intro @bin_nilEql (And.intro @bin_nilNeq @bin_ptrEql))) (And.intro (And.intro @bin_ptrNeq (And.intro @bin_ipEql @bin_ipNeq)) (And.intro @bin_ibEql (And.intro @bin_ibNeq @un_not)))))) (And.intro (And.intro (And.intro (And.intro (And.intro @un_neg @bi_lenS) (And.intro @bi_lenT (And.intro @bi_lenO @bi_min))) (And.intro (And.intro @bi_max @bi_append) (And.intro @sx_str (And.intro @sx_tr @sx_sl)))) (And.intro (And.intro (And.intro @cb_nn @cb_sn) (And.intro @cb_ns (And.intro @cb_ss @cv_int))) (And.intro (And.intro @cv_str (And.intro @cv_tr @cv_sl)) (And.intro @nr_nil (And.intro @nr_cons @nr_none))))) (And.intro (And.intro (And.intro (And.intro @nm_tr @nm_agg) (And.intro @nm_c (And.intro @nm_ip @nm_ib))) (And.intro (And.intro @nm_fn @nc_nil) (And.intro @nc_nil2 (And.intro @nc_cons @n1_none)))) (And.intro (And.intro (And.intro @n1_tr @rn_c) (And.intro @rn_sl (And.intro @rn_ptr @rn_tr))) (And.intro (And.intro @rn_ip (And.intro @r2_agg @r2_sl)) (And.intro @r2_ptr (And.intro @r2_tr @r2_ip)))))))) (And.intro (And.intro (And.intro (And.intro (And.intro (And.intro (And.intro @r3_tup @r3_agg) (And.intro @r3_sl (And.intro @r3_ptr @r3_tr))) (And.intro (And.intro @r3_ip @ob_box) (And.intro @ob_slice (And.intro @ra_nil @ra_cons)))) (And.intro (And.intro (And.intro @rs_tmp @rs_cell) (And.intro @fin_eq (And.intro @gb_some @gb_none))) (And.intro (And.intro @gs_list @gl_zero) (And.intro @gl_succ (And.intro @site_eq @splice_eq))))) (And.intro (And.intro (And.intro (And.intro @co_agg @co_c) (And.intro @co_tr (And.intro @co_sl @co_ptr))) (And.intro (And.intro @co_ip @co_ib) (And.intro @co_fn (And.intro @co_mp @so_c)))) (And.intro (And.intro (And.intro @so_tr @so_sl) (And.intro @so_ptr (And.intro @so_ip @so_ib))) (And.intro (And.intro @so_fn (And.intro @so_mp @cV_int)) (And.intro @cV_bool (And.intro @cV_str @cV_sl)))))) (And.intro (And.intro (And.intro (And.intro (And.intro @cV_ptr @isC_c) (And.intro @isC_tr (And.intro @isC_sl @pl_c))) (And.intro (And.intro @pl_tr @pl_sl) (And.intro @rg_0 (And.intro @rg_1 @rg_2)))) (And.intro (And.intro (And.intro @rg_3 @rg_4) (And.intro @rg_5 (And.intro @rg_6 @rg_7))) (And.intro (And.intro @rg_8 (And.intro @ix_nil @ix_cons)) (And.intro @aC_nil (And.intro @aC_cons @aP_nil))))) (And.intro (And.intro (And.intro (And.intro @aP_cons @aC_app) (And.intro @aP_app (And.intro @pk_agg @pk_one))) (And.intro (And.intro @rt_c @rt_tr) (And.intro @tk_ep (And.intro @tk_im @tk_b1)))) (And.intro (And.intro (And.intro @tk_bo @ob_box') (And.intro @wb_eq (And.intro @rf_c @rf_tr))) (And.intro (And.intro @rf_ip (And.intro @rf_ib @rf_fn)) (And.intro @rf_bad (And.intro @rf_mp @rf_sl))))))) (And.intro (And.intro (And.intro (And.intro (And.intro (And.intro @rf_ptr @rf_agg) (And.intro @rf_tup (And.intro @mr_nil @mr_cons))) (And.intro (And.intro @it_im @it_b1) (And.intro @it_bo (And.intro @ot_im @ot_b1)))) (And.intro (And.intro (And.intro @et_im @et_b1) (And.intro @im_eq (And.intro @new_eq @om_eq))) (And.intro (And.intro @bo_nil @bo_none) (And.intro @bo_some (And.intro @pa_nil @pa_cons))))) (And.intro (And.intro (And.intro (And.intro @po_nil @po_cons) (And.intro @fo_box (And.intro @fo_slice @cp_some))) (And.intro (And.intro @cm_eq @an_some) (And.intro @va_nil (And.intro @va_cons @vo_box)))) (And.intro (And.intro (And.intro @vo_slice @ro_slice) (And.intro @lo_box (And.intro @lo_slice @sb_box))) (And.intro (And.intro @sb_slice (And.intro @rb_box @ra_nil')) (And.intro @ra_cons' (And.intro @one_one @one_two)))))) (And.intro (And.intro (And.intro (And.intro (And.intro @one_nil @fn_some) (And.intro @fv_eq (And.intro @em_eq @eo_nil))) (And.intro (And.intro @eo_cons @up_im) (And.intro @up_b1 (And.intro @up_bo @fx_im)))) (And.intro (And.intro (And.intro @fx_b1 @fx_bo) (And.intro @mo_str (And.intro @mo_tr @mo_nil))) (And.intro (And.intro @mo_sl (And.intro @rn_tmp @rn_const)) (And.intro @kl_nil (And.intro @kl_cons @ab_nil))))) (And.intro (And.intro (And.intro (And.intro @ab_cons @a1_nil) (And.intro @a1_int (And.intro @a1_bool @a1_str))) (And.intro (And.intro @a1_sl @fr_nil) (And.intro @fr_cons (And.intro @pr_nil @pr_cons)))) (And.intro (And.intro (And.intro @st_nil @st_c) (And.intro @st_tr (And.intro @r2_c @r3_c))) (And.intro (And.intro @rows_nil (And.intro @n1_nil @sx_nil)) (And.intro @bi_lenN (And.intro @get_nilS @get_nilP))))))))) :=
  (And.intro (And.intro (And.intro (And.intro (And.intro (And.intro (And.intro (And.intro @ev_nil @opt_some) (And.intro @opt_none (And.intro @opt_map @evk_some))) (And.intro (And.intro @evk_none @ev_cons) (And.intro @evb_true (And.intro @evb_false @ev_guard)))) (And.intro (And.intro (And.intro @tv_nil @tvk_some) (And.intro @tv_cons (And.intro @tvb_true @tvb_false))) (And.intro (And.intro @tv_guard @tagOK_fixed) (And.intro @get_tmp (And.intro @get_fn @get_int))))) (And.intro (And.intro (And.intro (And.intro @get_bool @get_str) (And.intro @vals_nil (And.intro @vals_one @vals_two))) (And.intro (And.intro @vals_three @vals_four) (And.intro @vals_five (And.intro @at_put @put_none)))) (And.intro (And.intro (And.intro @put_objs @put_gens) (And.intro @put_ep (And.intro @set_slots @set_objs))) (And.intro (And.intro @set_gens (And.intro @set_ep @bump_slots)) (And.intro @bump_objs (And.intro @bump_gens @bump_ep)))))) (And.intro (And.intro (And.intro (And.intro (And.intro @app_val @app_bump) (And.intro @app_obj (And.intro @init_slots @init_objs))) (And.intro (And.intro @init_gens @init_ep) (And.intro @oe_move (And.intro @oe_assign @oe_pick)))) (And.intro (And.intro (And.intro @oe_alloc @oe_box) (And.intro @oe_build (And.intro @oe_buildSlice @oe_store))) (And.intro (And.intro @oe_load @oe_nilCheck) (And.intro @oe_binOp (And.intro @oe_unOp @oe_makeFunc))))) (And.intro (And.intro (And.intro (And.intro @oe_makeMap @oe_makeSlice) (And.intro @oe_slice (And.intro @oe_fieldAddr @oe_field))) (And.intro (And.intro @oe_indexAddr @oe_index) (And.intro @oe_extract (And.intro @oe_builtin @oe_call)))) (And.intro (And.intro (And.intro @ld_ip @ld_ib) (And.intro @ld_ptr (And.intro @st_ptr @ap_eq))) (And.intro (And.intro @vw_c (And.intro @vw_fix @vw_im)) (And.intro @vw_b1 (And.intro @vw_bo @vw_ep))))))) (And.intro (And.intro (And.intro (And.intro (And.intro (And.intro @vw_ipfix @vw_ipep) (And.intro @vw_sl (And.intro @vw_ptr @vw_ib))) (And.intro (And.intro @vw_fn @vw_agg) (And.intro @vwK_nil (And.intro @vwK_cons @rows_fix)))) (And.intro (And.intro (And.intro @rows_ep @rows_sl) (And.intro @bin_add (And.intro @bin_sub @bin_mul))) (And.intro (And.intro @bin_quo @bin_rem) (And.intro @bin_eql (And.intro @bin_neq @bin_lss))))) (And.intro (And.intro (And.intro (And.intro @bin_leq @bin_gtr) (And.intro @bin_geq (And.intro @bin_and @bin_or))) (And.intro (And.intro @bin_shl @bin_shr) (And.intro @bin_strAdd (And.intro @bin_strEql @bin_strNeq)))) (And.intro (And.intro (And.intro @bin_boolEql @bin_boolNeq) (And.intro @bin_nilEql (And.intro @bin_nilNeq @bin_ptrEql))) (And.intro (And.intro @bin_ptrNeq (And.intro @bin_ipEql @bin_ipNeq)) (And.intro @bin_ibEql (And.intro @bin_ibNeq @un_not)))))) (And.intro (And.intro (And.intro (And.intro (And.intro @un_neg @bi_lenS) (And.intro @bi_lenT (And.intro @bi_lenO @bi_min))) (And.intro (And.intro @bi_max @bi_append) (And.intro @sx_str (And.intro @sx_tr @sx_sl)))) (And.intro (And.intro (And.intro @cb_nn @cb_sn) (And.intro @cb_ns (And.intro @cb_ss @cv_int))) (And.intro (And.intro @cv_str (And.intro @cv_tr @cv_sl)) (And.intro @nr_nil (And.intro @nr_cons @nr_none))))) (And.intro (And.intro (And.intro (And.intro @nm_tr @nm_agg) (And.intro @nm_c (And.intro @nm_ip @nm_ib))) (And.intro (And.intro @nm_fn @nc_nil) (And.intro @nc_nil2 (And.intro @nc_cons @n1_none)))) (And.intro (And.intro (And.intro @n1_tr @rn_c) (And.intro @rn_sl (And.intro @rn_ptr @rn_tr))) (And.intro (And.intro @rn_ip (And.intro @r2_agg @r2_sl)) (And.intro @r2_ptr (And.intro @r2_tr @r2_ip)))))))) (And.intro (And.intro (And.intro (And.intro (And.intro (And.intro (And.intro @r3_tup @r3_agg) (And.intro @r3_sl (And.intro @r3_ptr @r3_tr))) (And.intro (And.intro @r3_ip @ob_box) (And.intro @ob_slice (And.intro @ra_nil @ra_cons)))) (And.intro (And.intro (And.intro @rs_tmp @rs_cell) (And.intro @fin_eq (And.intro @gb_some @gb_none))) (And.intro (And.intro @gs_list @gl_zero) (And.intro @gl_succ (And.intro @site_eq @splice_eq))))) (And.intro (And.intro (And.intro (And.intro @co_agg @co_c) (And.intro @co_tr (And.intro @co_sl @co_ptr))) (And.intro (And.intro @co_ip @co_ib) (And.intro @co_fn (And.intro @co_mp @so_c)))) (And.intro (And.intro (And.intro @so_tr @so_sl) (And.intro @so_ptr (And.intro @so_ip @so_ib))) (And.intro (And.intro @so_fn (And.intro @so_mp @cV_int)) (And.intro @cV_bool (And.intro @cV_str @cV_sl)))))) (And.intro (And.intro (And.intro (And.intro (And.intro @cV_ptr @isC_c) (And.intro @isC_tr (And.intro @isC_sl @pl_c))) (And.intro (And.intro @pl_tr @pl_sl) (And.intro @rg_0 (And.intro @rg_1 @rg_2)))) (And.intro (And.intro (And.intro @rg_3 @rg_4) (And.intro @rg_5 (And.intro @rg_6 @rg_7))) (And.intro (And.intro @rg_8 (And.intro @ix_nil @ix_cons)) (And.intro @aC_nil (And.intro @aC_cons @aP_nil))))) (And.intro (And.intro (And.intro (And.intro @aP_cons @aC_app) (And.intro @aP_app (And.intro @pk_agg @pk_one))) (And.intro (And.intro @rt_c @rt_tr) (And.intro @tk_ep (And.intro @tk_im @tk_b1)))) (And.intro (And.intro (And.intro @tk_bo @ob_box') (And.intro @wb_eq (And.intro @rf_c @rf_tr))) (And.intro (And.intro @rf_ip (And.intro @rf_ib @rf_fn)) (And.intro @rf_bad (And.intro @rf_mp @rf_sl))))))) (And.intro (And.intro (And.intro (And.intro (And.intro (And.intro @rf_ptr @rf_agg) (And.intro @rf_tup (And.intro @mr_nil @mr_cons))) (And.intro (And.intro @it_im @it_b1) (And.intro @it_bo (And.intro @ot_im @ot_b1)))) (And.intro (And.intro (And.intro @et_im @et_b1) (And.intro @im_eq (And.intro @new_eq @om_eq))) (And.intro (And.intro @bo_nil @bo_none) (And.intro @bo_some (And.intro @pa_nil @pa_cons))))) (And.intro (And.intro (And.intro (And.intro @po_nil @po_cons) (And.intro @fo_box (And.intro @fo_slice @cp_some))) (And.intro (And.intro @cm_eq @an_some) (And.intro @va_nil (And.intro @va_cons @vo_box)))) (And.intro (And.intro (And.intro @vo_slice @ro_slice) (And.intro @lo_box (And.intro @lo_slice @sb_box))) (And.intro (And.intro @sb_slice (And.intro @rb_box @ra_nil')) (And.intro @ra_cons' (And.intro @one_one @one_two)))))) (And.intro (And.intro (And.intro (And.intro (And.intro @one_nil @fn_some) (And.intro @fv_eq (And.intro @em_eq @eo_nil))) (And.intro (And.intro @eo_cons @up_im) (And.intro @up_b1 (And.intro @up_bo @fx_im)))) (And.intro (And.intro (And.intro @fx_b1 @fx_bo) (And.intro @mo_str (And.intro @mo_tr @mo_nil))) (And.intro (And.intro @mo_sl (And.intro @rn_tmp @rn_const)) (And.intro @kl_nil (And.intro @kl_cons @ab_nil))))) (And.intro (And.intro (And.intro (And.intro @ab_cons @a1_nil) (And.intro @a1_int (And.intro @a1_bool @a1_str))) (And.intro (And.intro @a1_sl @fr_nil) (And.intro @fr_cons (And.intro @pr_nil @pr_cons)))) (And.intro (And.intro (And.intro @st_nil @st_c) (And.intro @st_tr (And.intro @r2_c @r3_c))) (And.intro (And.intro @rows_nil (And.intro @n1_nil @sx_nil)) (And.intro @bi_lenN (And.intro @get_nilS @get_nilP)))))))))

end Go.AM
