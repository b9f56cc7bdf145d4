/- The abstract interpreter VI, part B. -/
import Derived.Test.YtdbhbceogacppaaGreatVA
import Derived.Deep.AppendSrc
import Derived.RangeFuncLeaves
import Derived.OrdersIn
namespace Go.VI
variable {g:PG} {c:Ctx} {w:World} {fr fr':Fr} {a:Act} {o:Oper} {callE:CallE} {yieldE:Nm→List PV→Heap→Option (PV × Heap)}
theorem build_news {R:PV→Value→Prop} {ys:List PV} {n sz b q:Nat} (hn:ys.length=n) (hs:∀ (i:Nat) e,ys[i]?=some e→e.cells.length=sz)
    (h:∀ i j,i<n→j<sz→∃ u,w.cell? ⟨b,q+i*sz+j,none⟩=some u∧u.oneCell'=true∧∀ e cv,ys[i]?=some e→e.cells[j]?=some cv→R cv u) :
    ∃ news:List Value,news.length=n*sz∧(∀ k u,news[k]?=some u→w.cell? ((⟨b,q,none⟩:Addr).add k)=some u)∧(∀ u∈news,u.oneCell'=true)∧EGRel R sz ys news.toArray:=by
  have hk:∀ k,k<n*sz→k / sz<n∧k % sz<sz∧k / sz*sz+k % sz=k:=by
    intro k hk
    have hsz:0<sz:=by
      rcases Nat.eq_zero_or_pos sz with h0|h0
      · subst h0;simp at hk
      · exact h0
    exact ⟨(Nat.div_lt_iff_lt_mul hsz).2 hk,Nat.mod_lt _ hsz,by rw [Nat.mul_comm];exact Nat.div_add_mod k sz⟩
  have hch:∀ k,∃ u,k<n*sz→w.cell? ⟨b,q+k,none⟩=some u∧u.oneCell'=true∧∀ e cv,ys[k / sz]?=some e→e.cells[k % sz]?=some cv→R cv u:=by
    intro k
    by_cases hlt:k<n*sz
    · obtain ⟨h1,h2,h3⟩:=hk k hlt
      obtain ⟨u,h4,h5,h6⟩:=h _ _ h1 h2
      exact ⟨u,fun _=>⟨by rw [← h4,Nat.add_assoc,h3],h5,h6⟩⟩
    · exact ⟨undef,fun hx=>absurd hx hlt⟩
  have hget:∀ k,((List.range (n*sz)).map fun k=>(hch k).choose)[k]?=if k<n*sz then some (hch k).choose else none:=by
    intro k
    by_cases hlt:k<n*sz
    · rw [List.getElem?_map,List.getElem?_range hlt,if_pos hlt];rfl
    · rw [if_neg hlt,List.getElem?_eq_none (by simp;omega)]
  refine ⟨(List.range (n*sz)).map fun k=>(hch k).choose,by simp,fun k u hu=>?_,fun u hu=>?_,hs,by simp [hn],fun i j e cv he hj=>?_⟩
  · rw [hget] at hu
    split at hu<;>simp only [Option.some.injEq,reduceCtorEq] at hu
    rename_i hlt
    rw [add_none,← hu]
    exact ((hch k).choose_spec hlt).1
  · obtain ⟨k,hk',rfl⟩:=List.mem_map.1 hu
    exact ((hch k).choose_spec (by simpa using hk')).2.1
  · have hi:i<n:=hn ▸ Zb he
    have hjs:j<sz:=by have:=hs i e he;have:=Zb hj;omega
    have hlt:i*sz+j<n*sz:=by
      have:(i+1)*sz≤n*sz:=Nat.mul_le_mul_right _ hi
      rw [Nat.add_mul,Nat.one_mul] at this
      omega
    have hd:(i*sz+j) / sz=i:=by
      rw [Nat.add_comm,Nat.add_mul_div_right _ _ (by omega),Nat.div_eq_of_lt hjs,Nat.zero_add]
    have hm:(i*sz+j) % sz=j:=by rw [Nat.add_comm,Nat.add_mul_mod_self_right,Nat.mod_eq_of_lt hjs]
    obtain ⟨_,h2,h3⟩:=(hch (i*sz+j)).choose_spec hlt
    refine ⟨(hch (i*sz+j)).choose,?_,h2,h3 e cv (by rw [hd];exact he) (by rw [hm];exact hj)⟩
    rw [List.getElem?_toArray,hget,if_pos hlt]
theorem EGRel.nil {R:PV→Value→Prop} {sz:Nat}:EGRel R sz [] (#[]:Array Value):=⟨fun i e he=>by simp at he,by simp,fun i j e cv he=>by simp at he⟩
theorem src_of (h:FrRel g c w fr a) {cl:Bool} {v:PV} {u:Value} {ys:List PV} {sz:Nat} {tx e':TypeId} (hk:g.P.underlying tx=some (.slice e')) (hv:VRel c w v u) (he:elems fr.heap v=some ys) (hsz:headSz sz ys=true) (hcl:cleanFor fr.heap cl v=true) :
    ∃ news,Src g.P sz tx u ys.length news w∧EGRel (CRel cl c w) sz ys news.toArray∧∃ base cap,u=.slice base ys.length cap:=by
  have empty:∀ (base:Option Addr) (cap:Nat),ys=[]→u=.slice base 0 cap→∃ news,Src g.P sz tx u ys.length news w∧EGRel (CRel cl c w) sz ys news.toArray∧∃ base cap,u=.slice base ys.length cap:=by
    intro base cap hy hu
    subst hy
    subst hu
    refine ⟨[],?_,EGRel.nil,base,cap,rfl⟩
    cases base with
    | none=>exact Src.ofNil w hk cap
    | some x=>exact Src.ofSlice w hk x 0 cap [] (by simp) (fun j u hj=>by simp at hj) (fun u hu=>by cases hu)
  unfold elems at he
  split at he
  · rename_i f L
    simp only [Option.some.injEq] at he
    subst he
    have hvi:=hv.vs_inv
    cases hvi with
    | vsNone _ _=>exact empty none 0 rfl rfl
    | vsE _ A _=>exact empty (some A) 0 rfl rfl
    | vs _ _ b q cap sz' uf hc hcap hclip hs hcell hh =>
      rcases headSz_sz hsz hs with hL|hss
      · subst hL
        exact empty (some ⟨b,q,none⟩) cap rfl rfl
      · subst hss
        obtain ⟨news,h1,h2,h3,h4⟩:=build_news (w:=w) (R:=CRel cl c w) (b:=b) (q:=q) rfl hs (fun i j hi hj=>by
          obtain ⟨_,h5,h6⟩:=hcell i j hi hj
          refine ⟨uf i j,h5,h6,fun e cv he hcv=>?_⟩
          have:=hh i j e cv he hcv
          cases cl
          · exact .i _ _ this
          · exact this)
        exact ⟨news,Src.ofSlice w hk _ _ _ news h1 h2 h3,h4,_,_,rfl⟩
  · rename_i n gg off len
    split at he
    case h_2=>simp at he
    rename_i el g' cl' osz hob
    split at he<;>simp only [Option.some.injEq,reduceCtorEq] at he
    rename_i hc
    obtain ⟨rfl,hle⟩:=hc
    obtain ⟨p,hp,hM,hx⟩:=sl_live h.heap hv hob
    have hlen:ys.length=len:=by rw [← he];simp;omega
    rcases hx with ⟨hb,rfl,rfl,rfl⟩|⟨b,hb,hcap,rfl⟩|⟨rfl,_,x,rfl⟩
    · exact empty none 0 (by rw [← he];simp) rfl
    · have hyi:∀ i,ys[i]?=if i<len then el[off+i]? else none:=by
        intro i
        rw [← he,List.getElem?_take,List.getElem?_drop]
      have hs:∀ (i:Nat) e,ys[i]?=some e→e.cells.length=p.sz:=by
        intro i e hi
        rw [hyi] at hi
        split at hi
        · exact hM.sz _ e hi
        · cases hi
      rcases headSz_sz hsz hs with hL|hss
      · have h0:len=0:=by rw [← hlen,hL];rfl
        subst h0
        exact empty _ _ hL rfl
      · subst hss
        have hclo:cl=true→cl'=true:=by
          intro hcc
          subst hcc
          simpa [cleanFor,hob] using hcl
        obtain ⟨arr,E,ha,hsize,hcell⟩:=hM.row b hb
        obtain ⟨news,h1,h2,h3,h4⟩:=build_news (w:=w) (R:=CRel cl c w) (b:=b) (q:=p.base+off*p.sz) hlen hs (fun i j hi hj=>by
          have hlt:off+i<el.length:=by omega
          have hee:el[off+i]?=some el[off+i]:=List.getElem?_eq_getElem hlt
          have hcl2:=hM.sz _ _ hee
          have hcv:el[off+i].cells[j]?=some (el[off+i].cells[j]'(by omega)):=List.getElem?_eq_getElem (by omega)
          obtain ⟨u,h5,h6,h7⟩:=hcell _ j _ _ hee hcv
          refine ⟨u,?_,h6,fun e cv he hcv'=>?_⟩
          · have:p.base+off*p.sz+i*p.sz+j=p.base+(off+i)*p.sz+j:=by rw [Nat.add_mul];omega
            rw [this]
            simp [World.cell?,ha,h5]
          · rw [hyi,if_pos hi,hee] at he
            simp only [Option.some.injEq] at he
            subst he
            rw [hcv] at hcv'
            simp only [Option.some.injEq] at hcv'
            subst hcv'
            cases cl
            · exact h7.v
            · have:=hclo rfl
              subst this
              exact h7)
        rw [hlen]
        exact ⟨news,Src.ofSlice w hk _ _ _ news h1 h2 h3,h4,_,_,rfl⟩
    · exact empty (some x) 0 (by rw [← he];simp) rfl
  · simp at he
theorem run_append_at {P:Program} {t tx ty e E:TypeId} {i:TypeInfo} (ht:P.underlying t=some (.slice e)) (hi:P.info? e=some i) {b off sLen sCap n:Nat} {x:Value} {news:List Value} (hs:Src P i.size tx x n news w)
    (hroom:sLen+n≤sCap) {arr:Array Value} (ha:w.heap[b]?=some (.cells arr E (0,0))) (hq:off+sLen*i.size+news.length≤arr.size) :
    (Builtin.append_ #[t,tx] ty #[.slice (some ⟨b,off,none⟩) sLen sCap,x]).run P w=.ok (.slice (some ⟨b,off,none⟩) (sLen+n) sCap)
      (w.setRow b (arr.toList.take (off+sLen*i.size)++news++arr.toList.drop (off+sLen*i.size+news.length)).toArray):=by
  have hst:=run_storeCells_at (P:=P) b (off+sLen*i.size) E news 0 arr w ha (by simpa using hq) hs.one
  simp only [Nat.add_zero] at hst
  rcases hs.kind with ⟨e',hk⟩|hk<;>simp [Builtin.append_,run_underlying ht,run_underlying hk,sizeOf,typeInfo,hi,hs.len,hroom,hs.cells,Addr.add_lit,hst]
theorem run_append_none {P:Program} {t tx ty e:TypeId} {i:TypeInfo} (ht:P.underlying t=some (.slice e)) (hi:P.info? e=some i) (base:Option Addr) {sLen sCap:Nat} (hle:sLen≤sCap) {x:Value} {news:List Value} (hs:Src P i.size tx x 0 news w) :
    (Builtin.append_ #[t,tx] ty #[.slice base sLen sCap,x]).run P w=.ok (.slice base sLen sCap) w:=by
  have hn:news=[]:=List.eq_nil_of_length_eq_zero (by simpa using hs.newsLen)
  subst hn
  rcases hs.kind with ⟨e',hk⟩|hk<;>cases base<;>simp [Builtin.append_,run_underlying ht,run_underlying hk,sizeOf,typeInfo,hi,hs.len,hle,hs.cells,storeCells]
theorem EGRel.append {R:PV→Value→Prop} {sz:Nat} {xs ys:List PV} {us vs rest:List Value} (h1:EGRel R sz xs us.toArray) (h2:EGRel R sz ys vs.toArray) (hl:us.length=xs.length*sz) (hl':vs.length=ys.length*sz) :
    EGRel R sz (xs++ys) (us++vs++rest).toArray:=by
  refine ⟨fun i e he=>?_,by simp [hl,hl',Nat.add_mul],fun i j e cv he hj=>?_⟩
  · rw [List.getElem?_append] at he
    split at he
    · exact h1.len i e he
    · exact h2.len _ e he
  · rw [List.getElem?_append] at he
    split at he
    · rename_i hi
      obtain ⟨u,h3,h4,h5⟩:=h1.cell i j e cv he hj
      refine ⟨u,?_,h4,h5⟩
      rw [List.getElem?_toArray] at h3 ⊢
      have:=Zb h3
      rw [List.append_assoc,List.getElem?_append_left this]
      exact h3
    · rename_i hi
      obtain ⟨u,h3,h4,h5⟩:=h2.cell _ j e cv he hj
      refine ⟨u,?_,h4,h5⟩
      rw [List.getElem?_toArray] at h3 ⊢
      have:=Zb h3
      have hmul:i*sz=xs.length*sz+(i - xs.length)*sz:=by rw [← Nat.add_mul];congr 1;omega
      rw [List.append_assoc,List.getElem?_append_right (by omega),List.getElem?_append_left (by omega),← h3]
      congr 1
      omega
theorem More.grown (w:World) (ob:Obj):More w (w.drew.alloc ob):=(More.drew w).trans (More.alloc w.drew ob)
theorem append_grow {P:Program} {t tx ty E:TypeId} {i:TypeInfo} {zv:Value} (ht:P.underlying t=some (.slice E)) (hi:P.info? E=some i) (hz:i.zero=some zv) (hzs:zv.cells.size=i.size) {cl:Bool} {L ys:List PV} {base:Option Addr} {sCap:Nat} {olds news:List Value} {x:Value}
    (hold:(Builtin.firstCells i.size L.length (.slice base L.length sCap)).run P w.drew=.ok olds.toArray w.drew) (hol:olds.length=L.length*i.size) (hoe:EGRel (CRel cl c w) i.size L olds.toArray) (hs:Src P i.size tx x ys.length news w) (hne:EGRel (CRel cl c w) i.size ys news.toArray)
    (hg:sCap<L.length+ys.length) (hb:(L.length+ys.length)*i.bytes≤140737488355328) (hm:L.length+ys.length≤140737488355328) :
    ∃ arr cap,(Builtin.append_ #[t,tx] ty #[.slice base L.length sCap,x]).run P w=.ok (.slice (some ⟨w.heap.size,0,none⟩) (L.length+ys.length) cap) (w.drew.alloc (.cells arr E))∧L.length+ys.length≤cap∧cap*i.size≤arr.size∧EGRel (CRel cl c w) i.size (L++ys) arr:=by
  have hrun:=run_append_grow_src (P:=P) w t tx ty E i zv ht hi hz base L.length sCap olds hold x ys.length news hs hg (by omega) (growslice_fits hg hb)
  refine ⟨_,_,hrun,grownCap_ge _ _ _ _,?_,?_⟩
  · have hge:=grownCap_ge w (L.length+ys.length) sCap E
    simp only [Array.size_append,List.size_toArray,List.length_append,size_zeroCells,hol,hs.newsLen,hzs]
    have:grownCap w (L.length+ys.length) sCap E*i.size=(L.length+ys.length)*i.size+(grownCap w (L.length+ys.length) sCap E - (L.length+ys.length))*i.size:=by rw [← Nat.add_mul];congr 1;omega
    rw [this,Nat.add_mul]
    exact Nat.le_refl _
  · have:=EGRel.append (rest:=(Builtin.zeroCells zv.cells (grownCap w (L.length+ys.length) sCap E - (L.length+ys.length))).toList) hoe hne hol hs.newsLen
    have e:(olds++news).toArray++Builtin.zeroCells zv.cells (grownCap w (L.length+ys.length) sCap E - (L.length+ys.length))=(olds++news++(Builtin.zeroCells zv.cells (grownCap w (L.length+ys.length) sCap E - (L.length+ys.length))).toList).toArray:=by
      apply Array.ext'
      simp
    rw [e]
    exact this
theorem EGRel.mono {R R':PV→Value→Prop} {sz:Nat} {els:List PV} {arr:Array Value} (h:EGRel R sz els arr) (hr:∀ v u,R v u→R' v u):EGRel R' sz els arr :=
  ⟨h.len,h.size,fun i j e cv he hj=>let ⟨u,a,b,d⟩:=h.cell i j e cv he hj;⟨u,a,b,hr _ _ d⟩⟩
theorem fits_grown (w:World) (ob:Obj) (o sz cap:Nat):Fits w (w.drew.alloc ob) (some ⟨some w.heap.size,o,sz,cap⟩):=Ym w.drew ob o sz cap
theorem vs_empty {L:List PV} (h:L.isEmpty=true):L=[]:=by cases L<;>simp_all
theorem ok_append (h:FrRel g c w fr a) {s bytes:Nat} {cl:Bool} {x y:PX} {x' y':Operand} {t tx E e':TypeId} {i:TypeInfo} {zv:Value} (ho:o.op=.call { callee:=.builtin .append,args:=#[x',y'],argTypes:=#[t,tx] })
    (ht:g.P.underlying t=some (.slice E)) (hk:g.P.underlying tx=some (.slice e')) (hi:g.P.info? E=some i) (hz:i.zero=some zv) (hzs:zv.cells.size=i.size) (hby:i.bytes=bytes) (hx:g.matchX x x'=true) (hy:g.matchX y y'=true)
    (hs:stepOp g.E callE yieldE o.dst (.append s cl i.size bytes x y) fr=some fr'):OpOK g c w fr fr' a o.dst ((execOp a.eval o).run g.P w):=by
  have v1:=h.x hx
  have v2:=h.x hy
  obtain ⟨u,hu⟩:∃ u,u=a.eval x':=⟨_,rfl⟩
  rw [← hu] at v1
  subst hby
  have hex:∀ {r:Result Value},(Builtin.append_ #[t,tx] o.type #[u,a.eval y']).run g.P w=r→(execOp a.eval o).run g.P w=(match r with|.ok v w'=>.ok (.value v) w'|.halt e w'=>.halt e w'):=by
    intro r hr
    simp [execOp,ho,resolve,invoke,builtin,← hu,hr]
    cases r<;>rfl
  simp only [stepOp] at hs
  split at hs
  case h_1=>simp at hs
  rename_i ys hys
  split at hs
  · simp at hs
  rename_i hszy
  have hszy:headSz i.size ys=true:=by simpa using hszy
  split at hs
  ·
    rename_i f L hL
    split at hs
    case isFalse=>simp at hs
    rename_i hc
    obtain ⟨hf,hszL,hemp,hb,hm,hcl⟩:=hc
    rw [hL] at v1
    obtain ⟨olds,s1,s2,base,cap,e1⟩:=src_of h (cl:=true) hk v1 (ys:=L) rfl hszL rfl
    obtain ⟨news,s3,s4,_⟩:=src_of h (cl:=cl) hk v2 hys hszy hcl
    have hcap:cap=L.length∨(base=none∧L=[]∧cap=0):=by
      have:=v1.vs_inv
      rw [e1] at this
      cases this with
      | vsNone=>exact .inr ⟨rfl,rfl,rfl⟩
      | vsE=>exact .inl rfl
      | vs _ _ b q cap sz' uf hc hcap hclip hs hcell hh =>
        cases f with
        | clip=>exact .inl (hclip rfl)
        | nil=>exact absurd rfl hc
        | any=>simp [Fl.full] at hf
        | nn=>simp [Fl.full] at hf
    have hcap:cap=L.length:=by
      rcases hcap with h1|⟨_,h2,h3⟩
      · exact h1
      · rw [h3,h2];rfl
    refine OpOK.lay h hs fun k pv ob hR hf'=>?_
    simp only [Option.some.injEq,Prod.mk.injEq] at hf'
    obtain ⟨rfl,rfl⟩:=hf'
    cases hy0:ys with
    | nil =>
      have hL0:L=[]:=by rw [hy0] at hemp;simpa using hemp
      subst hL0
      rw [hy0] at s3
      have hr:=run_append_none (ty:=o.type) ht hi base (sLen:=0) (sCap:=cap) (by omega) s3
      subst hcap
      refine ⟨.slice base 0 0,w,⟨none,0,i.size,0⟩,?_,More.refl w,(fun q b hq hb=>by simp only [Option.some.injEq] at hq;subst hq;simp at hb),⟨Ctx.lay_gen_self _ _ _ _,fun q hq=>?_⟩,?_⟩
      · have:=hex (r:=.ok (.slice base 0 0) w) (by rw [e1];exact hr)
        exact this
      · rw [Ctx.lay_obj_self] at hq
        simp only [Option.some.injEq] at hq
        subst hq
        exact ⟨rfl,fun _=>⟨rfl,rfl⟩,Nat.le_refl _,fun i e he=>by simp at he,fun b hb=>by simp at hb⟩
      · cases base with
        | none=>exact .slNil _ _ _ (by rw [Ctx.lay_gen_self];exact Nat.le_refl _) (Ctx.lay_obj_self _ _ _ _) rfl
        | some q =>
          exact .slE _ _ _ _ q (by rw [Ctx.lay_gen_self];exact Nat.le_refl _) (Ctx.lay_obj_self _ _ _ _) rfl
    | cons y0 r0 =>
      rw [← hy0]
      have hpos:0<ys.length:=by rw [hy0];simp
      obtain ⟨arr,cap',hrun,hc1,hc2,hrel⟩:=append_grow (ty:=o.type) (cl:=cl) (L:=L) (ys:=ys) (base:=base) (sCap:=cap) ht hi hz hzs (by rw [← e1];exact s1.cellsD) s1.newsLen (s2.mono fun v u hv=>by cases cl;exact CRel.v (cl:=true) hv;exact hv) s3 s4 (by omega) hb hm
      have hM:=More.grown w (.cells arr E)
      have hp:=fits_grown w (.cells arr E) 0 i.size cap'
      have hS:=Yg hM hR hp
      refine ⟨.slice (some ⟨w.heap.size,0,none⟩) (L.length+ys.length) cap',_,_,?_,hM,hp,⟨Ctx.lay_gen_self _ _ _ _,fun q hq=>?_⟩,?_⟩
      · exact hex (r:=.ok _ _) (by rw [e1];exact hrun)
      · rw [Ctx.lay_obj_self] at hq
        simp only [Option.some.injEq] at hq
        subst hq
        exact Yl (hrel.mono fun v u hv=>CRel.step hS h.wf hv) (Z2 w.drew _) (by simpa using hc1) hc2
      · have:=VRel.sl (c:=c.lay (fr.nm s) k (some ⟨some w.heap.size,0,i.size,cap'⟩)) (w:=w.drew.alloc (.cells arr E)) (fr.nm s) k 0 (L.length+ys.length) _ w.heap.size (by rw [Ctx.lay_gen_self];exact Nat.le_refl _) (Ctx.lay_obj_self _ _ _ _) rfl (by simpa using hc1)
        simpa using this
  ·
    rename_i n gg off len hL
    split at hs
    case h_2=>simp at hs
    rename_i el g' cl' osz hob
    split at hs
    case isFalse=>simp at hs
    rename_i hc
    obtain ⟨rfl,rfl,hcl⟩:=hc
    rw [hL] at v1
    obtain ⟨p,hp,hM,hx3⟩:=sl_live h.heap v1 hob
    obtain ⟨news,s3,s4,_⟩:=src_of h (cl:=cl') hk v2 hys hszy hcl
    have hgen:=(h.heap n _ hob).1
    have hpsz:=hM.osz
    split at hs
    ·
      rename_i hle
      simp only [Option.some.injEq] at hs
      subst hs
      have hcap:=hM.cap
      rcases hx3 with ⟨hb,rfl,rfl,e1⟩|⟨b,hb,hlc,e1⟩|⟨rfl,hoff,q1,e1⟩
      · have hel:=(hM.nil hb).1
        have hy0:ys=[]:=by rw [hel] at hle;exact List.eq_nil_of_length_eq_zero (by simpa using hle)
        subst hy0
        have hr:=run_append_none (ty:=o.type) ht hi none (sLen:=0) (sCap:=0) (Nat.le_refl _) s3
        have hredo:Redo c w w n p p gg:=⟨hp,.inr ⟨hgen,rfl⟩,Nat.le_refl _,rfl,rfl,fun _ _ _=>rfl,fun b hb=>.inl hb⟩
        refine ⟨_,_,_,.inl (hex (r:=.ok (.slice none 0 0) w) (by rw [e1];exact hr)),hredo.step,FrRel.put (h.redo hredo hob ?_) o.dst ?_⟩
        · have:=(h.heap n _ hob)
          simpa using ObRel.keep hredo.step h.wf (by rw [Ctx.lay_obj_self,hp]) (by rw [Ctx.lay_gen_self,hgen]) (fun _ _ _ _=>rfl) this
        · simpa using VRel.slNil (c:=c.lay n gg (some p)) n gg p (by rw [Ctx.lay_gen_self];exact Nat.le_refl _) (Ctx.lay_obj_self _ _ _ _) hb
      · obtain ⟨arr,E',ha,hsize,_⟩:=hM.row b hb
        have hnl:=s3.newsLen
        have hks:(off+len+ys.length)*i.size≤p.cap*i.size:=Nat.mul_le_mul_right _ (by omega)
        rw [Nat.add_mul,Nat.add_mul] at hks
        rw [hpsz] at hsize e1
        have hq:p.base+off*i.size+len*i.size+news.length≤arr.size:=by omega
        have hr:=run_append_at (ty:=o.type) ht hi s3 (sLen:=len) (sCap:=p.cap - off) (off:=p.base+off*i.size) (by omega) ha hq
        have hredo:Redo c w (w.setRow b (arr.toList.take (p.base+off*i.size+len*i.size)++news++arr.toList.drop (p.base+off*i.size+len*i.size+news.length)).toArray) n p p gg:=setRow_redo hp hb (Nat.le_of_eq hgen) _
        refine ⟨_,_,_,.inl (hex (r:=.ok _ _) (by rw [e1];exact hr)),hredo.step,FrRel.put (h.redo hredo hob (?_:ObRel g.MC _ _ n (.mem _ gg cl' i.size))) o.dst ?_⟩
        · refine ⟨Ctx.lay_gen_self _ _ _ _,fun q hq'=>?_⟩
          rw [Ctx.lay_obj_self] at hq'
          simp only [Option.some.injEq] at hq'
          subst hq'
          have hget:∀ k,(el.take (off+len)++ys++el.drop (off+len+ys.length))[k]?=if off+len≤k∧k<off+len+ys.length then ys[k - (off+len)]? else el[k]?:=seg_get el ys (off+len) hle
          refine memRel_write hM hb ha hq ?_ (fun k e he=>?_) (fun v u hv=>CRel.step hredo.step h.wf hv) (fun k j e cv he hj=>?_)
          · simp only [List.length_append,List.length_take,List.length_drop];omega
          · rw [hget] at he
            split at he
            · rw [hpsz];exact s4.len _ e he
            · exact hM.sz k e he
          · rw [hget] at he
            split at he
            · rename_i hin
              obtain ⟨z,z1,z2,z3⟩:=s4.cell _ j e cv he hj
              have hjl:j<i.size:=by have:=s4.len _ e he;have:=Zb hj;omega
              have e3:k*p.sz=off*i.size+len*i.size+(k - (off+len))*i.size:=by rw [hpsz,← Nat.add_mul,← Nat.add_mul];congr 1;omega
              have e4:(k - (off+len)+1)*i.size≤ys.length*i.size:=Nat.mul_le_mul_right _ (by omega)
              rw [Nat.add_mul,Nat.one_mul] at e4
              refine .inl ⟨by omega,by omega,z,?_,z2,z3⟩
              rw [List.getElem?_toArray] at z1
              rw [← z1]
              congr 1
              omega
            · rename_i hin
              refine .inr ⟨?_,e,he,hj⟩
              have hjl:j<p.sz:=by have:=hM.sz k e he;have:=Zb hj;omega
              rw [hpsz] at hjl ⊢
              rcases Nat.lt_or_ge k (off+len) with hlt|hge
              · left
                have:(k+1)*i.size≤(off+len)*i.size:=Nat.mul_le_mul_right _ (by omega)
                rw [Nat.add_mul,Nat.one_mul,Nat.add_mul] at this
                omega
              · right
                have:(off+len+ys.length)*i.size≤k*i.size:=Nat.mul_le_mul_right _ (by omega)
                rw [Nat.add_mul,Nat.add_mul] at this
                omega
        · have:=VRel.sl (c:=c.lay n gg (some p)) (w:=w.setRow b (arr.toList.take (p.base+off*i.size+len*i.size)++news++arr.toList.drop (p.base+off*i.size+len*i.size+news.length)).toArray) n gg off (len+ys.length) p b (by rw [Ctx.lay_gen_self];exact Nat.le_refl _) (Ctx.lay_obj_self _ _ _ _) hb (by omega)
          rw [hpsz] at this
          exact this
      · have hy0:ys=[]:=List.eq_nil_of_length_eq_zero (by omega)
        subst hy0
        have hr:=run_append_none (ty:=o.type) ht hi (some q1) (sLen:=0) (sCap:=0) (Nat.le_refl _) s3
        have hredo:Redo c w w n p p gg:=⟨hp,.inr ⟨hgen,rfl⟩,Nat.le_refl _,rfl,rfl,fun _ _ _=>rfl,fun b hb=>.inl hb⟩
        refine ⟨_,_,_,.inl (hex (r:=.ok (.slice (some q1) 0 0) w) (by rw [e1];exact hr)),hredo.step,FrRel.put (h.redo hredo hob ?_) o.dst ?_⟩
        · have:=(h.heap n _ hob)
          simpa using ObRel.keep hredo.step h.wf (by rw [Ctx.lay_obj_self,hp]) (by rw [Ctx.lay_gen_self,hgen]) (fun _ _ _ _=>rfl) this
        · simpa using VRel.slE (c:=c.lay n gg (some p)) n gg off p q1 (by rw [Ctx.lay_gen_self];exact Nat.le_refl _) (Ctx.lay_obj_self _ _ _ _) hoff
    ·
      rename_i hnle
      split at hs
      case isFalse=>simp at hs
      rename_i hc
      obtain ⟨rfl,hll,hb48,hm⟩:=hc
      simp only [Option.some.injEq] at hs
      subst hs
      have hpos:0<ys.length:=by omega
      have hcap:=hM.cap
      have hlt:c.gen n<gg+ys.length:=by omega
      by_cases hroom:len+ys.length≤p.cap
      ·
        obtain ⟨b,hb⟩:∃ b,p.blk=some b:=by
          cases hpb:p.blk with
          | none=>have:=(hM.nil hpb).2;omega
          | some b=>exact ⟨b,rfl⟩
        have e1:u=.slice (some ⟨b,p.base,none⟩) len p.cap:=by
          rcases hx3 with ⟨hb',_⟩|⟨b',hb',_,e1⟩|⟨_,hoff,_,_⟩
          · rw [hb] at hb';cases hb'
          · rw [hb] at hb'
            simp only [Option.some.injEq] at hb'
            subst hb'
            simpa using e1
          · omega
        obtain ⟨arr,E',ha,hsize,_⟩:=hM.row b hb
        have hnl:=s3.newsLen
        have hks:(len+ys.length)*i.size≤p.cap*i.size:=Nat.mul_le_mul_right _ hroom
        rw [Nat.add_mul] at hks
        rw [hpsz] at hsize
        have hq:p.base+len*i.size+news.length≤arr.size:=by omega
        have hr:=run_append_at (ty:=o.type) ht hi s3 (sLen:=len) (sCap:=p.cap) (off:=p.base) hroom ha hq
        have hredo:Redo c w (w.setRow b (arr.toList.take (p.base+len*i.size)++news++arr.toList.drop (p.base+len*i.size+news.length)).toArray) n p p (gg+ys.length):=setRow_redo hp hb (Nat.le_of_lt hlt) _
        refine ⟨_,_,_,.inl (hex (r:=.ok _ _) (by rw [e1];exact hr)),hredo.step,FrRel.put (h.redo hredo hob (?_:ObRel g.MC _ _ n (.mem _ (gg+ys.length) cl' i.size))) o.dst ?_⟩
        · refine ⟨Ctx.lay_gen_self _ _ _ _,fun q hq'=>?_⟩
          rw [Ctx.lay_obj_self] at hq'
          simp only [Option.some.injEq] at hq'
          subst hq'
          have hget:∀ k,(el.take len++ys)[k]?=if k<len then el[k]? else ys[k - len]?:=by
            intro k
            rw [List.getElem?_append,List.length_take,Nat.min_eq_left hll]
            split
            · rename_i hk;rw [List.getElem?_take,if_pos hk]
            · rfl
          refine memRel_write hM hb ha hq ?_ (fun k e he=>?_) (fun v u hv=>CRel.step hredo.step h.wf hv) (fun k j e cv he hj=>?_)
          · simp only [List.length_append,List.length_take];omega
          · rw [hget] at he
            split at he
            · exact hM.sz k e he
            · rw [hpsz];exact s4.len _ e he
          · rw [hget] at he
            split at he
            · rename_i hin
              refine .inr ⟨?_,e,he,hj⟩
              have hjl:j<p.sz:=by have:=hM.sz k e he;have:=Zb hj;omega
              rw [hpsz] at hjl ⊢
              left
              have:(k+1)*i.size≤len*i.size:=Nat.mul_le_mul_right _ (by omega)
              rw [Nat.add_mul,Nat.one_mul] at this
              omega
            · rename_i hin
              obtain ⟨z,z1,z2,z3⟩:=s4.cell _ j e cv he hj
              have hjl:j<i.size:=by have:=s4.len _ e he;have:=Zb hj;omega
              have hkl:=Zb he
              have e3:k*p.sz=len*i.size+(k - len)*i.size:=by rw [hpsz,← Nat.add_mul];congr 1;omega
              have e4:(k - len+1)*i.size≤ys.length*i.size:=Nat.mul_le_mul_right _ (by omega)
              rw [Nat.add_mul,Nat.one_mul] at e4
              refine .inl ⟨by omega,by omega,z,?_,z2,z3⟩
              rw [List.getElem?_toArray] at z1
              rw [← z1]
              congr 1
              omega
        · have:=VRel.sl (c:=c.lay n (gg+ys.length) (some p)) (w:=w.setRow b (arr.toList.take (p.base+len*i.size)++news++arr.toList.drop (p.base+len*i.size+news.length)).toArray) n (gg+ys.length) 0 (len+ys.length) p b (by rw [Ctx.lay_gen_self];exact Nat.le_refl _) (Ctx.lay_obj_self _ _ _ _) hb (by omega)
          simpa using this
      ·
        have hLe:elems fr.heap (.sl n gg 0 len)=some (el.take len):=by simp [elems,hob,hll]
        have hszo:headSz i.size (el.take len)=true:=by
          cases hel:el.take len with
          | nil=>rfl
          | cons e0 r0 =>
            have h0:el[0]?=some e0:=by
              have h1:(el.take len)[0]?=some e0:=by rw [hel];rfl
              rw [List.getElem?_take] at h1
              split at h1
              · exact h1
              · cases h1
            have:=hM.sz 0 e0 h0
            simp only [headSz]
            rw [this,hpsz]
            exact Nat.beq_refl _
        have htl:(el.take len).length=len:=by rw [List.length_take];omega
        obtain ⟨olds,s1,s2,base,cap,e1⟩:=src_of h (cl:=cl') hk v1 hLe hszo (by cases cl'<;>simp [cleanFor,hob])
        rw [htl] at e1
        have hcp:cap≤p.cap:=by
          rcases hx3 with ⟨hb,_,rfl,e2⟩|⟨b,hb,hlc,e2⟩|⟨rfl,hoff,q1,e2⟩
          · rw [e1] at e2;simp only [Value.slice.injEq] at e2;omega
          · rw [e1] at e2;simp only [Value.slice.injEq] at e2;omega
          · rw [e1] at e2;simp only [Value.slice.injEq] at e2;omega
        obtain ⟨arr,cap',hrun,hc1,hc2,hrel⟩:=append_grow (ty:=o.type) (cl:=cl') (L:=el.take len) (ys:=ys) (base:=base) (sCap:=cap) ht hi hz hzs (by rw [htl,← e1];have:=s1.cellsD;rw [htl] at this;exact this) s1.newsLen s2 s3 s4 (by rw [htl];omega) (by rw [htl];exact hb48) (by rw [htl];exact hm)
        rw [htl] at hrun hc1
        have hredo:Redo c w (w.drew.alloc (.cells arr E)) n p ⟨some w.heap.size,0,i.size,cap'⟩ (gg+ys.length):=by
          have hMo:=More.grown w (.cells arr E)
          refine ⟨hp,.inl hlt,hMo.size,hMo.os,hMo.out,fun b hb _=>hMo.same b hb,fun b hb=>.inr ?_⟩
          exact fits_grown w (.cells arr E) 0 i.size cap' _ b rfl hb
        refine ⟨_,_,_,.inl (hex (r:=.ok _ _) (by rw [e1];exact hrun)),hredo.step,FrRel.put (h.redo hredo hob (?_:ObRel g.MC _ _ n (.mem _ (gg+ys.length) cl' i.size))) o.dst ?_⟩
        · refine ⟨Ctx.lay_gen_self _ _ _ _,fun q hq'=>?_⟩
          rw [Ctx.lay_obj_self] at hq'
          simp only [Option.some.injEq] at hq'
          subst hq'
          exact Yl (hrel.mono fun v u hv=>CRel.step hredo.step h.wf hv) (Z2 w.drew _) (by rw [List.length_append,htl];exact hc1) hc2
        · have:=VRel.sl (c:=c.lay n (gg+ys.length) (some ⟨some w.heap.size,0,i.size,cap'⟩)) (w:=w.drew.alloc (.cells arr E)) n (gg+ys.length) 0 (len+ys.length) _ w.heap.size (by rw [Ctx.lay_gen_self];exact Nat.le_refl _) (Ctx.lay_obj_self _ _ _ _) rfl (by simpa using hc1)
          simpa using this
  · simp at hs
theorem run_append_zero {P:Program} (w:World) (t tx ty e:TypeId) (i:TypeInfo) (z:Value) (kk:IntKind) (ht:P.underlying t=some (.slice e)) (hk:P.underlying tx=some (.int kk)) (hi:P.info? e=some i) (hz:i.zero=some z) (base:Option Addr) (n:Int) (h0:0<n) (hn:n≤140737488355328)
    (hold:(Builtin.firstCells i.size 0 (.slice base 0 0)).run P w.drew=.ok #[] w.drew) (hfit:Builtin.nextslicecap n.toNat 0*i.bytes≤281474976710656) (hb:n*i.bytes≤281474976710656) :
    (Builtin.append_ #[t,tx] ty #[.slice base 0 0,.int .i64 n]).run P w =
      .ok (.slice (some ⟨w.heap.size,0,none⟩) n.toNat (grownCap w n.toNat 0 e))
        (w.drew.alloc (.cells ((if n.toNat*i.size=0 then #[] else Builtin.zeroCells z.cells n.toNat)++Builtin.zeroCells z.cells (grownCap w n.toNat 0 e - n.toNat)) e)):=by
  have hw:IntKind.i64.wrap n=n:=by
    simp [IntKind.wrap,IntKind.signed,IntKind.bits]
    omega
  have h1:¬ n<0:=by omega
  have h2:¬ (281474976710656<n*i.bytes):=by omega
  have h3:¬ (n.toNat≤0):=by omega
  have h4:¬ (9223372036854775807<(n.toNat:Int)):=by omega
  have h5:¬ (281474976710656<Builtin.nextslicecap n.toNat 0*i.bytes):=by omega
  have h6:n.toNat≠0:=by omega
  by_cases hs:n.toNat*i.size=0
  · simp [Builtin.append_,run_underlying ht,run_underlying hk,sizeOf,typeInfo,zeroValue,hi,hz,asInt,asIntOf,hw,h1,h2,h5,hs,Question.forced,hold,newRow,grownCap]
    rw [if_neg (by omega),if_neg (by omega)]
  · simp [Builtin.append_,run_underlying ht,run_underlying hk,sizeOf,typeInfo,zeroValue,hi,hz,asInt,asIntOf,hw,h1,h2,h5,hs,Question.forced,hold,newRow,grownCap]
    rw [if_neg (by omega),if_neg (by omega)]
theorem ok_appz (h:FrRel g c w fr a) {s bytes:Nat} {cl:Bool} {z:PV} {x n:PX} {x' n':Operand} {t tx E:TypeId} {kk:IntKind} {i:TypeInfo} {zv:Value} (ho:o.op=.call { callee:=.builtin .append,args:=#[x',n'],argTypes:=#[t,tx] })
    (ht:g.P.underlying t=some (.slice E)) (hk:g.P.underlying tx=some (.int kk)) (hi:g.P.info? E=some i) (hz:i.zero=some zv) (hzc:constZ z zv.cells=true) (hzs:zv.cells.size=i.size) (hby:i.bytes=bytes) (hx:g.matchX x x'=true) (hn:g.matchX n n'=true)
    (hs:stepOp g.E callE yieldE o.dst (.appz s cl bytes z x n) fr=some fr'):OpOK g c w fr fr' a o.dst ((execOp a.eval o).run g.P w):=by
  have v1:=h.x hx
  have v2:=h.x hn
  obtain ⟨u,hu⟩:∃ u,u=a.eval x':=⟨_,rfl⟩
  rw [← hu] at v1
  subst hby
  simp only [stepOp] at hs
  split at hs
  case h_2=>simp at hs
  rename_i f L k hL hk2
  rw [hk2] at v2
  have v2:=v2.int_inv
  have hex:∀ {r:Result Value},(Builtin.append_ #[t,tx] o.type #[u,.int .i64 k]).run g.P w=r→(execOp a.eval o).run g.P w=(match r with|.ok v w'=>.ok (.value v) w'|.halt e w'=>.halt e w'):=by
    intro r hr
    simp [execOp,ho,resolve,invoke,builtin,← hu,v2,hr]
    cases r<;>rfl
  split at hs
  case isFalse=>simp at hs
  rename_i hc
  obtain ⟨hf,hemp,h0,hb,hm,hcl⟩:=hc
  have hL0:=vs_empty hemp
  subst hL0
  rw [hL] at v1
  obtain ⟨olds,s1,s2,base,cap,e1⟩:=src_of h (cl:=true) (sz:=i.size) ht v1 (ys:=[]) rfl rfl rfl
  have hcap:cap=0:=by
    have:=v1.vs_inv
    rw [e1] at this
    cases this with
    | vsNone=>rfl
    | vsE=>rfl
    | vs _ _ b q cap sz' uf hc hcap hclip hs hcell hh =>
      cases f with
      | clip=>exact hclip rfl
      | nil=>exact absurd rfl hc
      | any=>simp [Fl.full] at hf
      | nn=>simp [Fl.full] at hf
  subst hcap
  have ho0:olds=[]:=List.eq_nil_of_length_eq_zero (by simpa using s1.newsLen)
  subst ho0
  have hold:(Builtin.firstCells i.size 0 (.slice base 0 0)).run g.P w.drew=.ok #[] w.drew:=by
    have:=s1.cellsD
    rw [e1] at this
    exact this
  refine OpOK.lay h hs fun k' pv ob hR hf'=>?_
  simp only [Option.some.injEq,Prod.mk.injEq] at hf'
  obtain ⟨rfl,rfl⟩:=hf'
  have hkb:(k.toNat:Int)=k:=by omega
  have hfit:=growslice_fits (bytes:=i.bytes) (need:=k.toNat) (old:=0) (by omega) (by
    have:((k.toNat*i.bytes:Nat):Int)≤140737488355328:=by rw [Int.natCast_mul,hkb];exact hb
    omega)
  have hrun:=run_append_zero (P:=g.P) w t tx o.type E i zv kk ht hk hi hz base k h0 hm hold hfit (by omega)
  obtain ⟨cap',hcap'⟩:∃ c',c'=grownCap w k.toNat 0 E:=⟨_,rfl⟩
  have hge:=grownCap_ge w k.toNat 0 E
  rw [← hcap'] at hrun hge
  obtain ⟨arr,harr⟩:∃ r,r=(if k.toNat*i.size=0 then #[] else Builtin.zeroCells zv.cells k.toNat)++Builtin.zeroCells zv.cells (cap' - k.toNat):=⟨_,rfl⟩
  rw [← harr] at hrun
  have hzsz:(if k.toNat*i.size=0 then #[] else Builtin.zeroCells zv.cells k.toNat).size=k.toNat*i.size:=by
    split
    · rename_i h;rw [h];rfl
    · rw [size_zeroCells,hzs]
  have hasz:arr.size=cap'*i.size:=by
    rw [harr,Array.size_append,hzsz,size_zeroCells,hzs,← Nat.add_mul]
    congr 1;omega
  have hM:=More.grown w (.cells arr E)
  have hp:=fits_grown w (.cells arr E) 0 i.size cap'
  have hS:=Yg hM hR hp
  obtain ⟨z1,z2,z3⟩:=constZ_spec hzc (imm:=c.imm) (w:=w.drew.alloc (.cells arr E))
  rw [z1.trans hzs]
  refine ⟨.slice (some ⟨w.heap.size,0,none⟩) k.toNat cap',w.drew.alloc (.cells arr E),⟨some w.heap.size,0,i.size,cap'⟩,hex (r:=.ok _ _) (by rw [e1];exact hrun),hM,hp,⟨Ctx.lay_gen_self _ _ _ _,fun q hq=>?_⟩,?_⟩
  · rw [Ctx.lay_obj_self] at hq
    simp only [Option.some.injEq] at hq
    subst hq
    refine Yl (EGRel.mk (R:=CRel cl (c.lay (fr.nm s) k' (some ⟨some w.heap.size,0,i.size,cap'⟩)) (w.drew.alloc (.cells arr E))) (fun k2 e he=>?_) (by rw [hasz,List.length_replicate];exact Nat.mul_le_mul_right _ hge) fun k2 j e cv he hj=>?_) (Z2 w.drew _) (by rw [List.length_replicate];exact hge) (by rw [hasz];exact Nat.le_refl _)
    · rw [List.getElem?_replicate] at he
      split at he<;>simp only [Option.some.injEq,reduceCtorEq] at he
      subst he
      exact z1.trans hzs
    · rw [List.getElem?_replicate] at he
      split at he<;>simp only [Option.some.injEq,reduceCtorEq] at he
      rename_i hk'
      subst he
      have hj':j<i.size:=by have:=Zb hj;omega
      have hlt:(k2+1)*i.size≤k.toNat*i.size:=Nat.mul_le_mul_right _ (by omega)
      rw [Nat.add_mul,Nat.one_mul] at hlt
      have hjz:j<zv.cells.size:=by omega
      have hmod:(k2*i.size+j) % zv.cells.size=j:=by rw [hzs,Nat.add_comm,Nat.add_mul_mod_self_right,Nat.mod_eq_of_lt hj']
      refine ⟨zv.cells[j],?_,z2 j _ (by simp [hjz]),?_⟩
      · rw [harr,Array.getElem?_append_left (by rw [hzsz];omega),if_neg (by omega)]
        unfold Builtin.zeroCells
        rw [Array.getElem?_map,Array.getElem?_range,if_pos (by rw [hzs];omega)]
        simp [hmod,hjz]
      · have:=z3 j cv zv.cells[j] hj (by simp [hjz])
        cases cl
        · exact .i _ _ this
        · exact this
  · have:=VRel.sl (c:=c.lay (fr.nm s) k' (some ⟨some w.heap.size,0,i.size,cap'⟩)) (w:=w.drew.alloc (.cells arr E)) (fr.nm s) k' 0 k.toNat _ w.heap.size (by rw [Ctx.lay_gen_self];exact Nat.le_refl _) (Ctx.lay_obj_self _ _ _ _) rfl (by simpa using hge)
    simpa using this
theorem ok_appf (h:FrRel g c w fr a) {bytes:Nat} {x y:PX} {x' y':Operand} {t tx E e':TypeId} {i:TypeInfo} {zv:Value} (ho:o.op=.call { callee:=.builtin .append,args:=#[x',y'],argTypes:=#[t,tx] })
    (ht:g.P.underlying t=some (.slice E)) (hk:g.P.underlying tx=some (.slice e')) (hi:g.P.info? E=some i) (hz:i.zero=some zv) (hzs:zv.cells.size=i.size) (hby:i.bytes=bytes) (hx:g.matchX x x'=true) (hy:g.matchX y y'=true)
    (hs:stepOp g.E callE yieldE o.dst (.appf i.size bytes x y) fr=some fr'):OpOK g c w fr fr' a o.dst ((execOp a.eval o).run g.P w):=by
  have v1:=h.x hx
  have v2:=h.x hy
  obtain ⟨u,hu⟩:∃ u,u=a.eval x':=⟨_,rfl⟩
  rw [← hu] at v1
  subst hby
  have hex:∀ {r:Result Value},(Builtin.append_ #[t,tx] o.type #[u,a.eval y']).run g.P w=r→(execOp a.eval o).run g.P w=(match r with|.ok v w'=>.ok (.value v) w'|.halt e w'=>.halt e w'):=by
    intro r hr
    simp [execOp,ho,resolve,invoke,builtin,← hu,hr]
    cases r<;>rfl
  simp only [stepOp] at hs
  split at hs
  case h_2=>simp at hs
  rename_i f L f2 ys hL hY
  split at hs<;>simp only [Option.some.injEq,reduceCtorEq] at hs
  rename_i hc
  obtain ⟨hf,hszy,hszL,hpos,hb,hm⟩:=hc
  subst hs
  rw [hL] at v1
  rw [hY] at v2
  obtain ⟨olds,s1,s2,base,cap,e1⟩:=src_of h (cl:=true) hk v1 (ys:=L) rfl hszL rfl
  obtain ⟨news,s3,s4,_⟩:=src_of h (cl:=true) hk v2 (ys:=ys) rfl hszy rfl
  have hcap:cap=L.length∨(base=none∧L=[]∧cap=0):=by
    have:=v1.vs_inv
    rw [e1] at this
    cases this with
    | vsNone=>exact .inr ⟨rfl,rfl,rfl⟩
    | vsE=>exact .inl rfl
    | vs _ _ b q cap sz' uf hc hcap hclip hs hcell hh =>
      cases f with
      | clip=>exact .inl (hclip rfl)
      | nil=>exact absurd rfl hc
      | any=>simp [Fl.full] at hf
      | nn=>simp [Fl.full] at hf
  have hcap:cap=L.length:=by
    rcases hcap with h1|⟨_,h2,h3⟩
    · exact h1
    · rw [h3,h2];rfl
  obtain ⟨arr,cap',hrun,hc1,hc2,hrel⟩:=append_grow (ty:=o.type) (cl:=true) (L:=L) (ys:=ys) (base:=base) (sCap:=cap) ht hi hz hzs (by rw [← e1];exact s1.cellsD) s1.newsLen s2 s3 s4 (by omega) hb hm
  have hM:=More.grown w (.cells arr E)
  have hE:Ext c w (c.addImm w.heap.size) (w.drew.alloc (.cells arr E)) :=
    ⟨hM.size,hM.os,hM.out,rfl,rfl,fun b hb=>.inl hb,fun b hb=>hb.imp id fun e=>by subst e;exact ⟨Nat.le_refl _,by simp⟩,hM.same⟩
  refine OpOK.ext h hE _ (v:=.slice (some ⟨w.heap.size,0,none⟩) (L.length+ys.length) cap') ?_ (.i _ _ ?_)
  · exact hex (r:=.ok _ _) (by rw [e1];exact hrun)
  · refine vs_of_row (sz:=i.size) (n:=L.length+ys.length) (b:=w.heap.size) (arr:=arr) (E:=E) (fz:=(0,0)) ?_ (Z2 w.drew _) (.inr rfl) (by simp) hc1 (by simp) (by simp)
    exact hrel.mono fun v u hv=>IRel.step hE.step h.wf hv
end Go.VI
namespace Go.VI
variable {g:PG} {c:Ctx} {w:World} {fr fr':Fr} {a:Act} {o:Oper} {callE:CallE} {yieldE:Nm→List PV→Heap→Option (PV × Heap)}
def keyOK (P:Program) (t:TypeId) (str:KSh):Bool :=
  match P.underlying t,str with
  | some (.int _),.ki=>true
  | some .string,.ks=>true
  | some (.array n e),.ka m=>Nat.beq n m&&(match P.underlying e with|some (.int _)=>true|_=>false)&&eqOK P (.parts ((List.range n).map fun j=>(j,1,.ei))) t
  | _,_=>false
theorem sameI_true:∀ {a b:List PV},sameI a b=some true→a=b∧intsL a=true
  | [],[],_=>⟨rfl,rfl⟩
  | x::r,y::s,h=>by
    unfold sameI at h
    split at h
    · rename_i e;cases e
    · rename_i a r' b s' e1 e2
      simp only [List.cons.injEq] at e1 e2
      obtain ⟨rfl,rfl⟩:=e1
      obtain ⟨rfl,rfl⟩:=e2
      split at h
      · rename_i hab
        subst hab
        obtain ⟨h1,h2⟩:=sameI_true h
        subst h1
        exact ⟨rfl,by simp [intsL,h2]⟩
      · cases h
    · cases h
  | [],_::_,h=>by simp [sameI] at h
  | _::_,[],h=>by simp [sameI] at h
theorem intsL_get:∀ {cs:List PV},intsL cs=true→∀ (i:Nat) v,cs[i]?=some v→∃ n,v=.int .i64 n
  | [],_,i,v,hv=>by simp at hv
  | x::r,h,i,v,hv=>by
    unfold intsL at h
    split at h
    · rename_i e;cases e
    · rename_i n r' e
      simp only [List.cons.injEq] at e
      obtain ⟨rfl,rfl⟩:=e
      cases i with
      | zero=>simp only [List.getElem?_cons_zero,Option.some.injEq] at hv;exact ⟨n,hv.symm⟩
      | succ i=>exact intsL_get h i v (by simpa using hv)
    · cases h
theorem ints_val {imm:Nat→Prop} {cs:List PV} {us vs:Array Value} (hc:intsL cs=true) (h1:IRel imm w (.agg cs) (.agg us)) (h2:IRel imm w (.agg cs) (.agg vs)):us=vs∧∀ (i:Nat) u,us[i]?=some u→∃ n,u=.int .i64 n:=by
  have key:∀ {us:Array Value},IRel imm w (.agg cs) (.agg us)→us.size=cs.length∧∀ (i:Nat) v,cs[i]?=some v→∃ n,v=.int .i64 n∧us[i]?=some (.int .i64 n):=by
    intro us h
    cases h with
    | agg _ _ hl _ hr =>
      refine ⟨hl.symm,fun i v hv=>?_⟩
      obtain ⟨n,rfl⟩:=intsL_get hc i v hv
      have hi:i<us.size:=hl ▸ Zb hv
      have:=hr i _ us[i] hv (by simp [hi])
      refine ⟨n,rfl,?_⟩
      rw [Array.getElem?_eq_getElem hi]
      generalize us[i]=z at this
      cases this
      rfl
  obtain ⟨a1,a2⟩:=key h1
  obtain ⟨b1,b2⟩:=key h2
  constructor
  · apply Array.ext_getElem?
    intro i
    cases hc2:cs[i]? with
    | none =>
      have hi:=List.getElem?_eq_none_iff.1 hc2
      rw [Array.getElem?_eq_none (by omega),Array.getElem?_eq_none (by omega)]
    | some v =>
      obtain ⟨n,rfl,e1⟩:=a2 i v hc2
      obtain ⟨m,e3,e2⟩:=b2 i _ hc2
      cases e3
      rw [e1,e2]
  · intro i u hu
    have hi:i<cs.length:=a1 ▸ Zl hu
    obtain ⟨n,_,e1⟩:=a2 i cs[i] (by simp [hi])
    rw [hu] at e1
    exact ⟨n,by simpa using e1⟩
theorem sameI_eqSh:∀ (n j:Nat) (a b xs ys:List PV) (r:Bool),a.length=n→xs.drop j=a→ys.drop j=b→sameI a b=some r→Ze ((List.range' j n).map fun j=>(j,1,.ei)) xs ys=some r
  | 0,j,a,b,xs,ys,r,hn,hx,hy,h=>by
    have:a=[]:=List.length_eq_zero_iff.1 hn
    subst this
    cases b with
    | nil=>simpa [sameI,Ze] using h
    | cons=>simp [sameI] at h
  | n+1,j,a,b,xs,ys,r,hn,hx,hy,h=>by
    unfold sameI at h
    split at h
    · simp at hn
    · rename_i p a' q b'
      have e0:Zi .ei ((xs.drop j).take 1) ((ys.drop j).take 1)=some (p==q):=by
        rw [hx,hy]
        show Zi .ei [PV.int .i64 p] [PV.int .i64 q]=some (p==q)
        unfold Zi
        rfl
      rw [List.range'_succ,List.map_cons,Ze,e0]
      split at h
      · rename_i hpq
        subst hpq
        have e1:(p==p)=true:=beq_self_eq_true p
        rw [e1]
        refine sameI_eqSh n (j+1) a' b' xs ys r (by simpa using hn) ?_ ?_ h
        · rw [← List.drop_drop,hx];rfl
        · rw [← List.drop_drop,hy];rfl
      · rename_i hpq
        have e1:(p==q)=false:=beq_false_of_ne hpq
        rw [e1]
        exact h
    · cases h
theorem keyOK_a {P:Program} {kt:TypeId} {m:Nat} (h:keyOK P kt (.ka m)=true):∃ e kk,P.underlying kt=some (.array m e)∧P.underlying e=some (.int kk)∧eqOK P (.parts ((List.range m).map fun j=>(j,1,.ei))) kt=true:=by
  unfold keyOK at h
  cases hu:P.underlying kt with
  | none=>simp [hu] at h
  | some d =>
    cases d<;>simp only [hu,Bool.false_eq_true,Bool.and_eq_true] at h
    rename_i n e
    obtain ⟨⟨h1,h2⟩,h3⟩:=h
    have h1:=Nat.eq_of_beq_eq_true h1
    subst h1
    split at h2
    · rename_i kk he
      exact ⟨e,kk,rfl,he,h3⟩
    · cases h2
theorem keyIs_a {m:Nat} {k:PV} (h:keyIs (.ka m) k=true):∃ cs,k=.agg cs∧cs.length=m∧intsL cs=true:=by
  cases k<;>simp only [keyIs,Bool.false_eq_true,Bool.and_eq_true] at h
  exact ⟨_,rfl,Nat.eq_of_beq_eq_true h.1,h.2⟩
theorem keySame_now {P:Program} {kt:TypeId} {str:KSh} {d:TypeDesc} {imm:Nat→Prop} {k k':PV} {u u':Value} {b:Bool} (hk:keyOK P kt str=true) (hd:P.underlying kt=some d) (h1:IRel imm w k u) (h2:IRel imm w k' u') (hs:keySame k k'=some b)
    (ht:keyIs str k=true) (hn:∀ m,str≠.ka m):Instr.sameNow d u u'=some b:=by
  unfold keySame at hs
  unfold keyOK at hk
  rw [hd] at hk
  split at hs
  · split at hs<;>simp only [Option.some.injEq,reduceCtorEq] at hs
    rename_i hkk
    subst hkk
    cases h1
    cases h2
    cases str<;>simp [keyIs] at ht
    cases d<;>simp_all [Instr.sameNow]
  · simp only [Option.some.injEq] at hs
    cases h1
    cases h2
    rename_i s1 s2
    have:(s1==s2)=b:=by
      rw [← hs]
      have hb:(s1==s2)=(s1.data==s2.data):=rfl
      rw [hb]
      by_cases e:s1.data=s2.data
      · simp [e]
      · have:s1.data.toList≠s2.data.toList:=fun h=>e (Array.ext' h)
        rw [beq_false_of_ne e,beq_false_of_ne this]
    cases str<;>simp [keyIs] at ht
    cases d<;>simp_all [Instr.sameNow]
  · cases str<;>simp [keyIs] at ht
    exact absurd rfl (hn _)
  · cases hs
theorem keySame_ask {P:Program} {kt:TypeId} {m:Nat} {c:Ctx} {k k':PV} {u u':Value} {b:Bool} (hk:keyOK P kt (.ka m)=true) (h1:IRel c.imm w k u) (h2:IRel c.imm w k' u') (hs:keySame k k'=some b)
    (ht:keyIs (.ka m) k=true):(Op.equal kt u u').run P w=.ok b w:=by
  obtain ⟨e,kk,hu,_,hq⟩:=keyOK_a hk
  obtain ⟨cs,rfl,hlen,_⟩:=keyIs_a ht
  cases h1 with
  | agg _ us hl hone hr =>
    cases k'<;>simp only [keySame,reduceCtorEq] at hs
    rename_i cs2
    cases h2 with
    | agg _ vs hl2 hone2 hr2 =>
      have hdep:(EqSh.parts ((List.range m).map fun j=>(j,1,EqSh.ei))).depth≤9999:=by
        have:∀ l:List Nat,EqSh.depthL (l.map fun j=>(j,1,EqSh.ei))=0:=by
          intro l
          induction l with
          | nil=>rfl
          | cons x r ih=>simp [EqSh.depthL,EqSh.depth,ih]
        simp [EqSh.depth,this]
      refine run_eqSh (c:=c) _ kt 9999 cs cs2 (.agg us) (.agg vs) b hq hdep ⟨_,hu,?_⟩ ⟨_,hu,?_⟩ ?_
      · exact ⟨us,rfl,hl,fun i v x hv hx=>.i _ _ (hr i v x hv hx)⟩
      · exact ⟨vs,rfl,hl2,fun i v x hv hx=>.i _ _ (hr2 i v x hv hx)⟩
      · rw [Zi,List.range_eq_range']
        exact sameI_eqSh m 0 cs cs2 cs cs2 b hlen (by simp) (by simp) hs
theorem findA_spec {A:List MapEntry→Nat→Option (Nat × Value)→Prop} {imm:Nat→Prop} {k:PV} (h0:∀ i,A [] i none)
    (h1:∀ k' x xs i,keySame k k'=some true→IRel imm w k' x.key→A (x::xs) i (some (i,x.val)))
    (h2:∀ k' x xs i r,keySame k k'=some false→IRel imm w k' x.key→A xs (i+1) r→A (x::xs) i r) :
    ∀ (es:List (PV × PV)) (xs:List MapEntry) (i:Nat) (r:Option PV),es.length=xs.length→(∀ (j:Nat) (e:PV × PV) (x:MapEntry),es[j]?=some e→xs[j]?=some x→IRel imm w e.1 x.key∧IRel imm w e.2 x.val)→findE k es=some r →
      (r=none∧A xs i none∧idxE k es=es.length∧∀ v,setE k v es=es++[(k,v)]) ∨
      ∃ (j:Nat) (e:PV × PV) (x:MapEntry),r=some e.2∧es[j]?=some e∧xs[j]?=some x∧keySame k e.1=some true∧A xs i (some (i+j,x.val))∧idxE k es=j∧∀ v,setE k v es=es.set j (k,v)
  | [],[],i,r,_,_,hf=>by
    simp only [findE,Option.some.injEq] at hf
    exact .inl ⟨hf.symm,h0 i,rfl,fun v=>rfl⟩
  | e::es,x::xs,i,r,hl,hr,hf=>by
    obtain ⟨h3,h4⟩:=hr 0 e x rfl rfl
    simp only [findE] at hf
    split at hf
    · rename_i hs
      simp only [Option.some.injEq] at hf
      exact .inr ⟨0,e,x,hf.symm,rfl,rfl,hs,h1 _ x xs i hs h3,by simp [idxE,hs],fun v=>by simp [setE,hs]⟩
    · rename_i hs
      rcases findA_spec h0 h1 h2 es xs (i+1) r (by simpa using hl) (fun j e' x' he hx=>hr (j+1) e' x' (by simpa using he) (by simpa using hx)) hf with ⟨h5,h6,h7,h8⟩|⟨j,e',x',h5,h6,h7,h8,h9,h10,h11⟩
      · exact .inl ⟨h5,h2 _ x xs i _ hs h3 h6,by simp [idxE,hs,h7],fun v=>by simp [setE,hs,h8]⟩
      · refine .inr ⟨j+1,e',x',h5,by simpa using h6,by simpa using h7,h8,h2 _ x xs i _ hs h3 ?_,by simp [idxE,hs,h10],fun v=>by simp [setE,hs,h11]⟩
        rwa [show i+(j+1)=i+1+j by omega]
    · cases hf
  | [],_::_,_,_,hl,_,_=>by simp at hl
  | _::_,[],_,_,hl,_,_=>by simp at hl
theorem run_findAsk {P:Program} {kt:TypeId} {n:Nat} {e:TypeId} (hu:P.underlying kt=some (.array n e)) (x:Value) (es:List MapEntry):(Instr.findKey kt x es).run P w=(Instr.findAsking kt x es).run P w:=by
  cases es with
  | nil=>simp [Instr.findKey,Zc P w hu,Instr.findNow,Instr.findAsking]
  | cons e es=>simp [Instr.findKey,Zc P w hu,Instr.findNow,Instr.sameNow]
theorem findKey_spec {P:Program} {kt:TypeId} {str:KSh} {d:TypeDesc} {c:Ctx} (hk:keyOK P kt str=true) (hd:P.underlying kt=some d) {k:PV} {u:Value} (h1:IRel c.imm w k u) (ht:keyIs str k=true)
    (es:List (PV × PV)) (xs:List MapEntry) (r:Option PV) (hl:es.length=xs.length) (hr:∀ (j:Nat) (e:PV × PV) (x:MapEntry),es[j]?=some e→xs[j]?=some x→IRel c.imm w e.1 x.key∧IRel c.imm w e.2 x.val) (hf:findE k es=some r) :
      (r=none∧(Instr.findKey kt u xs).run P w=.ok none w∧idxE k es=es.length∧∀ v,setE k v es=es++[(k,v)]) ∨
      ∃ (j:Nat) (e:PV × PV) (x:MapEntry),r=some e.2∧es[j]?=some e∧xs[j]?=some x∧keySame k e.1=some true∧(Instr.findKey kt u xs).run P w=.ok (some (j,x.val)) w∧idxE k es=j∧∀ v,setE k v es=es.set j (k,v):=by
  by_cases hka:∃ m,str=.ka m
  · obtain ⟨m,rfl⟩:=hka
    obtain ⟨e0,_,hu,_,_⟩:=keyOK_a hk
    have:=findA_spec (w:=w) (A:=fun xs i r=>(Instr.findAsking kt u xs i).run P w=.ok r w) (imm:=c.imm) (k:=k) (fun i=>by simp [Instr.findAsking])
      (fun k' x xs i hs hx=>by simp [Instr.findAsking,keySame_ask (c:=c) hk h1 hx hs ht])
      (fun k' x xs i r hs hx hA=>by simp [Instr.findAsking,keySame_ask (c:=c) hk h1 hx hs ht,hA]) es xs 0 r hl hr hf
    rw [run_findAsk hu]
    simpa using this
  · have hka':∀ m,str≠.ka m:=fun m e=>hka ⟨m,e⟩
    have:=findA_spec (w:=w) (A:=fun xs i r=>Instr.findNow d u xs i=some r) (imm:=c.imm) (k:=k) (fun i=>rfl)
      (fun k' x xs i hs hx=>by simp [Instr.findNow,keySame_now hk hd h1 hx hs ht hka'])
      (fun k' x xs i r hs hx hA=>by simp [Instr.findNow,keySame_now hk hd h1 hx hs ht hka',hA]) es xs 0 r hl hr hf
    have go:∀ {r},Instr.findNow d u xs 0=some r→(Instr.findKey kt u xs).run P w=.ok r w:=fun h=>by simp [Instr.findKey,Zc P w hd,h]
    rcases this with ⟨a1,a2,a3⟩|⟨j,e,x,a1,a2,a3,a4,a5,a6⟩
    · exact .inl ⟨a1,go a2,a3⟩
    · exact .inr ⟨j,e,x,a1,a2,a3,a4,go (by simpa using a5),a6⟩
theorem run_checkKey {P:Program} {kt:TypeId} {str:KSh} {b:Bool} {n:Nat} {imm:Nat→Prop} {k:PV} {u:Value} (hk:keyOK P kt str=true) (h1:IRel imm w k u) (ht:keyIs str k=true):(Instr.checkKey b (n+2) kt u).run P w=.ok () w:=by
  cases str with
  | ki =>
    cases hu:P.underlying kt with
    | none=>simp [keyOK,hu] at hk
    | some d =>
      cases d<;>simp only [keyOK,hu,Bool.false_eq_true] at hk
      simp only [Instr.checkKey,Sem.run_bind,Zc P w hu,Result.andThen_ok]
      rfl
  | ks =>
    cases hu:P.underlying kt with
    | none=>simp [keyOK,hu] at hk
    | some d =>
      cases d<;>simp only [keyOK,hu,Bool.false_eq_true] at hk
      simp only [Instr.checkKey,Sem.run_bind,Zc P w hu,Result.andThen_ok]
      rfl
  | ka m =>
    obtain ⟨e,kk,hu,he,hq⟩:=keyOK_a hk
    obtain ⟨cs,rfl,hlen,_⟩:=keyIs_a ht
    have hei:∃ i,P.info? e=some i∧(m≠0→i.size=1):=by
      rcases eqOK_p hq with ⟨fs,hu2,_⟩|⟨n2,e2,i,hu2,hi,hsz,hl2,hq2⟩
      · rw [hu] at hu2;cases hu2
      · rw [hu] at hu2;cases hu2
        refine ⟨i,hi,fun hm0=>?_⟩
        obtain ⟨m1,rfl⟩:∃ m1,m=m1+1:=⟨m - 1,by omega⟩
        rw [List.range_succ_eq_map] at hq2
        simp only [List.map_cons,eqOKA,Bool.and_eq_true,beq_iff_eq] at hq2
        exact hq2.1.1.2.symm
    obtain ⟨i,hi,hs1⟩:=hei
    cases h1 with
    | agg _ us hl hone hr =>
      rw [show n+2=(n+1)+1 from rfl,Instr.checkKey]
      simp only [Sem.run_bind,Zc P w hu,Result.andThen_ok]
      simp only [Std.Legacy.Range.forIn_eq_forIn_range',Std.Legacy.Range.size,Nat.sub_zero,Nat.add_one_sub_one,Nat.div_one]
      have each:∀ j∈List.range' 0 m,j<us.size:=fun j hj=>by
        have:=List.mem_range'.1 hj
        omega
      have hs2:∀ j∈List.range' 0 m,i.size=1:=fun j hj=>hs1 (by have:=List.mem_range'.1 hj;omega)
      generalize List.range' 0 m=is at each hs2
      induction is with
      | nil=>simp
      | cons j is ih =>
        have hj:=each j (by simp)
        have h1':=hs2 j (by simp)
        have p1:(part e us (j*i.size)).run P w=.ok us[j] w:=by
          simp [part,Yb P w he,isA,h1',hj]
        have p2:(Instr.checkKey b (n+1) e us[j]).run P w=.ok () w:=by
          simp only [Instr.checkKey,Sem.run_bind,Zc P w he,Result.andThen_ok]
          rfl
        simp only [List.forIn_cons,Sem.run_bind,Z0 P w hi,Result.andThen_ok,p1,p2,Sem.run_pure]
        exact ih (fun y hy=>each y (by simp [hy])) (fun y hy=>hs2 y (by simp [hy]))
theorem Z6 {P:Program} {b:Nat} {es:Array MapEntry} {clock:Nat} (hb:w.heap[b]?=some (.map es clock)):(getObj b).run P w=.ok (.map es clock) w:=by simp [getObj,Sem.run,hb]
theorem run_setObj_m {P:Program} {b:Nat} {es:Array MapEntry} {clock:Nat} (x:Obj) (hb:w.heap[b]?=some (.map es clock)):(setObj b x).run P w=.ok () { w with heap:=w.heap.setIfInBounds b x }:=by simp [setObj,Sem.run,hb]
theorem map_live {n:Nm} {gg:Nat} {u:Value} {es:List (PV × PV)} {clock:Nat} (hH:HRel g.MC c fr.heap w) (hv:VRel c w (.map n gg) u) (ho:hget fr.heap n=some (.map es clock gg)) :
    ∃ p b arr,c.obj n=some p∧p.blk=some b∧u=.map (some b)∧w.heap[b]?=some (.map arr clock)∧(arr.size=es.length∧clock=es.length) ∧
      ∀ (i:Nat) (e:PV × PV) (x:MapEntry),es[i]?=some e→arr[i]?=some x→(IRel c.imm w e.1 x.key∧IRel c.imm w e.2 x.val)∧x.born=i:=by
  obtain ⟨h1,h2⟩:=hH n _ ho
  cases hv with
  | i _ _ h=>cases h
  | mapStale _ _ _ hlt=>omega
  | map _ _ p b hg hp hb =>
    obtain ⟨b',arr,h3,h4,h5,h6⟩:=h2 p hp
    rw [hb] at h3
    simp only [Option.some.injEq] at h3
    subst h3
    exact ⟨p,b,arr,hp,hb,rfl,h4,h5,h6⟩
theorem keyIs_irel {str:KSh} {k:PV} {u:Value} (h:VRel c w k u) (hk:keyIs str k=true):IRel c.imm w k u:=by
  cases str<;>cases k<;>simp [keyIs] at hk
  · exact h.pure rfl
  · exact h.pure rfl
  · rename_i cs
    refine h.pure ?_
    have:∀ cs:List PV,intsL cs=true→PV.lowL 0 cs=true:=by
      intro cs
      induction cs with
      | nil=>intro _;rfl
      | cons x r ih =>
        intro h
        unfold intsL at h
        split at h
        · rename_i e;cases e
        · rename_i n r' e
          simp only [List.cons.injEq] at e
          obtain ⟨rfl,rfl⟩:=e
          simp [PV.lowL,PV.low,ih h]
        · cases h
    simp only [PV.low]
    exact this cs hk.2
theorem ok_lookup (h:FrRel g c w fr a) {str:KSh} {ok:Bool} {z:PV} {m k:PX} {m' k':Operand} {t kt et:TypeId} {d:TypeDesc} {i:TypeInfo} {zv:Value} (ho:o.op=.lookup t m' k' ok) (ht:g.P.underlying t=some (.map kt et)) (hd:g.P.underlying kt=some d)
    (hk:keyOK g.P kt str=true) (hi:g.P.info? et=some i) (hz:i.zero=some zv) (hzc:constOK z zv=true) (hm:g.matchX m m'=true) (hkx:g.matchX k k'=true)
    (hs:stepOp g.E callE yieldE o.dst (.lookup str z ok m k) fr=some fr'):OpOK g c w fr fr' a o.dst ((execOp a.eval o).run g.P w):=by
  have v1:=h.x hm
  have v2:=h.x hkx
  obtain ⟨um,hum⟩:∃ um,um=a.eval m':=⟨_,rfl⟩
  rw [← hum] at v1
  simp only [stepOp] at hs
  split at hs
  · simp at hs
  rename_i hki
  have hki:keyIs str (evX g.E fr.tmps k)=true:=by simpa using hki
  have v2i:=keyIs_irel v2 hki
  split at hs
  case h_2=>simp at hs
  rename_i es hes
  split at hs<;>simp only [Option.some.injEq,reduceCtorEq] at hs
  rename_i r hr
  subst hs
  have hcheck:∀ b,(Instr.checkKey b 10000 kt (a.eval k')).run g.P w=.ok () w:=fun b=>run_checkKey hk v2i hki
  have key:∃ (xs:Array MapEntry) (q:Option (Nat × Value)),((um=.map none∧xs=#[])∨∃ b clock,um=.map (some b)∧w.heap[b]?=some (.map xs clock))∧(Instr.findKey kt (a.eval k') xs.toList).run g.P w=.ok q w ∧
      ((r=none∧q=none)∨∃ j v u,r=some v∧q=some (j,u)∧IRel c.imm w v u):=by
    split at hes
    · rename_i hnil
      simp only [Option.some.injEq] at hes
      subst hes
      rw [hnil] at v1
      have:um=.map none:=by
        cases v1 with
        | i _ _ h=>cases h;rfl
      simp only [findE,Option.some.injEq] at hr
      exact ⟨#[],none,.inl ⟨this,rfl⟩,by simp [Instr.findKey,Zc g.P w hd,Instr.findNow],.inl ⟨hr.symm,rfl⟩⟩
    · rename_i n gg hn
      split at hes
      case h_2=>simp at hes
      rename_i es' clock g' hob
      split at hes<;>simp only [Option.some.injEq,reduceCtorEq] at hes
      rename_i hgg
      subst hgg
      subst hes
      rw [hn] at v1
      obtain ⟨p,b,arr,hp,hb,e1,ha,hsz,hrel⟩:=map_live h.heap v1 hob
      refine ⟨arr,?_⟩
      rcases findKey_spec hk hd v2i hki es' arr.toList r (by simpa using hsz.1.symm) (fun j e x he hx=>(hrel j e x he (by simpa using hx)).1) hr with ⟨h4,h5,_,_⟩|⟨j,e,x,h4,h5,h6,_,h8,_,_⟩
      · exact ⟨none,.inr ⟨b,clock,e1,ha⟩,h5,.inl ⟨h4,rfl⟩⟩
      · exact ⟨_,.inr ⟨b,clock,e1,ha⟩,h8,.inr ⟨_,_,_,h4,rfl,(hrel j e x h5 (by simpa using h6)).1.2⟩⟩
    · simp at hes
  obtain ⟨xs,q,hx,hq,hrq⟩:=key
  have hfk:=hq
  have hz0:=constOK_rel c.imm w z zv hzc
  have hzr:(zeroValue et).run g.P w=.ok zv w:=by simp [zeroValue,typeInfo,hi,hz]
  have run:∃ u,(Instr.lookup t um (a.eval k') ok).run g.P w=.ok (if ok then .tuple #[u,.bool r.isSome] else u) w∧IRel c.imm w (r.getD z) u:=by
    rcases hrq with ⟨rfl,rfl⟩|⟨j,v,u,rfl,rfl,hvu⟩
    · refine ⟨zv,?_,hz0⟩
      rcases hx with ⟨e1,rfl⟩|⟨b,clock,e1,ha⟩
      · simp only [Instr.lookup,Sem.run_bind,Zc g.P w ht,Result.andThen_ok,e1,hcheck,hfk,hzr,Sem.run_pure]
        cases ok<;>rfl
      · simp only [Instr.lookup,Sem.run_bind,Zc g.P w ht,Result.andThen_ok,e1,Z6 ha,hcheck,hfk,hzr,Sem.run_pure]
        cases ok<;>rfl
    · refine ⟨u,?_,hvu⟩
      rcases hx with ⟨e1,rfl⟩|⟨b,clock,e1,ha⟩
      · simp [Instr.findKey,Zc g.P w hd,Instr.findNow] at hq
      · simp only [Instr.lookup,Sem.run_bind,Zc g.P w ht,Result.andThen_ok,e1,Z6 ha,hcheck,hfk,Sem.run_pure]
        cases ok<;>rfl
  obtain ⟨u,hu,hru⟩:=run
  refine OpOK.value h _ (v:=if ok then .tuple #[u,.bool r.isSome] else u) (by simp [execOp,ho,← hum,hu]) (.i _ _ ?_)
  cases ok
  · exact hru
  · refine .tuple _ _ rfl fun i cv x hc hx=>?_
    match i with
    | 0=>simp at hc hx;exact hc ▸ hx ▸ hru
    | 1=>simp at hc hx;exact hc ▸ hx ▸ .bool _
    | i+2=>simp at hc
theorem setObj_redo {n:Nm} {p:Place} {b k:Nat} {x:Obj} (hp:c.obj n=some p) (hb:p.blk=some b) (hk:c.gen n≤k):Redo c w { w with heap:=w.heap.setIfInBounds b x } n p p k where
  hp:=hp
  hk:=(Nat.lt_or_eq_of_le hk).imp id fun e=>⟨e,rfl⟩
  size:=by simp
  os:=rfl
  out:=rfl
  same b' _ hne:=by
    show (w.heap.setIfInBounds b x)[b']?=_
    rw [Array.getElem?_setIfInBounds_ne]
    intro e
    exact hne (by rw [hb,e])
  blk b' hb':=.inl hb'
theorem sameBits_key {str:KSh} {imm:Nat→Prop} {k k':PV} {u u':Value} (h1:IRel imm w k u) (h2:IRel imm w k' u') (hi:keyIs str k=true) (hs:keySame k k'=some true):Instr.sameBits 10000 u' u=true:=by
  unfold keySame at hs
  split at hs
  · split at hs<;>simp only [Option.some.injEq,reduceCtorEq] at hs
    rename_i hkk
    subst hkk
    cases h1
    cases h2
    simp_all [Instr.sameBits]
  · simp only [Option.some.injEq] at hs
    cases h1
    cases h2
    rename_i s1 s2
    have:s1=s2:=ByteArray.ext (Array.ext' (by simpa using hs))
    subst this
    simp only [Instr.sameBits]
    exact beq_self_eq_true s1.data
  · obtain ⟨rfl,hint⟩:=sameI_true hs
    have e1:∃ us,u=.agg us:=by cases h1;exact ⟨_,rfl⟩
    have e2:∃ us,u'=.agg us:=by cases h2;exact ⟨_,rfl⟩
    obtain ⟨us,rfl⟩:=e1
    obtain ⟨vs,rfl⟩:=e2
    obtain ⟨rfl,hval⟩:=ints_val hint h1 h2
    have:∀ l:List Value,(∀ (i:Nat) u,l[i]?=some u→∃ n,u=.int .i64 n)→(l.zip l).all (fun (x,y)=>Instr.sameBits 9999 x y)=true:=by
      intro l
      induction l with
      | nil=>intro _;rfl
      | cons x r ih =>
        intro h
        obtain ⟨n,rfl⟩:=h 0 _ rfl
        simp only [List.zip_cons_cons,List.all_cons,ih (fun i u hu=>h (i+1) u (by simpa using hu)),Bool.and_true]
        simp [Instr.sameBits]
    simp only [Instr.sameBits,beq_self_eq_true,Bool.true_and]
    exact this us.toList fun i u hu=>hval i u (by simpa using hu)
  · cases hs
theorem map_put (h:FrRel g c w fr a) {n:Nm} {es es':List (PV × PV)} {clock ck gg b:Nat} {p:Place} {arr xs:Array MapEntry} (hob:hget fr.heap n=some (.map es clock gg)) (hp:c.obj n=some p) (hb:p.blk=some b) (ha:w.heap[b]?=some (.map arr clock))
    (hxs:xs.size=es'.length∧ck=es'.length) (hxr:∀ (i:Nat) (e:PV × PV) (y:MapEntry),es'[i]?=some e→xs[i]?=some y→(IRel c.imm w e.1 y.key∧IRel c.imm w e.2 y.val)∧y.born=i) :
    Step N0 c w (c.lay n gg (some p)) { w with heap:=w.heap.setIfInBounds b (.map xs ck) }∧FrRel g (c.lay n gg (some p)) { w with heap:=w.heap.setIfInBounds b (.map xs ck) } { fr with heap:=hset fr.heap n (.map es' ck gg) } a:=by
  have hgen:=(h.heap n _ hob).1
  have hredo:Redo c w { w with heap:=w.heap.setIfInBounds b (.map xs ck) } n p p gg:=setObj_redo hp hb (Nat.le_of_eq hgen)
  refine ⟨hredo.step,h.redo hredo hob (?_:ObRel g.MC _ _ n (.map _ _ gg))⟩
  refine ⟨Ctx.lay_gen_self _ _ _ _,fun q hq=>?_⟩
  rw [Ctx.lay_obj_self] at hq
  simp only [Option.some.injEq] at hq
  subst hq
  have hbl:=(Array.getElem?_eq_some_iff.1 ha).1
  refine ⟨b,xs,hb,?_,hxs,fun i e y he hy=>?_⟩
  · show (w.heap.setIfInBounds b _)[b]?=_
    rw [Array.getElem?_setIfInBounds_self_of_lt hbl]
  · obtain ⟨⟨h1,h2⟩,h3⟩:=hxr i e y he hy
    exact ⟨⟨h1.step hredo.step h.wf,h2.step hredo.step h.wf⟩,h3⟩
theorem ent_push {imm:Nat→Prop} {es:List (PV × PV)} {arr:Array MapEntry} {k v:PV} {x y:Value} {ck:Nat} (hsz:arr.size=es.length∧ck=es.length) (hr:∀ (i:Nat) (e:PV × PV) (x:MapEntry),es[i]?=some e→arr[i]?=some x→(IRel imm w e.1 x.key∧IRel imm w e.2 x.val)∧x.born=i)
    (hk:IRel imm w k x) (hv:IRel imm w v y):((arr.push { key:=x,val:=y,born:=ck }).size=(es++[(k,v)]).length∧ck+1=(es++[(k,v)]).length) ∧
    ∀ (i:Nat) (e:PV × PV) (z:MapEntry),(es++[(k,v)])[i]?=some e→(arr.push { key:=x,val:=y,born:=ck })[i]?=some z→(IRel imm w e.1 z.key∧IRel imm w e.2 z.val)∧z.born=i:=by
  refine ⟨⟨by simp [hsz.1],by simp [hsz.2]⟩,fun i e z he hz=>?_⟩
  rw [List.getElem?_append] at he
  rw [Array.getElem?_push] at hz
  split at he
  · rename_i hlt
    rw [if_neg (by omega)] at hz
    exact hr i e z he hz
  · rename_i hge
    have hil:i - es.length<1:=by have:=Zb he;simpa using this
    rw [if_pos (by omega)] at hz
    simp only [Option.some.injEq] at hz
    subst hz
    rw [show i - es.length=0 by omega] at he
    simp only [List.getElem?_cons_zero,Option.some.injEq] at he
    subst he
    exact ⟨⟨hk,hv⟩,by show ck=i;omega⟩
theorem ent_set {imm:Nat→Prop} {es:List (PV × PV)} {arr:Array MapEntry} {e0:PV × PV} {y0:MapEntry} {j:Nat} {f:MapEntry→MapEntry} {ck:Nat} (hsz:arr.size=es.length∧ck=es.length) (hr:∀ (i:Nat) (e:PV × PV) (x:MapEntry),es[i]?=some e→arr[i]?=some x→(IRel imm w e.1 x.key∧IRel imm w e.2 x.val)∧x.born=i)
    (hy:arr[j]?=some y0) (hk:IRel imm w e0.1 (f y0).key) (hv:IRel imm w e0.2 (f y0).val) (hbn:(f y0).born=y0.born):((arr.modify j f).size=(es.set j e0).length∧ck=(es.set j e0).length) ∧
    ∀ (i:Nat) (e:PV × PV) (z:MapEntry),(es.set j e0)[i]?=some e→(arr.modify j f)[i]?=some z→(IRel imm w e.1 z.key∧IRel imm w e.2 z.val)∧z.born=i:=by
  refine ⟨⟨by simp [hsz.1],by simp [hsz.2]⟩,fun i e z he hz=>?_⟩
  rw [List.getElem?_set] at he
  rw [Array.getElem?_modify] at hz
  split at he
  · rename_i hij
    subst hij
    split at he<;>simp only [Option.some.injEq,reduceCtorEq] at he
    rename_i hlt
    subst he
    rw [if_pos rfl,hy] at hz
    simp only [Option.map_some,Option.some.injEq] at hz
    subst hz
    exact ⟨⟨hk,hv⟩,by rw [hbn];exact (hr j es[j] y0 (by simp [hlt]) hy).2⟩
  · rename_i hij
    rw [if_neg hij] at hz
    exact hr i e z he hz
theorem ok_mupd (h:FrRel g c w fr a) {str:KSh} {m k x:PX} {m' k' x':Operand} {t kt et:TypeId} {d:TypeDesc} (ho:o.op=.mapUpdate t m' k' x'∨o.op=.insert t m' k' x') (ht:g.P.underlying t=some (.map kt et)) (hd:g.P.underlying kt=some d)
    (hk:keyOK g.P kt str=true) (hm:g.matchX m m'=true) (hkx:g.matchX k k'=true) (hx:g.matchX x x'=true)
    (hs:stepOp g.E callE yieldE o.dst (.mupd str m k x) fr=some fr'):OpOK g c w fr fr' a o.dst ((execOp a.eval o).run g.P w):=by
  have v1:=h.x hm
  have v2:=h.x hkx
  have v3:=h.x hx
  simp only [stepOp] at hs
  split at hs
  case isFalse=>simp at hs
  rename_i hc
  simp only [Bool.and_eq_true] at hc
  obtain ⟨hpure,hki⟩:=hc
  split at hs
  case h_2=>simp at hs
  rename_i n gg hn
  split at hs
  case h_2=>simp at hs
  rename_i es clock g' hob
  split at hs
  case isFalse=>simp at hs
  rename_i hgg
  subst hgg
  split at hs<;>simp only [Option.some.injEq,reduceCtorEq] at hs
  rename_i r hr
  subst hs
  rw [hn] at v1
  have v2i:=keyIs_irel v2 hki
  have v3i:=v3.pure hpure
  obtain ⟨p,b,arr,hp,hb,e1,ha,hsz,hrel⟩:=map_live h.heap v1 hob
  have hcheck:(Instr.checkKey false 10000 kt (a.eval k')).run g.P w=.ok () w:=run_checkKey hk v2i hki
  have fin:∀ (xs:Array MapEntry) (ck:Nat) (es':List (PV × PV)),(Instr.mapUpdate t (a.eval m') (a.eval k') (a.eval x')).run g.P w=.ok () { w with heap:=w.heap.setIfInBounds b (.map xs ck) } →
      (xs.size=es'.length∧ck=es'.length)∧(∀ (i:Nat) (e:PV × PV) (y:MapEntry),es'[i]?=some e→xs[i]?=some y→(IRel c.imm w e.1 y.key∧IRel c.imm w e.2 y.val)∧y.born=i) →
      OpOK g c w fr ({ fr with heap:=hset fr.heap n (.map es' ck gg) }.put o.dst (.tuple [])) a o.dst ((execOp a.eval o).run g.P w):=by
    intro xs ck es' hrun ⟨hxs,hxr⟩
    obtain ⟨hst,hfr⟩:=map_put h hob hp hb ha hxs hxr
    exact ⟨undef,_,_,.inr ⟨by rcases ho with ho|ho<;>simp [execOp,ho,hrun],rfl⟩,hst,FrRel.put hfr o.dst undef_rel⟩
  rcases findKey_spec hk hd v2i hki es arr.toList r (by simpa using hsz.1.symm) (fun j e x he hx=>(hrel j e x he (by simpa using hx)).1) hr with ⟨h4,h5,_,h6⟩|⟨j,e,y,h4,h5,h6,h7,h8,_,h9⟩
  · rw [h4,h6]
    refine fin _ (clock+1) _ ?_ (ent_push hsz hrel v2i v3i)
    simp [Instr.mapUpdate,Zc g.P w ht,e1,Z6 ha,hcheck,h5,run_setObj_m _ ha]
  · have hy':arr[j]?=some y:=by simpa using h6
    have hbits:=sameBits_key v2i (hrel j e y h5 hy').1.1 hki h7
    rw [h4,h9]
    refine fin _ clock _ ?_ (ent_set (f:=fun e=>{ e with key:=a.eval k',val:=a.eval x' }) hsz hrel hy' v2i v3i rfl)
    simp [Instr.mapUpdate,Zc g.P w ht,e1,Z6 ha,hcheck,h8,run_setObj_m _ ha,hy',Instr.keyThatStays,hbits]
theorem ok_mentry (h:FrRel g c w fr a) {str:KSh} {z:PV} {m k:PX} {m' k':Operand} {t kt et:TypeId} {d:TypeDesc} {i:TypeInfo} {zv:Value} (ho:o.op=.mapEntry t m' k') (ht:g.P.underlying t=some (.map kt et)) (hd:g.P.underlying kt=some d)
    (hk:keyOK g.P kt str=true) (hi:g.P.info? et=some i) (hz:i.zero=some zv) (hzc:constOK z zv=true) (hm:g.matchX m m'=true) (hkx:g.matchX k k'=true)
    (hs:stepOp g.E callE yieldE o.dst (.mentry str z m k) fr=some fr'):OpOK g c w fr fr' a o.dst ((execOp a.eval o).run g.P w):=by
  have v1:=h.x hm
  have v2:=h.x hkx
  simp only [stepOp] at hs
  split at hs
  case isFalse=>simp at hs
  rename_i hki
  split at hs
  case h_2=>simp at hs
  rename_i n gg hn
  split at hs
  case h_2=>simp at hs
  rename_i es clock g' hob
  split at hs
  case isFalse=>simp at hs
  rename_i hgg
  subst hgg
  split at hs<;>simp only [Option.some.injEq,reduceCtorEq] at hs
  rename_i r hr
  subst hs
  rw [hn] at v1
  have v2i:=keyIs_irel v2 hki
  obtain ⟨p,b,arr,hp,hb,e1,ha,hsz,hrel⟩:=map_live h.heap v1 hob
  have hcheck:(Instr.checkKey false 10000 kt (a.eval k')).run g.P w=.ok () w:=run_checkKey hk v2i hki
  have hz0:=constOK_rel c.imm w z zv hzc
  have hzr:(zeroValue et).run g.P w=.ok zv w:=by simp [zeroValue,typeInfo,hi,hz]
  have fin:∀ (xs:Array MapEntry) (ck:Nat) (es':List (PV × PV)) (pv:PV) (v:Value) (s:Nat),(Instr.mapEntry t (a.eval m') (a.eval k')).run g.P w=.ok (.tuple #[v,.int .i64 s]) { w with heap:=w.heap.setIfInBounds b (.map xs ck) } →
      (xs.size=es'.length∧ck=es'.length)∧(∀ (i:Nat) (e:PV × PV) (y:MapEntry),es'[i]?=some e→xs[i]?=some y→(IRel c.imm w e.1 y.key∧IRel c.imm w e.2 y.val)∧y.born=i)→IRel c.imm w pv v →
      OpOK g c w fr ({ fr with heap:=hset fr.heap n (.map es' ck gg) }.put o.dst (.tuple [pv,.int .i64 s])) a o.dst ((execOp a.eval o).run g.P w):=by
    intro xs ck es' pv v s hrun ⟨hxs,hxr⟩ hpv
    obtain ⟨hst,hfr⟩:=map_put h hob hp hb ha hxs hxr
    refine ⟨.tuple #[v,.int .i64 s],_,_,.inl (by simp [execOp,ho,hrun]),hst,FrRel.put hfr o.dst (.i _ _ (.tuple _ _ rfl fun i cv x hc hx=>?_))⟩
    match i with
    | 0=>simp at hc hx;exact hc ▸ hx ▸ hpv.step hst h.wf
    | 1=>simp at hc hx;exact hc ▸ hx ▸ .int _ _
    | i+2=>simp at hc
  rcases findKey_spec hk hd v2i hki es arr.toList r (by simpa using hsz.1.symm) (fun j e x he hx=>(hrel j e x he (by simpa using hx)).1) hr with ⟨h4,h5,h5',h6⟩|⟨j,e,y,h4,h5,h6,h7,h8,h8',h9⟩
  · rw [h4,h6,h5',← hsz.2]
    refine fin (arr.push { key:=a.eval k',val:=zv,born:=clock }) (clock+1) _ z zv clock ?_ (ent_push hsz hrel v2i hz0) hz0
    simp [Instr.mapEntry,Zc g.P w ht,e1,Z6 ha,hcheck,h5,run_setObj_m _ ha,hzr,goInt]
  · have hy':arr[j]?=some y:=by simpa using h6
    have hbits:=sameBits_key v2i (hrel j e y h5 hy').1.1 hki h7
    have hbn:=(hrel j e y h5 hy').2
    rw [h4,h9,h8']
    refine fin (arr.modify j fun e=>{ e with key:=a.eval k' }) clock _ e.2 y.val j ?_ (ent_set (f:=fun e=>{ e with key:=a.eval k' }) hsz hrel hy' v2i (hrel j e y h5 hy').1.2 rfl) (hrel j e y h5 hy').1.2
    simp [Instr.mapEntry,Zc g.P w ht,e1,Z6 ha,hcheck,h8,run_setObj_m _ ha,hy',Instr.keyThatStays,hbits,goInt,hbn]
theorem ok_estore (h:FrRel g c w fr a) {m k x:PX} {m' k' x':Operand} {t:TypeId} (ho:o.op=.entryStore t m' k' x') (hm:g.matchX m m'=true) (hkx:g.matchX k k'=true) (hx:g.matchX x x'=true)
    (hs:stepOp g.E callE yieldE o.dst (.estore m k x) fr=some fr'):OpOK g c w fr fr' a o.dst ((execOp a.eval o).run g.P w):=by
  have v1:=h.x hm
  have v2:=h.x hkx
  have v3:=h.x hx
  simp only [stepOp] at hs
  split at hs
  case isFalse=>simp at hs
  rename_i hpure
  split at hs
  case h_2=>simp at hs
  rename_i n gg kk j hn hj
  split at hs
  case h_2=>simp at hs
  rename_i es clock g' hob
  split at hs
  case isFalse=>simp at hs
  rename_i hgg
  obtain ⟨rfl,hj0⟩:=hgg
  split at hs<;>simp only [Option.some.injEq,reduceCtorEq] at hs
  rename_i e he
  subst hs
  rw [hn] at v1
  rw [hj] at v2
  have e2:=v2.int_inv
  have v3i:=v3.pure hpure
  obtain ⟨p,b,arr,hp,hb,e1,ha,hsz,hrel⟩:=map_live h.heap v1 hob
  have hlt:j.toNat<es.length:=Zb he
  have hlt':j.toNat<arr.size:=by omega
  have hborn:∀ i (hi:i<arr.size),arr[i].born=i:=fun i hi=>(hrel i es[i] arr[i] (by simp [show i<es.length by omega]) (by simp [hi])).2
  have hfind:arr.findIdx? (fun e=>(e.born:Int)==j)=some j.toNat:=by
    rw [Array.findIdx?_eq_some_iff_getElem]
    refine ⟨hlt',?_,fun q hq=>?_⟩
    · rw [hborn j.toNat hlt'];simp;omega
    · rw [hborn q (by omega)];simp;omega
  have hy0:arr[j.toNat]?=some arr[j.toNat]:=by simp [hlt']
  have hent:=ent_set (e0:=(e.1,evX g.E fr.tmps x)) (y0:=arr[j.toNat]) (j:=j.toNat) (f:=fun e=>{ key:=e.key,val:=a.eval x',born:=e.born }) hsz hrel hy0 (hrel _ e _ he hy0).1.1 v3i rfl
  obtain ⟨hst,hfr⟩:=map_put h hob hp hb ha hent.1 hent.2
  refine ⟨undef,_,_,.inr ⟨?_,rfl⟩,hst,FrRel.put hfr o.dst undef_rel⟩
  simp [execOp,ho,Instr.entryStore,e1,e2,asInt,asIntOf,Z6 ha,hfind,run_setObj_m _ ha]
theorem iter_live {n m:Nm} {gg gm since ck:Nat} {seen:List Nat} {u:Value} {es:List (PV × PV)} (hH:HRel g.MC c fr.heap w) (hv:VRel c w (.ptr n gg 0 0) u) (ho:hget fr.heap n=some (.iter (.map m gm) since seen gg)) (hm:hget fr.heap m=some (.map es ck gm)) :
    ∃ bi bm arr,u=.pointer (some ⟨bi,0,none⟩)∧w.heap[bi]?=some (.mapIter (some bm) since seen.toArray since)∧w.heap[bm]?=some (.map arr ck)∧(arr.size=es.length∧ck=es.length) ∧
      ∀ (i:Nat) (e:PV × PV) (x:MapEntry),es[i]?=some e→arr[i]?=some x→(IRel c.imm w e.1 x.key∧IRel c.imm w e.2 x.val)∧x.born=i:=by
  obtain ⟨h1,h2⟩:=hH n _ ho
  cases hv with
  | i _ _ h=>cases h
  | ptrStale _ _ _ _ _ hlt=>omega
  | ptr _ _ _ _ p b hg hp hb =>
    obtain ⟨b',bm,⟨h3,h3'⟩,h4,h5⟩:=h2 p hp
    rw [hb] at h3
    simp only [Option.some.injEq] at h3
    subst h3
    obtain ⟨p2,b2,arr,hp2,hb2,e2,ha,hsz,hrel⟩:=map_live hH h5 hm
    simp only [Value.map.injEq,Option.some.injEq] at e2
    subst e2
    exact ⟨b,bm,arr,by simp [h3'],h4,ha,hsz,hrel⟩
theorem ok_entry (h:FrRel g c w fr a) {x:PX} {x':Operand} (ho:o.op=.entry x') (hx:g.matchX x x'=true)
    (hs:stepOp g.E callE yieldE o.dst (.entry x) fr=some fr'):OpOK g c w fr fr' a o.dst ((execOp a.eval o).run g.P w):=by
  have v1:=h.x hx
  simp only [stepOp] at hs
  split at hs
  case h_2=>simp at hs
  rename_i n gg hn
  split at hs
  case h_2=>simp at hs
  rename_i m gm ck seen g' hob
  split at hs
  case isFalse=>simp at hs
  rename_i hgg
  subst hgg
  split at hs
  case h_2=>simp at hs
  rename_i es ck' gm' i hom hi
  split at hs
  case isFalse=>simp at hs
  rename_i hg2
  obtain ⟨rfl,rfl⟩:=hg2
  split at hs<;>simp only [Option.some.injEq,reduceCtorEq] at hs
  rename_i e he
  subst hs
  rw [hn] at v1
  obtain ⟨bi,bm,arr,hx2,hit,hmm,hsz,hrel⟩:=iter_live h.heap v1 hob hom
  have hy0:arr[i]?=some arr[i]! := by
    have:i<arr.size:=by have:=Zb he;omega
    simp [this]
  have hy:=hrel i e _ he hy0
  have hlt:i<arr.size:=Zl hy0
  have hborn:∀ (q:Nat) (x:MapEntry),arr[q]?=some x→x.born=q:=fun q x hq=>by
    have hq':q<es.length:=by have:=Zl hq;omega
    exact (hrel q es[q] x (by simp [hq']) hq).2
  have hfind:arr.find? (fun e=>e.born==i)=some arr[i]! := by
    rw [Array.find?_eq_some_iff_getElem]
    refine ⟨by simp [hy.2],i,hlt,by simp [hlt],fun q hq=>?_⟩
    have:=hborn q arr[q] (by simp [show q<arr.size by omega])
    simp [this];omega
  refine OpOK.value h _ (v:=.tuple #[arr[i]!.key,arr[i]!.val]) ?_ (.i _ _ (.tuple _ _ rfl fun q cv x hc hx=>?_))
  · have hback:seen.toArray.back?=some i:=by simpa using hi
    simp [execOp,ho,Instr.entry,hx2,getObj,Sem.run,hit,hmm,hback,hfind]
  · match q with
    | 0=>simp at hc hx;exact hc ▸ hx ▸ hy.1.1
    | 1=>simp at hc hx;exact hc ▸ hx ▸ hy.1.2
    | q+2=>simp at hc
theorem ok_rng (h:FrRel g c w fr a) {s:Nat} {x:PX} {x':Operand} {t kt et:TypeId} (ho:o.op=.range t x') (ht:g.P.underlying t=some (.map kt et)) (hx:g.matchX x x'=true)
    (hs:stepOp g.E callE yieldE o.dst (.rng s x) fr=some fr'):OpOK g c w fr fr' a o.dst ((execOp a.eval o).run g.P w):=by
  have v1:=h.x hx
  simp only [stepOp] at hs
  split at hs
  case h_2=>simp at hs
  rename_i n gg hn
  split at hs
  case h_2=>simp at hs
  rename_i es clock g' hob
  split at hs
  case isFalse=>simp at hs
  rename_i hgg
  subst hgg
  rw [hn] at v1
  obtain ⟨p,b,arr,hp,hb,e1,ha,hsz,hrel⟩:=map_live h.heap v1 hob
  refine OpOK.lay h hs fun k' pv ob hR hf'=>?_
  simp only [Option.some.injEq,Prod.mk.injEq] at hf'
  obtain ⟨rfl,rfl⟩:=hf'
  have hM:=More.alloc w (.mapIter (some b) clock #[] clock)
  have hpf:=Ym w (.mapIter (some b) clock #[] clock) 0 0 0
  refine ⟨.pointer (some ⟨w.heap.size,0,none⟩),_,_,?_,hM,hpf,⟨Ctx.lay_gen_self _ _ _ _,fun q hq=>?_⟩,?_⟩
  · simp [execOp,ho,Instr.range,Zc g.P w ht,e1,Z6 ha]
  · rw [Ctx.lay_obj_self] at hq
    simp only [Option.some.injEq] at hq
    subst hq
    refine ⟨w.heap.size,b,⟨rfl,rfl⟩,Z2 _ _,?_⟩
    rw [← e1]
    exact v1.step (Yg hM hR hpf) h.wf
  · have:=VRel.ptr (c:=c.lay (fr.nm s) k' (some ⟨some w.heap.size,0,0,0⟩)) (w:=w.alloc (.mapIter (some b) clock #[] clock)) (fr.nm s) k' 0 0 _ w.heap.size (by rw [Ctx.lay_gen_self];exact Nat.le_refl _) (Ctx.lay_obj_self _ _ _ _) rfl
    simpa using this
theorem ok_lenm (h:FrRel g c w fr a) {x:PX} {x':Operand} {t kt et:TypeId} {ty:Array TypeId} (ho:o.op=.call { callee:=.builtin .len,args:=#[x'],argTypes:=ty }) (hty:ty[0]?=some t)
    (ht:g.P.underlying t=some (.map kt et)) (hx:g.matchX x x'=true) (hs:stepOp g.E callE yieldE o.dst (.lenm x) fr=some fr'):OpOK g c w fr fr' a o.dst ((execOp a.eval o).run g.P w):=by
  have h1:=h.x hx
  obtain ⟨u,hu⟩:∃ u,u=a.eval x':=⟨_,rfl⟩
  rw [← hu] at h1
  simp only [stepOp] at hs
  split at hs
  · rename_i e
    simp only [Option.some.injEq] at hs
    subst hs
    rw [e] at h1
    have e2:u=.map none:=by
      cases h1 with
      | i _ _ h=>cases h;rfl
    refine OpOK.value h _ (v:=.int .i64 0) ?_ (.i _ _ (.int _ _))
    simp [execOp,ho,← hu,e2,resolve,invoke,builtin,Builtin.len_,hty,Zc g.P _ ht,goInt]
  · rename_i n gg e
    split at hs
    case h_2=>simp at hs
    rename_i es clock g' hob
    split at hs<;>simp only [Option.some.injEq,reduceCtorEq] at hs
    rename_i hgg
    subst hgg
    subst hs
    rw [e] at h1
    obtain ⟨p,b,arr,hp,hb,e1,ha,hsz,hrel⟩:=map_live h.heap h1 hob
    refine OpOK.value h _ (v:=.int .i64 es.length) ?_ (.i _ _ (.int _ _))
    simp [execOp,ho,← hu,e1,resolve,invoke,builtin,Builtin.len_,hty,Zc g.P _ ht,goInt,Z6 ha,hsz]
  · simp at hs
end Go.VI
namespace Go.VI
variable {g:PG} {c:Ctx} {w:World} {fr fr':Fr} {a:Act} {o:Oper} {callE:CallE} {yieldE:Nm→List PV→Heap→Option (PV × Heap)}
noncomputable def Ctx.freeze (c:Ctx) (n:Nm) (k:Nat) (b:Option Nat):Ctx:={ c.lay n k none with imm:=fun x=>c.imm x∨some x=b }
structure Frz (c:Ctx) (n:Nm) (p:Place) (k:Nat):Prop where
  hp:c.obj n=some p
  hk:c.gen n<k
theorem Frz.step {n:Nm} {p:Place} {k:Nat} (h:Frz c n p k):Step N0 c w (c.freeze n k p.blk) w where
  size:=Nat.le_refl _
  os:=rfl
  out:=rfl
  gen m:=by
    show c.gen m≤(c.lay n k none).gen m
    by_cases hm:m=n
    · subst hm;rw [c.lay_gen_self];exact Nat.le_of_lt h.hk
    · rw [c.lay_gen k _ hm];exact Nat.le_refl _
  obj m _ he:=by
    show (c.lay n k none).obj m=c.obj m
    have he:(c.lay n k none).gen m=c.gen m:=he
    by_cases hm:m=n
    · subst hm
      rw [c.lay_gen_self] at he
      have:=h.hk
      omega
    · rw [c.lay_obj k _ hm]
  phan m hm:=hm.elim
  imm b hb:=.inl hb
  immNew b hb:=by
    rcases hb with h1|h1
    · exact .inl h1
    · exact .inr (.inr ⟨n,p,h.hp,h1.symm⟩)
  objNew m q b h1 h2:=by
    have h1:(c.lay n k none).obj m=some q:=h1
    by_cases hm:m=n
    · subst hm
      rw [c.lay_obj_self] at h1
      cases h1
    · rw [c.lay_obj k _ hm] at h1
      exact .inr ⟨m,q,h1,h2⟩
  frame b _ _:=rfl
theorem Frz.wf {G:Nat→Option PV} {n:Nm} {p:Place} {k:Nat} (h:Frz c n p k) (hw:WF G c w):WF G (c.freeze n k p.blk) w where
  lt m q b h1 h2:=by
    have h1:(c.lay n k none).obj m=some q:=h1
    by_cases hm:m=n
    · subst hm;rw [c.lay_obj_self] at h1;cases h1
    · rw [c.lay_obj k _ hm] at h1;exact hw.lt m q b h1 h2
  inj m1 m2 q1 q2 b h1 h2 h3 h4:=by
    have h1:(c.lay n k none).obj m1=some q1:=h1
    have h2:(c.lay n k none).obj m2=some q2:=h2
    by_cases e1:m1=n
    · subst e1;rw [c.lay_obj_self] at h1;cases h1
    · by_cases e2:m2=n
      · subst e2;rw [c.lay_obj_self] at h2;cases h2
      · rw [c.lay_obj k _ e1] at h1
        rw [c.lay_obj k _ e2] at h2
        exact hw.inj m1 m2 q1 q2 b h1 h2 h3 h4
  apart m q b h1 h2 h3:=by
    have h1:(c.lay n k none).obj m=some q:=h1
    by_cases hm:m=n
    · subst hm;rw [c.lay_obj_self] at h1;cases h1
    · rw [c.lay_obj k _ hm] at h1
      rcases h3 with h4|h4
      · exact hw.apart m q b h1 h2 h4
      · exact hm (hw.inj m n q p b h1 h.hp h2 h4.symm)
  ilt b hb:=by
    rcases hb with h1|h1
    · exact hw.ilt b h1
    · exact hw.lt n p b h.hp h1.symm
  glob i v hi:=(hw.glob i v hi).step h.step hw
theorem FrRel.freeze (h:FrRel g c w fr a) {n:Nm} {p:Place} {k:Nat} (hr:Frz c n p k) {ob0:Ob} (h0:hget fr.heap n=some ob0):FrRel g (c.freeze n k p.blk) w { fr with heap:=hset fr.heap n (.dead k) } a:=by
  have hS:=hr.step (w:=w)
  refine ⟨h.size,fun i=>(h.tmps i).step hS h.wf,fun m ob' hg'=>?_,hr.wf h.wf,DefRel.step hS h.wf heap_lt h.defs,fun m hm=>?_⟩
  · by_cases hm:m=n
    · subst hm
      rw [Z8 (hget_lt h0)] at hg'
      simp only [Option.some.injEq] at hg'
      exact hg' ▸ c.lay_gen_self m k none
    · rw [Yd hm] at hg'
      exact ObRel.keep hS h.wf (c.lay_obj k none hm) (c.lay_gen k none hm) (fun q b hq hb=>rfl) (h.heap m ob' hg')
  · by_cases hm':m=n
    · subst hm'
      rw [Z8 (hget_lt h0)] at hm
      cases hm
    · rw [Yd hm'] at hm
      show (c.lay n k none).gen m=0∧(c.lay n k none).obj m=none
      rw [c.lay_gen k none hm',c.lay_obj k none hm']
      exact h.hn m hm
theorem FrRel.retell (h:FrRel g c w fr a) {i:Nat} {v:PV} (hv:VRel c w v (a.tmps.getD i undef)):FrRel g c w (fr.put (some i) v) a:=by
  refine ⟨by simp [Fr.put,h.size],fun j=>?_,h.heap,h.wf,h.defs,h.hn⟩
  show VRel c w ((fr.tmps.set i v).getD j .junk) (a.tmps.getD j undef)
  by_cases hij:i=j
  · subst hij
    by_cases hl:i<fr.tmps.length
    · simp only [List.getD,List.getElem?_set_self hl,Option.getD_some];exact hv
    · rw [List.set_eq_of_length_le (by omega)];exact h.tmps i
  · simp only [List.getD,List.getElem?_set_ne hij]
    exact h.tmps j
theorem frz_value {n:Nm} {gg off len k:Nat} {el:List PV} {osz:Nat} {u:Value} (h:FrRel g c w fr a) (hv:VRel c w (.sl n gg off len) u) (hob:hget fr.heap n=some (.mem el gg true osz)) (hle:off+len≤el.length) (hk:gg<k) :
    ∃ p,Frz c n p k∧IRel (c.freeze n k p.blk).imm w (.vs .any ((el.drop off).take len)) u:=by
  have hgen:=(h.heap n _ hob).1
  obtain ⟨p,hp,hM,hx⟩:=sl_live h.heap hv hob
  refine ⟨p,⟨hp,by omega⟩,?_⟩
  have empty:∀ b,IRel (c.freeze n k p.blk).imm w (.vs .any []) (.slice (some b) 0 0):=fun b=>.vsE .any b (by simp)
  rcases hx with ⟨hb,rfl,rfl,rfl⟩|⟨b,hb,hcap,rfl⟩|⟨rfl,_,x,rfl⟩
  · rw [List.take_zero]
    exact .vsNone _ (by simp)
  · have hlen:((el.drop off).take len).length=len:=by simp;omega
    have hyi:∀ i,((el.drop off).take len)[i]?=if i<len then el[off+i]? else none:=by
      intro i
      rw [List.getElem?_take,List.getElem?_drop]
    obtain ⟨arr,E,ha,hsize,hcell⟩:=hM.row b hb
    have hS:=(Frz.mk hp (show c.gen n<k by omega)).step (w:=w)
    have hpick:∀ i j,∃ u,i<len→j<p.sz→w.cell? ⟨b,p.base+off*p.sz+i*p.sz+j,none⟩=some u∧u.oneCell'=true∧∀ e cv,el[off+i]?=some e→e.cells[j]?=some cv→IRel (c.freeze n k p.blk).imm w cv u:=by
      intro i j
      by_cases hc:i<len∧j<p.sz
      · have hee:el[off+i]?=some (el[off+i]'(by omega)):=List.getElem?_eq_getElem (by omega)
        have hcl2:=hM.sz _ _ hee
        have hcv:(el[off+i]'(by omega)).cells[j]?=some ((el[off+i]'(by omega)).cells[j]'(by omega)):=List.getElem?_eq_getElem (by omega)
        obtain ⟨u,h5,h6,h7⟩:=hcell _ j _ _ hee hcv
        refine ⟨u,fun _ _=>⟨?_,h6,fun e cv he hcv'=>?_⟩⟩
        · have:p.base+off*p.sz+i*p.sz+j=p.base+(off+i)*p.sz+j:=by rw [Nat.add_mul];omega
          rw [this]
          simp [World.cell?,ha,h5]
        · rw [hee] at he
          simp only [Option.some.injEq] at he
          subst he
          rw [hcv] at hcv'
          simp only [Option.some.injEq] at hcv'
          subst hcv'
          exact IRel.step hS h.wf h7
      · exact ⟨undef,fun h1 h2=>absurd ⟨h1,h2⟩ hc⟩
    have:=IRel.vs (imm:=(c.freeze n k p.blk).imm) (w:=w) .any ((el.drop off).take len) b (p.base+off*p.sz) (p.cap - off) p.sz (fun i j=>(hpick i j).choose) (by simp) (by rw [hlen];omega) (by simp)
      (fun i e he=>by
        rw [hyi] at he
        split at he
        · exact hM.sz _ e he
        · cases he)
      (fun i j hi hj=>by
        rw [hlen] at hi
        obtain ⟨h1,h2,_⟩:=(hpick i j).choose_spec hi hj
        exact ⟨.inr hb.symm,h1,h2⟩)
      (fun i j e cv he hcv=>by
        rw [hyi] at he
        split at he
        · rename_i hi
          have hj:j<p.sz:=by have:=hM.sz _ e he;have:=Zb hcv;omega
          obtain ⟨_,_,h3⟩:=(hpick i j).choose_spec hi hj
          exact h3 e cv he hcv
        · cases he)
    rw [hlen] at this
    exact this
  · rw [List.take_zero]
    exact empty x
theorem ok_frz (h:FrRel g c w fr a) {x:PX} {x':Operand} (ho:o.op=.assign x'∨o.op=.move x') (hx:g.matchX x x'=true)
    (hs:stepOp g.E callE yieldE o.dst (.frz x) fr=some fr'):OpOK g c w fr fr' a o.dst ((execOp a.eval o).run g.P w):=by
  have hv:=h.x hx
  have hrun:(execOp a.eval o).run g.P w=.ok (.value (a.eval x')) w:=by rcases ho with ho|ho<;>simp [execOp,ho]
  simp only [stepOp] at hs
  split at hs
  · rename_i n gg off len e
    split at hs
    case h_2=>simp at hs
    rename_i el g' osz hob
    split at hs<;>simp only [Option.some.injEq,reduceCtorEq] at hs
    rename_i hc
    obtain ⟨rfl,hle⟩:=hc
    rw [e] at hv
    obtain ⟨p,hF,hI⟩:=frz_value (k:=gg+1) h hv hob hle (by omega)
    have hfz:=h.freeze hF hob
    refine ⟨a.eval x',w,_,.inl hrun,hF.step,?_⟩
    subst hs
    split
    · rename_i i
      have hxi:x'=.tmp i:=by cases x'<;>simp [PG.matchX] at hx;rw [hx]
      subst hxi
      exact (hfz.retell (i:=i) (.i _ _ hI)).put o.dst (.i _ _ hI)
    · exact hfz.put o.dst (.i _ _ hI)
  · split at hs<;>simp only [Option.some.injEq,reduceCtorEq] at hs
    subst hs
    exact OpOK.value h _ hrun hv
theorem frzV_ok (h:FrRel g c w fr a) {v v':PV} {u:Value} {h':Heap} (hv:VRel c w v u) (hf:frzV fr.heap v=some (v',h')):∃ c',Step N0 c w c' w∧FrRel g c' w { fr with heap:=h' } a∧VRel c' w v' u:=by
  unfold frzV at hf
  split at hf
  · split at hf
    case h_2=>cases hf
    rename_i el g' osz hob
    split at hf<;>simp only [Option.some.injEq,reduceCtorEq,Prod.mk.injEq] at hf
    rename_i hc
    obtain ⟨rfl,hle⟩:=hc
    obtain ⟨rfl,rfl⟩:=hf
    obtain ⟨p,hF,hI⟩:=frz_value (k:=_+1) h hv hob hle (Nat.lt_succ_self _)
    exact ⟨_,hF.step,h.freeze hF hob,.i _ _ hI⟩
  · simp only [Option.some.injEq,Prod.mk.injEq] at hf
    obtain ⟨rfl,rfl⟩:=hf
    exact ⟨c,Step.refl _ _,h,hv⟩
theorem frzL_ok:∀ (vs:List PV) {c:Ctx} {fr:Fr},FrRel g c w fr a→∀ {us:List Value},vs.length=us.length→(∀ (i:Nat) v u,vs[i]?=some v→us[i]?=some u→VRel c w v u)→∀ {vs':List PV} {h':Heap},frzL fr.heap vs=some (vs',h') →
    ∃ c',Step N0 c w c' w∧FrRel g c' w { fr with heap:=h' } a∧vs'.length=vs.length∧∀ (i:Nat) v u,vs'[i]?=some v→us[i]?=some u→VRel c' w v u
  | [],c,fr,h,us,hl,hvs,vs',h',hf=>by
    simp only [frzL,Option.some.injEq,Prod.mk.injEq] at hf
    obtain ⟨rfl,rfl⟩:=hf
    exact ⟨c,Step.refl _ _,h,rfl,fun i v u hv=>by simp at hv⟩
  | v::r,c,fr,h,us,hl,hvs,vs',h',hf=>by
    match us,hl with
    | u::us,hl =>
      simp only [frzL] at hf
      split at hf
      case h_2=>cases hf
      rename_i v1 h1 hf1
      split at hf
      case h_2=>cases hf
      rename_i r1 h2 hf2
      simp only [Option.some.injEq,Prod.mk.injEq] at hf
      obtain ⟨rfl,rfl⟩:=hf
      obtain ⟨c1,s1,f1,v1'⟩:=frzV_ok h (hvs 0 v u rfl rfl) hf1
      obtain ⟨c2,s2,f2,l2,q2⟩:=frzL_ok r (fr:={ fr with heap:=h1 }) f1 (us:=us) (by simpa using hl) (fun i v' u' hv hu=>(hvs (i+1) v' u' (by simpa using hv) (by simpa using hu)).step s1 h.wf) hf2
      refine ⟨c2,s1.trans s2,f2,by simp [l2],fun i v' u' hv hu=>?_⟩
      cases i with
      | zero =>
        simp only [List.getElem?_cons_zero,Option.some.injEq] at hv hu
        subst hv hu
        exact v1'.step s2 f1.wf
      | succ i=>exact q2 i v' u' (by simpa using hv) (by simpa using hu)
theorem frzD_ok (h:FrRel g c w fr a) {v v':PV} {u:Value} {h':Heap} (hv:VRel c w v u) (hf:frzD fr.heap v=some (v',h')):∃ c',Step N0 c w c' w∧FrRel g c' w { fr with heap:=h' } a∧VRel c' w v' u:=by
  unfold frzD at hf
  split at hf
  · split at hf<;>simp only [Option.some.injEq,reduceCtorEq,Prod.mk.injEq] at hf
    rename_i cs' h1 hf1
    obtain ⟨rfl,rfl⟩:=hf
    obtain ⟨us,rfl,hl,h1,h2⟩:=hv.agg_inv
    obtain ⟨c',s1,f1,l1,q1⟩:=frzL_ok _ h (us:=us.toList) (by simpa using hl) (fun i v u hv hu=>h2 i v u hv (by simpa using hu)) hf1
    exact ⟨c',s1,f1,.agg _ _ (by rw [l1];exact hl) h1 fun i cv u hc hu=>q1 i cv u hc (by simpa using hu)⟩
  · exact frzV_ok h hv hf
theorem storeV_spec {k:Option Nat} {x y:PX} {h':Heap} (hs:storeV (evX g.E fr.tmps x) fr.heap k (evX g.E fr.tmps y)=some h'):stepOp g.E callE yieldE none (.store k x y) fr=some ({ fr with heap:=h' }.put none (.tuple [])):=by
  unfold storeV at hs
  simp only [stepOp]
  split at hs
  case h_2=>cases hs
  rename_i n gg i off e
  try simp only [e]
  split at hs
  case h_2=>cases hs
  rename_i el g' cl sz hob
  try simp only [hob]
  split at hs
  case isFalse=>cases hs
  rename_i hc
  rw [if_pos hc]
  split at hs
  · rename_i cs he
    split at hs<;>simp only [Option.some.injEq,reduceCtorEq] at hs
    rename_i hc2
    rw [if_pos hc2,hs]
  · rename_i e' hna he
    split at hs<;>simp only [Option.some.injEq,reduceCtorEq] at hs
    rename_i hc2
    rw [if_pos hc2,hs]
  · cases hs
theorem load_val (h:FrRel g c w fr a) {k:Option Nat} {x:PX} {x':Operand} {t:TypeId} {v:PV} (ho:o.op=.load t x') (hk:kOK g.P t k=true) (hx:g.matchX x x'=true) (hl:loadE g.E fr.tmps fr.heap k x=some v):∃ r,(execOp a.eval o).run g.P w=.ok (.value r) w∧VRel c w v r:=by
  have h1:=h.x hx
  obtain ⟨u,hu⟩:∃ u,u=a.eval x':=⟨_,rfl⟩
  rw [← hu] at h1
  have fin:∀ {cs:List PV} {b o':Nat},u=.pointer (some ⟨b,o',none⟩)→CellsAt (VRel c w) w cs b o'→loadFrom cs k=some v→∃ r,(execOp a.eval o).run g.P w=.ok (.value r) w∧VRel c w v r:=by
    intro cs b o' e hc hl
    obtain ⟨r,hr,hv⟩:=loadFrom_v hc hk hl
    exact ⟨r,by simp [execOp,ho,← hu,e,Instr.loadAt,Instr.sureAddr,hr],hv⟩
  unfold loadE at hl
  split at hl
  · rename_i cs e
    rw [e] at h1
    obtain ⟨b,o',e1,hc,_⟩:=cellsAt_ip h1.ip_inv
    exact fin e1 (hc.mono fun _ _ h=>.i _ _ h) hl
  · rename_i n gg i off e
    split at hl
    case h_2=>simp at hl
    rename_i el g' cl osz hob
    split at hl
    case isFalse=>simp at hl
    rename_i hgg
    split at hl
    case h_2=>simp at hl
    rename_i e' he'
    rw [e] at h1
    subst hgg
    obtain ⟨p,b,hp,hb,e1,hM⟩:=ptr_live h.heap h1 hob
    refine fin e1 ?_ hl
    exact ((hM.cellsAt hb he').drop off).mono fun _ _ h=>h.v
  · simp at hl
theorem set_back {l:List PV} {j:Nat} {v:PV}:(l.set j v).set j (l.getD j .junk)=l:=by
  rw [List.set_set]
  by_cases hj:j<l.length
  · rw [List.getD_eq_getElem?_getD,List.getElem?_eq_getElem hj,Option.getD_some,List.set_getElem_self]
  · rw [List.set_eq_of_length_le (by omega)]
theorem ok_storef (h:FrRel g c w fr a) {k:Option Nat} {x y:PX} {x' y':Operand} {t:TypeId} {i:TypeInfo} (ho:o.op=.store t x' y') (hk:kOK g.P t k=true) (hi:g.P.info? t=some i) (hx:g.matchX x x'=true) (hy:g.matchX y y'=true)
    (hs:stepOp g.E callE yieldE o.dst (.storef k x y) fr=some fr'):OpOK g c w fr fr' a o.dst ((execOp a.eval o).run g.P w):=by
  have hv:=h.x hy
  simp only [stepOp] at hs
  split at hs
  case h_2=>cases hs
  rename_i d j hd
  split at hs
  · cases hs
  rename_i hnt
  split at hs
  case h_2=>cases hs
  rename_i v h1 hf
  split at hs<;>simp only [Option.some.injEq,reduceCtorEq] at hs
  rename_i h2 hst
  subst hs
  have hv':VRel c w (fr.tmps.getD j .junk) (a.eval y'):=hv
  have hy2:y'=.tmp j:=by cases y'<;>simp [PG.matchX] at hy;rw [hy]
  subst hy2
  obtain ⟨c1,s1,f1,v1⟩:=frzD_ok h hv' hf
  have f2:=f1.retell (i:=j) v1
  have ex:evX g.E (fr.tmps.set j v) x=evX g.E fr.tmps x:=by
    cases x with
    | t i =>
      have hij:j≠i:=fun e=>hnt (by subst e;simp [PX.isT])
      simp only [evX,List.getD_eq_getElem?_getD,List.getElem?_set_ne hij]
    | c v=>rfl
    | g i=>rfl
  have ev:evX g.E (fr.tmps.set j v) (.t j)=v:=by
    simp only [evX,List.getD_eq_getElem?_getD]
    by_cases hj:j<fr.tmps.length
    · rw [List.getElem?_set_self hj,Option.getD_some]
    · rw [List.getElem?_eq_none (by simp;omega),Option.getD_none]
      rw [List.getD_eq_getElem?_getD,List.getElem?_eq_none (by omega),Option.getD_none] at hf
      simp [frzD,frzV] at hf
      exact hf.1
  obtain ⟨u,w',c2,hr,s2,f3⟩:=ok_store (callE:=callE) (yieldE:=yieldE) (o:=o) f2 ho hk hi hx hy (by
    rw [hd]
    refine storeV_spec (fr:=({ fr with heap:=h1 }:Fr).put (some j) v) (h':=h2) ?_
    show storeV (evX g.E (fr.tmps.set j v) x) h1 k (evX g.E (fr.tmps.set j v) (.t j))=some h2
    rw [ex,ev];exact hst)
  refine ⟨u,w',c2,hr,s1.trans s2,?_⟩
  rw [hd] at f3 ⊢
  have f4:=f3.retell (i:=j) (v:=fr.tmps.getD j .junk) (hv'.step (s1.trans s2) h.wf)
  have e:(({ ({ fr with heap:=h1 }:Fr).put (some j) v with heap:=h2 }:Fr).put none (.tuple [])).put (some j) (fr.tmps.getD j .junk)={ fr with heap:=h2 }:=by
    simp only [Fr.put,set_back]
  rw [e] at f4
  exact f4
theorem ok_loadf (h:FrRel g c w fr a) {k:Option Nat} {x:PX} {x':Operand} {t:TypeId} (ho:o.op=.load t x') (hk:kOK g.P t k=true) (hx:g.matchX x x'=true)
    (hs:stepOp g.E callE yieldE o.dst (.loadf k x) fr=some fr'):OpOK g c w fr fr' a o.dst ((execOp a.eval o).run g.P w):=by
  simp only [stepOp] at hs
  split at hs
  case h_2=>cases hs
  rename_i v hl
  split at hs<;>simp only [Option.some.injEq,reduceCtorEq] at hs
  rename_i v' h1 hf
  subst hs
  obtain ⟨r,hr,hv⟩:=load_val h ho hk hx hl
  obtain ⟨c1,s1,f1,v1⟩:=frzD_ok h hv hf
  exact ⟨r,w,c1,.inl hr,s1,f1.put o.dst v1⟩
end Go.VI
namespace Go.VI
variable {g:PG} {c:Ctx} {w:World} {fr fr':Fr} {a:Act} {o:Oper} {callE:CallE} {yieldE:Nm→List PV→Heap→Option (PV × Heap)}
def PG.elemOK (g:PG) (t:TypeId) (f:TypeId→TypeInfo→Bool):Bool :=
  match g.P.underlying t with
  | some (.slice E)=>(match g.P.info? E with
    | some i=>f E i
    | none=>false)
  | _=>false
theorem PG.elemOK_spec {t:TypeId} {f:TypeId→TypeInfo→Bool} (h:g.elemOK t f=true):∃ E i,g.P.underlying t=some (.slice E)∧g.P.info? E=some i∧f E i=true:=by
  unfold PG.elemOK at h
  split at h
  · rename_i E hE
    split at h
    · rename_i i hi;exact ⟨E,i,hE,hi,h⟩
    · cases h
  · cases h
def PG.arrOK (g:PG) (t:TypeId) (f:Nat→TypeId→TypeInfo→Bool):Bool :=
  match g.P.underlying t with
  | some (.array n E)=>(match g.P.info? E with
    | some i=>f n E i
    | none=>false)
  | _=>false
theorem PG.arrOK_spec {t:TypeId} {f:Nat→TypeId→TypeInfo→Bool} (h:g.arrOK t f=true):∃ n E i,g.P.underlying t=some (.array n E)∧g.P.info? E=some i∧f n E i=true:=by
  unfold PG.arrOK at h
  split at h
  · rename_i n E hE
    split at h
    · rename_i i hi;exact ⟨n,E,i,hE,hi,h⟩
    · cases h
  · cases h
def PG.mapOK (g:PG) (t:TypeId) (f:TypeId→TypeId→TypeDesc→Bool):Bool :=
  match g.P.underlying t with
  | some (.map k e)=>(match g.P.underlying k with
    | some d=>f k e d
    | none=>false)
  | _=>false
theorem PG.mapOK_spec {t:TypeId} {f:TypeId→TypeId→TypeDesc→Bool} (h:g.mapOK t f=true):∃ k e d,g.P.underlying t=some (.map k e)∧g.P.underlying k=some d∧f k e d=true:=by
  unfold PG.mapOK at h
  split at h
  · rename_i k e hE
    split at h
    · rename_i d hd;exact ⟨k,e,d,hE,hd,h⟩
    · cases h
  · cases h
def PG.fieldOK (g:PG) (t:TypeId) (fi:Nat) (f:Field→Bool):Bool :=
  match g.P.underlying t with
  | some (.struct fs)=>(match fs[fi]? with
    | some x=>f x
    | none=>false)
  | _=>false
theorem PG.fieldOK_spec {t:TypeId} {fi:Nat} {f:Field→Bool} (h:g.fieldOK t fi f=true):∃ fs x,g.P.underlying t=some (.struct fs)∧fs[fi]?=some x∧f x=true:=by
  unfold PG.fieldOK at h
  split at h
  · rename_i fs hE
    split at h
    · rename_i x hx;exact ⟨fs,x,hE,hx,h⟩
    · cases h
  · cases h
def PG.infoOK (g:PG) (t:TypeId) (f:TypeInfo→Bool):Bool :=
  match g.P.info? t with
  | some i=>f i
  | none=>false
theorem PG.infoOK_spec {t:TypeId} {f:TypeInfo→Bool} (h:g.infoOK t f=true):∃ i,g.P.info? t=some i∧f i=true:=by
  unfold PG.infoOK at h
  split at h
  · rename_i i hi;exact ⟨i,hi,h⟩
  · cases h
def zeroOK (i:TypeInfo) (f:Value→Bool):Bool :=
  match i.zero with
  | some z=>f z
  | none=>false
theorem Ya {i:TypeInfo} {f:Value→Bool} (h:zeroOK i f=true):∃ z,i.zero=some z∧f z=true:=by
  unfold zeroOK at h
  split at h
  · rename_i z hz;exact ⟨z,hz,h⟩
  · cases h
def isInt:Option TypeDesc→Bool
  | some (.int _)=>true
  | _=>false
def isStr (d:Option TypeDesc):Bool:=match d with|some .string=>true|_=>false
def isSome' {α:Type} (d:Option α):Bool:=match d with|some _=>true|_=>false
theorem isStr_spec {d:Option TypeDesc} (h:isStr d=true):d=some .string:=by unfold isStr at h;split at h<;>simp_all
theorem isSome'_spec {α:Type} {d:Option α} (h:isSome' d=true):∃ x,d=some x:=by unfold isSome' at h;split at h<;>simp_all
def PG.arg1 (g:PG) (x:PX) (l:List Operand):Bool:=match l with|[y]=>g.matchX x y|_=>false
theorem PG.arg1_spec {x:PX} {args:Array Operand} (h:g.arg1 x args.toList=true):∃ y,args=#[y]∧g.matchX x y=true:=by
  unfold PG.arg1 at h
  split at h
  · rename_i y hy;exact ⟨y,Array.ext' (by simpa using hy),h⟩
  · cases h
def tyOK (ty:Array TypeId) (f:TypeId→Bool):Bool:=match ty[0]? with|some t=>f t|none=>false
theorem tyOK_spec {ty:Array TypeId} {f:TypeId→Bool} (h:tyOK ty f=true):∃ t,ty[0]?=some t∧f t=true:=by
  unfold tyOK at h
  split at h
  · rename_i t ht;exact ⟨t,ht,h⟩
  · cases h
def PG.buildOK (g:PG) (t:TypeId) (ps:List (Nat × Nat × PX)) (qs:List (Nat × Operand)):Bool :=
  match g.P.underlying t with
  | some (.struct fs)=>(fs.toList.all fun f=>(g.P.info? f.type).isSome)&&g.matchParts (structPlace g.P fs) ps qs
  | some (.array _ e)=>(match g.P.info? e with
    | some ie=>g.matchParts (fun j=>some (j*ie.size,ie.size)) ps qs
    | none=>false)
  | _=>false
def PG.bslOK (g:PG) (t:TypeId) (n:Nat) (qs:Array (Nat × Operand)) (sz:Option Nat) (z:List PV) (ps:List (Nat × PX)):Bool :=
  g.elemOK t fun _ i=>zeroOK i fun zv=>Nat.beq z.length n&&z.all (fun e=>constZ e zv.cells)&&Nat.beq zv.cells.size i.size&&Nat.ble (n*i.size) 16777216&&g.matchElems ps qs.toList&&(match sz with|some s=>Nat.beq s i.size|none=>true)
def PG.callOK (g:PG) (f:PX) (args:List PX):Op→Bool
  | .call ⟨.value f',args',_⟩=>g.matchX f f'&&g.matchXs args args'.toList
  | _=>false
def PG.matchOp (g:PG) (p:POp) (o:Op):Bool :=
  match p with
  | .mov x=>(match o with
    | .move y=>g.matchX x y
    | .assign y=>g.matchX x y
    | .call ⟨.builtin .len,args,ty⟩=>(match x with
      | .c (.int .i64 n)=>Nat.beq args.size 1&&tyOK ty fun t=>g.arrOK t fun m _ _=>n==m
      | _=>false)
    | _=>false)
  | .frz x=>(match o with
    | .move y=>g.matchX x y
    | .assign y=>g.matchX x y
    | _=>false)
  | .vec _ _ _=>(match o with
    | .move (.const (.slice none 0 0))=>true
    | .assign (.const (.slice none 0 0))=>true
    | _=>false)
  | .pick c a b=>(match o with
    | .pick c' a' b'=>g.matchX c c'&&g.matchX a a'&&g.matchX b b'
    | _=>false)
  | .alloc _ z=>(match o with
    | .alloc t=>g.infoOK t fun i=>zeroOK i fun zv=>constZ z zv.cells
    | _=>false)
  | .box _ x=>(match o with
    | .box _ y=>g.matchX x y
    | _=>false)
  | .boxi x=>(match o with
    | .box _ y=>g.matchX x y
    | _=>false)
  | .build z ps=>(match o with
    | .build t qs=>g.infoOK t (fun i=>zeroOK i fun zv=>constOKL z zv.cells.toList)&&g.buildOK t ps qs.toList
    | _=>false)
  | .bsl z ps=>(match o with
    | .buildSlice t n qs=>g.bslOK t n qs none z ps
    | _=>false)
  | .bslm _ _ sz z ps=>(match o with
    | .buildSlice t n qs=>g.bslOK t n qs (some sz) z ps
    | _=>false)
  | .load k x|.loadf k x=>(match o with
    | .load t y=>kOK g.P t k&&g.matchX x y
    | _=>false)
  | .store k x y|.storef k x y=>(match o with
    | .store t x' y'=>kOK g.P t k&&isSome' (g.P.info? t)&&g.matchX x x'&&g.matchX y y'
    | _=>false)
  | .nilc x=>(match o with
    | .nilCheck y=>g.matchX x y
    | _=>false)
  | .bini op x y=>(match o with
    | .binOp op' _ x' y' _=>decide (op=op')&&g.matchX x x'&&g.matchX y y'
    | _=>false)
  | .bins op x y=>(match o with
    | .binOp op' _ x' y' _=>decide (op=op')&&g.matchX x x'&&g.matchX y y'
    | _=>false)
  | .eq neg sh x y=>(match o with
    | .binOp op t x' y' _=>decide (op=if neg then .neq else .eql)&&g.matchX x x'&&g.matchX y y'&&eqOK g.P sh t&&Nat.ble sh.depth 9999&&!g.P.eqGuardType g.P.depth t
    | _=>false)
  | .neg x=>(match o with
    | .unOp .neg _ y=>g.matchX x y
    | _=>false)
  | .compl x=>(match o with
    | .unOp .xor _ y=>g.matchX x y
    | _=>false)
  | .notb x=>(match o with
    | .unOp .not _ y=>g.matchX x y
    | _=>false)
  | .conv k x=>(match o with
    | .convert t t' y=>isSome' (g.P.underlying t)&&(match g.P.underlying t' with|some (.int k')=>decide (k=k')|_=>false)&&g.matchX x y
    | _=>false)
  | .convs x=>(match o with
    | .convert t t' y=>isStr (g.P.underlying t)&&isStr (g.P.underlying t')&&g.matchX x y
    | _=>false)
  | .mkfn f a b=>(match o with
    | .makeFunc (.func f') a' b'=>f==f'&&g.matchXs a a'.toList&&g.matchXs b b'.toList
    | _=>false)
  | .mkmap _=>(match o with
    | .makeMap _ none=>true
    | .makeMap t (some (.const (.int _ _)))=>g.mapOK t fun _ _ _=>true
    | _=>false)
  | .mkslice _ _ bytes z l n=>(match o with
    | .makeSlice t l' n'=>g.elemOK t (fun _ i=>zeroOK i fun zv=>constZ z zv.cells&&Nat.beq zv.cells.size i.size&&Nat.beq i.bytes bytes)&&g.matchX l l'&&g.matchX n n'
    | _=>false)
  | .sls x lo hi=>(match o with
    | .slice t x' lo' hi' none=>isStr (g.P.underlying t)&&g.matchX x x'&&g.matchO lo lo'&&g.matchO hi hi'
    | _=>false)
  | .slc sz x lo hi mx=>(match o with
    | .slice t x' lo' hi' mx'=>g.elemOK t (fun _ i=>Nat.beq i.size sz)&&g.matchX x x'&&g.matchO lo lo'&&g.matchO hi hi'&&g.matchO mx mx'
    | _=>false)
  | .faddr off x=>(match o with
    | .fieldAddr t y fi=>g.fieldOK t fi (fun f=>Nat.beq f.offset off&&g.infoOK f.type fun i=>!Nat.beq i.size 0)&&g.matchX x y
    | _=>false)
  | .fld off k x=>(match o with
    | .field t y fi=>g.fieldOK t fi (fun f=>Nat.beq f.offset off&&kOK g.P f.type k)&&g.matchX x y
    | _=>false)
  | .iaddr sz x i=>(match o with
    | .indexAddr t x' i'=>g.elemOK t (fun _ i=>Nat.beq i.size sz)&&g.matchX x x'&&g.matchX i i'
    | _=>false)
  | .iaddra n sz x i=>(match o with
    | .indexAddr t x' i'=>g.arrOK t (fun m _ i=>Nat.beq m n&&Nat.beq i.size sz)&&g.matchX x x'&&g.matchX i i'
    | _=>false)
  | .idx n sz k x i=>(match o with
    | .index t x' i'=>g.arrOK t (fun m e i=>Nat.beq m n&&Nat.beq i.size sz&&kOK g.P e k)&&g.matchX x x'&&g.matchX i i'
    | _=>false)
  | .idxs x i=>(match o with
    | .index t x' i'=>isStr (g.P.underlying t)&&g.matchX x x'&&g.matchX i i'
    | _=>false)
  | .lookup str z ok m k=>(match o with
    | .lookup t m' k' ok'=>(ok==ok')&&g.mapOK t (fun kt et _=>keyOK g.P kt str&&g.infoOK et fun i=>zeroOK i fun zv=>constOK z zv)&&g.matchX m m'&&g.matchX k k'
    | _=>false)
  | .mupd str m k x=>(match o with
    | .mapUpdate t m' k' x'=>g.mapOK t (fun kt _ _=>keyOK g.P kt str)&&g.matchX m m'&&g.matchX k k'&&g.matchX x x'
    | .insert t m' k' x'=>g.mapOK t (fun kt _ _=>keyOK g.P kt str)&&g.matchX m m'&&g.matchX k k'&&g.matchX x x'
    | _=>false)
  | .mentry str z m k=>(match o with
    | .mapEntry t m' k'=>g.mapOK t (fun kt et _=>keyOK g.P kt str&&g.infoOK et fun i=>zeroOK i fun zv=>constOK z zv)&&g.matchX m m'&&g.matchX k k'
    | _=>false)
  | .estore m k x=>(match o with
    | .entryStore _ m' k' x'=>g.matchX m m'&&g.matchX k k'&&g.matchX x x'
    | _=>false)
  | .rng _ x=>(match o with
    | .range t x'=>g.mapOK t (fun _ _ _=>true)&&g.matchX x x'
    | _=>false)
  | .entry x=>(match o with
    | .entry x'=>g.matchX x x'
    | _=>false)
  | .next x=>(match o with
    | .next x' false=>g.matchX x x'
    | _=>false)
  | .extract x i=>(match o with
    | .extract y j=>Nat.beq i j&&g.matchX x y
    | _=>false)
  | .lens x=>(match o with
    | .call ⟨.builtin .len,args,ty⟩=>g.arg1 x args.toList&&tyOK ty fun t=>isStr (g.P.underlying t)
    | _=>false)
  | .lenl x=>(match o with
    | .call ⟨.builtin .len,args,ty⟩=>g.arg1 x args.toList&&tyOK ty fun t=>g.elemOK t fun _ _=>true
    | _=>false)
  | .lenm x=>(match o with
    | .call ⟨.builtin .len,args,ty⟩=>g.arg1 x args.toList&&tyOK ty fun t=>g.mapOK t fun _ _ _=>true
    | _=>false)
  | .capl x=>(match o with
    | .call ⟨.builtin .cap,args,ty⟩=>g.arg1 x args.toList&&tyOK ty fun t=>g.elemOK t fun _ _=>true
    | _=>false)
  | .append _ _ sz bytes x y=>(match o with
    | .call ⟨.builtin .append,args,ty⟩=>(match args.toList,ty.toList with
      | [x',y'],[t,tx]=>g.elemOK t (fun _ i=>Nat.beq i.size sz&&Nat.beq i.bytes bytes&&zeroOK i fun zv=>Nat.beq zv.cells.size i.size)&&g.elemOK tx (fun _ _=>true)&&g.matchX x x'&&g.matchX y y'
      | _,_=>false)
    | _=>false)
  | .appf sz bytes x y=>(match o with
    | .call ⟨.builtin .append,args,ty⟩=>(match args.toList,ty.toList with
      | [x',y'],[t,tx]=>g.elemOK t (fun _ i=>Nat.beq i.size sz&&Nat.beq i.bytes bytes&&zeroOK i fun zv=>Nat.beq zv.cells.size i.size)&&g.elemOK tx (fun _ _=>true)&&g.matchX x x'&&g.matchX y y'
      | _,_=>false)
    | _=>false)
  | .appz _ _ bytes z x n=>(match o with
    | .call ⟨.builtin .append,args,ty⟩=>(match args.toList,ty.toList with
      | [x',n'],[t,tx]=>g.elemOK t (fun _ i=>zeroOK i fun zv=>constZ z zv.cells&&Nat.beq zv.cells.size i.size&&Nat.beq i.bytes bytes)&&isInt (g.P.underlying tx)&&g.matchX x x'&&g.matchX n n'
      | _,_=>false)
    | _=>false)
  | .mx x r=>(match o with
    | .call ⟨.builtin .max,args,_⟩=>g.matchXs (x::r) args.toList
    | _=>false)
  | .mn x r=>(match o with
    | .call ⟨.builtin .min,args,_⟩=>g.matchXs (x::r) args.toList
    | _=>false)
  | .eqnil k neg x=>(match o with
    | .binOp op t x' y' _=>decide (op=if neg then .neq else .eql)&&(match x',y' with
      | .const v,.const u=>(nilK g.P t u k&&g.matchX x (.const v))||(nilK g.P t v k&&g.matchX x (.const u))
      | .const v,y=>nilK g.P t v k&&g.matchX x y
      | y,.const v=>nilK g.P t v k&&g.matchX x y
      | _,_=>false)
    | _=>false)
  | .ptrq neg x=>(match o with
    | .binOp op t x' y' _=>decide (op=if neg then .neq else .eql)&&(match x',y' with
      | .const v,.const u=>(nilK g.P t u 1&&g.matchX x (.const v))||(nilK g.P t v 1&&g.matchX x (.const u))
      | .const v,y=>nilK g.P t v 1&&g.matchX x y
      | y,.const v=>nilK g.P t v 1&&g.matchX x y
      | _,_=>false)
    | _=>false)
  | .call f args=>g.callOK f args o
  | .calla _ _ f args=>g.callOK f args o
  | .defer f args=>(match o with
    | .defer ⟨.value f',args',_⟩=>g.matchX f f'&&g.matchXs args args'.toList
    | _=>false)
  | .stop=>true
  | _=>false
def POp.calls:POp→Bool
  | .call _ _=>true
  | .calla _ _ _ _=>true
  | .defer _ _=>true
  | _=>false
theorem Zm {a b:Nat} (h:Nat.beq a b=true):a=b:=Nat.eq_of_beq_eq_true h
theorem ok_lena (h:FrRel g c w fr a) {n:Nat} {E t:TypeId} {args:Array Operand} {ty:Array TypeId} (ho:o.op=.call { callee:=.builtin .len,args:=args,argTypes:=ty }) (hty:ty[0]?=some t) (hargs:args.size=1) (ht:g.P.underlying t=some (.array n E))
    (hs:stepOp g.E callE yieldE o.dst (.mov (.c (.int .i64 n))) fr=some fr'):OpOK g c w fr fr' a o.dst ((execOp a.eval o).run g.P w):=by
  simp only [stepOp,Option.some.injEq] at hs
  subst hs
  refine OpOK.value h _ (v:=.int .i64 n) ?_ (.i _ _ (.int _ _))
  obtain ⟨y,hy⟩:∃ y,args=#[y]:=by
    match args,hargs with
    | ⟨[y]⟩,_=>exact ⟨y,rfl⟩
  subst hy
  simp [execOp,ho,resolve,invoke,builtin,Builtin.len_,hty,Zc g.P _ ht,goInt]
theorem lay_slot {s:Nat} {dst:Option Nat} {p:POp} (hp:p.slot=some s):stepOp g.E callE yieldE dst p fr=fr.lay dst s (layE (evX g.E fr.tmps) (fr.nm s) p):=by
  cases p<;>simp [POp.slot] at hp<;>subst hp<;>rfl
end Go.VI
namespace Go.VI
variable {g:PG} {c:Ctx} {w:World} {fr fr':Fr} {a:Act} {o:Oper} {callE:CallE} {yieldE:Nm→List PV→Heap→Option (PV × Heap)}
theorem bslOK_spec {t:TypeId} {n:Nat} {qs:Array (Nat × Operand)} {sz:Option Nat} {z:List PV} {ps:List (Nat × PX)} (h:g.bslOK t n qs sz z ps=true) :
    ∃ E i zv,g.P.underlying t=some (.slice E)∧g.P.info? E=some i∧i.zero=some zv∧z.length=n∧z.all (fun e=>constZ e zv.cells)=true∧zv.cells.size=i.size∧n*i.size≤2 ^ 24∧g.matchElems ps qs.toList=true∧∀ s,sz=some s→s=i.size:=by
  obtain ⟨E,i,h1,h2,h3⟩:=PG.elemOK_spec h
  obtain ⟨zv,h4,h5⟩:=Ya h3
  simp only [Bool.and_eq_true] at h5
  obtain ⟨⟨⟨⟨⟨h6,h7⟩,h8⟩,h9⟩,h10⟩,h11⟩:=h5
  refine ⟨E,i,zv,h1,h2,h4,Zm h6,h7,Zm h8,Nat.le_of_ble_eq_true h9,h10,fun s hs=>?_⟩
  subst hs
  exact Zm h11
theorem lay_op (h:FrRel g c w fr a) {n:Nm} {k s:Nat} (hR:Room c n k) {p:POp} {pv:PV} {ob:Ob} (hm:g.matchOp p o.op=true) (hp:p.slot=some s) (hs:layE (evX g.E fr.tmps) n p k=some (pv,ob)) :
    LayOK g c w n k ob pv ((execOp a.eval o).run g.P w):=by
  generalize ho:o.op=op at hm
  cases p<;>simp only [POp.slot,reduceCtorEq,Option.some.injEq] at hp
  case vec s' cl sz =>
    simp only [PG.matchOp] at hm
    split at hm
    · exact lay_vec h hR (.inr ho) hs
    · exact lay_vec h hR (.inl ho) hs
    · cases hm
  case alloc s' z =>
    simp only [PG.matchOp] at hm
    split at hm
    · obtain ⟨i,h1,h2⟩:=PG.infoOK_spec hm
      obtain ⟨zv,h3,h4⟩:=Ya h2
      exact lay_alloc h hR ho h1 h3 h4 hs
    · cases hm
  case box s' x =>
    simp only [PG.matchOp] at hm
    split at hm
    · exact lay_box h hR ho hm hs
    · cases hm
  case bslm s' cl sz z ps =>
    simp only [PG.matchOp] at hm
    split at hm
    · obtain ⟨E,i,zv,h1,h2,h3,h4,h5,h6,h7,h8,h9⟩:=bslOK_spec hm
      have:=h9 sz rfl
      subst this
      exact lay_bslm h hR ho h1 h2 h3 h4 h5 h6 h7 h8 hs
    · cases hm
  case mkmap s' =>
    simp only [PG.matchOp] at hm
    split at hm
    · exact lay_mkmap h hR ho (.inl rfl) hs
    · obtain ⟨k',e,d,h1,h2,_⟩:=PG.mapOK_spec hm
      exact lay_mkmap h hR ho (.inr ⟨k',e,_,_,h1,rfl⟩) hs
    · cases hm
  case mkslice s' cl bytes z l n' =>
    simp only [PG.matchOp] at hm
    split at hm
    · simp only [Bool.and_eq_true] at hm
      obtain ⟨⟨h0,hl⟩,hn⟩:=hm
      obtain ⟨E,i,h1,h2,h3⟩:=PG.elemOK_spec h0
      obtain ⟨zv,h4,h5⟩:=Ya h3
      simp only [Bool.and_eq_true] at h5
      exact lay_mkslice h hR ho h1 h2 h4 h5.1.1 (Zm h5.1.2) (Zm h5.2) hl hn hs
    · cases hm
theorem ok_op (h:FrRel g c w fr a) {p:POp} (hm:g.matchOp p o.op=true) (hn:p.calls=false) (hs:stepOp g.E callE yieldE o.dst p fr=some fr'):OpOK g c w fr fr' a o.dst ((execOp a.eval o).run g.P w):=by
  cases hsl:p.slot with
  | some s =>
    rw [lay_slot hsl] at hs
    exact OpOK.lay h hs fun k pv ob hR hf=>lay_op h hR hm hsl hf
  | none =>
  generalize ho:o.op=op at hm
  cases p<;>simp only [POp.slot,reduceCtorEq] at hsl<;>simp only [POp.calls,reduceCtorEq] at hn<;>simp only [PG.matchOp] at hm
  case mov x =>
    split at hm
    · exact ok_mov h (.inl ho) hm hs
    · exact ok_mov h (.inr ho) hm hs
    · split at hm
      · simp only [Bool.and_eq_true] at hm
        obtain ⟨h1,h2⟩:=hm
        obtain ⟨t,h3,h4⟩:=tyOK_spec h2
        obtain ⟨n,E,i,h5,h6,h7⟩:=PG.arrOK_spec h4
        simp only [beq_iff_eq] at h7
        subst h7
        exact ok_lena h ho h3 (Zm h1) h5 hs
      · cases hm
    · cases hm
  case frz x =>
    split at hm
    · exact ok_frz h (.inr ho) hm hs
    · exact ok_frz h (.inl ho) hm hs
    · cases hm
  case pick c a b =>
    split at hm
    · simp only [Bool.and_eq_true] at hm
      exact ok_pick h ho hm.1.1 hm.1.2 hm.2 hs
    · cases hm
  case boxi x =>
    split at hm
    · exact ok_boxi h ho hm hs
    · cases hm
  case build z ps =>
    split at hm
    · rename_i t qs
      simp only [Bool.and_eq_true] at hm
      obtain ⟨i,h1,h2⟩:=PG.infoOK_spec hm.1
      obtain ⟨zv,h3,h4⟩:=Ya h2
      have h5:=hm.2
      unfold PG.buildOK at h5
      split at h5
      · rename_i fs hfs
        simp only [Bool.and_eq_true] at h5
        exact ok_build h ho h1 h3 h4 hfs (.inl ⟨fs,rfl,h5.1,rfl⟩) h5.2 hs
      · rename_i n e hfs
        split at h5
        · rename_i ie hie
          exact ok_build h ho h1 h3 h4 hfs (.inr ⟨n,e,ie,rfl,hie,rfl⟩) h5 hs
        · cases h5
      · cases h5
    · cases hm
  case bsl z ps =>
    split at hm
    · obtain ⟨E,i,zv,h1,h2,h3,h4,h5,h6,h7,h8,_⟩:=bslOK_spec hm
      exact ok_bsl h ho h1 h2 h3 h4 h5 h6 h7 h8 hs
    · cases hm
  case load k x =>
    split at hm
    · simp only [Bool.and_eq_true] at hm
      exact ok_load h ho hm.1 hm.2 hs
    · cases hm
  case store k x y =>
    split at hm
    · simp only [Bool.and_eq_true] at hm
      obtain ⟨i,hi⟩:=isSome'_spec hm.1.1.2
      exact ok_store h ho hm.1.1.1 hi hm.1.2 hm.2 hs
    · cases hm
  case loadf k x =>
    split at hm
    · simp only [Bool.and_eq_true] at hm
      exact ok_loadf h ho hm.1 hm.2 hs
    · cases hm
  case storef k x y =>
    split at hm
    · simp only [Bool.and_eq_true] at hm
      obtain ⟨i,hi⟩:=isSome'_spec hm.1.1.2
      exact ok_storef h ho hm.1.1.1 hi hm.1.2 hm.2 hs
    · cases hm
  case nilc x =>
    split at hm
    · exact ok_nilc h ho hm hs
    · cases hm
  case bini op x y =>
    split at hm
    · simp only [Bool.and_eq_true,decide_eq_true_eq] at hm
      obtain ⟨⟨rfl,h1⟩,h2⟩:=hm
      exact ok_bini h ho h1 h2 hs
    · cases hm
  case bins op x y =>
    split at hm
    · simp only [Bool.and_eq_true,decide_eq_true_eq] at hm
      obtain ⟨⟨rfl,h1⟩,h2⟩:=hm
      exact ok_bins h ho h1 h2 hs
    · cases hm
  case eq neg sh x y =>
    split at hm
    · simp only [Bool.and_eq_true,decide_eq_true_eq,Bool.not_eq_true'] at hm
      obtain ⟨⟨⟨⟨⟨rfl,h1⟩,h2⟩,h3⟩,h4⟩,h5⟩:=hm
      exact ok_eq h ho h1 h2 h3 (Nat.le_of_ble_eq_true h4) h5 hs
    · cases hm
  case neg x =>
    split at hm
    · exact ok_neg h ho hm hs
    · cases hm
  case compl x =>
    split at hm
    · exact ok_compl h ho hm hs
    · cases hm
  case notb x =>
    split at hm
    · exact ok_notb h ho hm hs
    · cases hm
  case conv k x =>
    split at hm
    · simp only [Bool.and_eq_true] at hm
      obtain ⟨⟨h1,h2⟩,h3⟩:=hm
      obtain ⟨d,hd⟩:=isSome'_spec h1
      split at h2
      · rename_i k' hk'
        simp only [decide_eq_true_eq] at h2
        subst h2
        exact ok_conv h ho hd hk' h3 hs
      · cases h2
    · cases hm
  case convs x =>
    split at hm
    · simp only [Bool.and_eq_true] at hm
      exact ok_convs h ho (isStr_spec hm.1.1) (isStr_spec hm.1.2) hm.2 hs
    · cases hm
  case mkfn f p q =>
    split at hm
    · simp only [Bool.and_eq_true,beq_iff_eq] at hm
      obtain ⟨⟨rfl,h1⟩,h2⟩:=hm
      exact ok_mkfn h ho h1 h2 hs
    · cases hm
  case sls x lo hi =>
    split at hm
    · simp only [Bool.and_eq_true] at hm
      exact ok_sls h ho (isStr_spec hm.1.1.1) hm.1.1.2 hm.1.2 hm.2 hs
    · cases hm
  case slc sz x lo hi mx =>
    split at hm
    · simp only [Bool.and_eq_true] at hm
      obtain ⟨⟨⟨⟨h1,h2⟩,h3⟩,h4⟩,h5⟩:=hm
      obtain ⟨E,i,h6,h7,h8⟩:=PG.elemOK_spec h1
      exact ok_slc h ho h6 h7 (Zm h8) h2 h3 h4 h5 hs
    · cases hm
  case faddr off x =>
    split at hm
    · simp only [Bool.and_eq_true] at hm
      obtain ⟨fs,f,h1,h2,h3⟩:=PG.fieldOK_spec hm.1
      simp only [Bool.and_eq_true] at h3
      obtain ⟨i,h4,h5⟩:=PG.infoOK_spec h3.2
      exact ok_faddr h ho h1 h2 h4 (fun e=>by rw [e] at h5;simp at h5) (Zm h3.1) hm.2 hs
    · cases hm
  case fld off k x =>
    split at hm
    · simp only [Bool.and_eq_true] at hm
      obtain ⟨fs,f,h1,h2,h3⟩:=PG.fieldOK_spec hm.1
      simp only [Bool.and_eq_true] at h3
      exact ok_fld h ho h1 h2 h3.2 (Zm h3.1) hm.2 hs
    · cases hm
  case iaddr sz x i =>
    split at hm
    · simp only [Bool.and_eq_true] at hm
      obtain ⟨E,i,h1,h2,h3⟩:=PG.elemOK_spec hm.1.1
      exact ok_iaddr h ho h1 h2 (Zm h3) hm.1.2 hm.2 hs
    · cases hm
  case iaddra n sz x i =>
    split at hm
    · simp only [Bool.and_eq_true] at hm
      obtain ⟨m,E,i,h1,h2,h3⟩:=PG.arrOK_spec hm.1.1
      simp only [Bool.and_eq_true] at h3
      have:=Zm h3.1
      subst this
      exact ok_iaddra h ho h1 h2 (Zm h3.2) hm.1.2 hm.2 hs
    · cases hm
  case idx n sz k x i =>
    split at hm
    · simp only [Bool.and_eq_true] at hm
      obtain ⟨m,E,i,h1,h2,h3⟩:=PG.arrOK_spec hm.1.1
      simp only [Bool.and_eq_true] at h3
      have:=Zm h3.1.1
      subst this
      exact ok_idx h ho h1 h2 (Zm h3.1.2) h3.2 hm.1.2 hm.2 hs
    · cases hm
  case idxs x i =>
    split at hm
    · simp only [Bool.and_eq_true] at hm
      exact ok_idxs h ho (isStr_spec hm.1.1) hm.1.2 hm.2 hs
    · cases hm
  case lookup str z ok m k =>
    split at hm
    · simp only [Bool.and_eq_true,beq_iff_eq] at hm
      obtain ⟨⟨⟨rfl,h1⟩,h2⟩,h3⟩:=hm
      obtain ⟨kt,et,d,h4,h5,h6⟩:=PG.mapOK_spec h1
      simp only [Bool.and_eq_true] at h6
      obtain ⟨i,h7,h8⟩:=PG.infoOK_spec h6.2
      obtain ⟨zv,h9,h10⟩:=Ya h8
      exact ok_lookup h ho h4 h5 h6.1 h7 h9 h10 h2 h3 hs
    · cases hm
  case mupd str m k x =>
    split at hm
    · simp only [Bool.and_eq_true] at hm
      obtain ⟨⟨⟨h1,h2⟩,h3⟩,h4⟩:=hm
      obtain ⟨kt,et,d,h5,h6,h7⟩:=PG.mapOK_spec h1
      exact ok_mupd h (.inl ho) h5 h6 h7 h2 h3 h4 hs
    · simp only [Bool.and_eq_true] at hm
      obtain ⟨⟨⟨h1,h2⟩,h3⟩,h4⟩:=hm
      obtain ⟨kt,et,d,h5,h6,h7⟩:=PG.mapOK_spec h1
      exact ok_mupd h (.inr ho) h5 h6 h7 h2 h3 h4 hs
    · cases hm
  case mentry str z m k =>
    split at hm
    · simp only [Bool.and_eq_true] at hm
      obtain ⟨⟨h1,h2⟩,h3⟩:=hm
      obtain ⟨kt,et,d,h4,h5,h6⟩:=PG.mapOK_spec h1
      simp only [Bool.and_eq_true] at h6
      obtain ⟨i,h7,h8⟩:=PG.infoOK_spec h6.2
      obtain ⟨zv,h9,h10⟩:=Ya h8
      exact ok_mentry h ho h4 h5 h6.1 h7 h9 h10 h2 h3 hs
    · cases hm
  case estore m k x =>
    split at hm
    · simp only [Bool.and_eq_true] at hm
      obtain ⟨⟨h1,h2⟩,h3⟩:=hm
      exact ok_estore h ho h1 h2 h3 hs
    · cases hm
  case rng s x =>
    split at hm
    · simp only [Bool.and_eq_true] at hm
      obtain ⟨h1,h2⟩:=hm
      obtain ⟨kt,et,d,h4,h5,h6⟩:=PG.mapOK_spec h1
      exact ok_rng h ho h4 h2 hs
    · cases hm
  case entry x =>
    split at hm
    · exact ok_entry h ho hm hs
    · cases hm
  case next x=>simp [stepOp] at hs
  case extract x i =>
    split at hm
    · simp only [Bool.and_eq_true] at hm
      have:=Zm hm.1
      subst this
      exact ok_extract h ho hm.2 hs
    · cases hm
  case lens x =>
    split at hm
    · simp only [Bool.and_eq_true] at hm
      obtain ⟨y,rfl,h1⟩:=PG.arg1_spec hm.1
      obtain ⟨t,h2,h3⟩:=tyOK_spec hm.2
      exact ok_lens h ho h2 (isStr_spec h3) h1 hs
    · cases hm
  case lenl x =>
    split at hm
    · simp only [Bool.and_eq_true] at hm
      obtain ⟨y,rfl,h1⟩:=PG.arg1_spec hm.1
      obtain ⟨t,h2,h3⟩:=tyOK_spec hm.2
      obtain ⟨E,i,h4,_,_⟩:=PG.elemOK_spec h3
      exact ok_lenl h ho h2 h4 h1 hs
    · cases hm
  case lenm x =>
    split at hm
    · simp only [Bool.and_eq_true] at hm
      obtain ⟨y,rfl,h1⟩:=PG.arg1_spec hm.1
      obtain ⟨t,h2,h3⟩:=tyOK_spec hm.2
      obtain ⟨k,e,d,h4,_,_⟩:=PG.mapOK_spec h3
      exact ok_lenm h ho h2 h4 h1 hs
    · cases hm
  case capl x =>
    split at hm
    · simp only [Bool.and_eq_true] at hm
      obtain ⟨y,rfl,h1⟩:=PG.arg1_spec hm.1
      obtain ⟨t,h2,h3⟩:=tyOK_spec hm.2
      obtain ⟨E,i,h4,_,_⟩:=PG.elemOK_spec h3
      exact ok_capl h ho h2 h4 h1 hs
    · cases hm
  case append s cl sz bytes x y =>
    split at hm
    · rename_i args ty
      split at hm
      · rename_i x' y' t tx hargs hty
        simp only [Bool.and_eq_true] at hm
        obtain ⟨⟨⟨h1,h2⟩,h3⟩,h4⟩:=hm
        obtain ⟨E,i,h5,h6,h7⟩:=PG.elemOK_spec h1
        obtain ⟨E',i',h8,_,_⟩:=PG.elemOK_spec h2
        simp only [Bool.and_eq_true] at h7
        obtain ⟨zv,h9,h10⟩:=Ya h7.2
        have e1:args=#[x',y']:=Array.ext' (by simpa using hargs)
        have e2:ty=#[t,tx]:=Array.ext' (by simpa using hty)
        subst e1 e2
        have:=Zm h7.1.1
        subst this
        exact ok_append h ho h5 h8 h6 h9 (Zm h10) (Zm h7.1.2) h3 h4 hs
      · cases hm
    · cases hm
  case appf sz bytes x y =>
    split at hm
    · rename_i args ty
      split at hm
      · rename_i x' y' t tx hargs hty
        simp only [Bool.and_eq_true] at hm
        obtain ⟨⟨⟨h1,h2⟩,h3⟩,h4⟩:=hm
        obtain ⟨E,i,h5,h6,h7⟩:=PG.elemOK_spec h1
        obtain ⟨E',i',h8,_,_⟩:=PG.elemOK_spec h2
        simp only [Bool.and_eq_true] at h7
        obtain ⟨zv,h9,h10⟩:=Ya h7.2
        have e1:args=#[x',y']:=Array.ext' (by simpa using hargs)
        have e2:ty=#[t,tx]:=Array.ext' (by simpa using hty)
        subst e1 e2
        have:=Zm h7.1.1
        subst this
        exact ok_appf h ho h5 h8 h6 h9 (Zm h10) (Zm h7.1.2) h3 h4 hs
      · cases hm
    · cases hm
  case appz s cl bytes z x n =>
    split at hm
    · rename_i args ty
      split at hm
      · rename_i x' n' t tx hargs hty
        simp only [Bool.and_eq_true] at hm
        obtain ⟨⟨⟨h1,h2⟩,h3⟩,h4⟩:=hm
        obtain ⟨E,i,h5,h6,h7⟩:=PG.elemOK_spec h1
        obtain ⟨zv,h9,h10⟩:=Ya h7
        simp only [Bool.and_eq_true] at h10
        obtain ⟨kk,h11⟩:∃ kk,g.P.underlying tx=some (.int kk):=by
          unfold isInt at h2
          split at h2
          · rename_i kk e;exact ⟨kk,e⟩
          · cases h2
        have e1:args=#[x',n']:=Array.ext' (by simpa using hargs)
        have e2:ty=#[t,tx]:=Array.ext' (by simpa using hty)
        subst e1 e2
        exact ok_appz h ho h5 h11 h6 h9 h10.1.1 (Zm h10.1.2) (Zm h10.2) h3 h4 hs
      · cases hm
    · cases hm
  case mx x r =>
    split at hm
    · rename_i args ty
      match hargs:args.toList,hm with
      | x'::r',hm =>
        simp only [PG.matchXs,Bool.and_eq_true] at hm
        exact ok_mx h (r':=r'.toArray) ho (by simpa using hargs) hm.1 (by simpa using hm.2) hs
    · cases hm
  case mn x r =>
    split at hm
    · rename_i args ty
      match hargs:args.toList,hm with
      | x'::r',hm =>
        simp only [PG.matchXs,Bool.and_eq_true] at hm
        exact ok_mn h (r':=r'.toArray) ho (by simpa using hargs) hm.1 (by simpa using hm.2) hs
    · cases hm
  case eqnil k neg x =>
    split at hm
    · simp only [Bool.and_eq_true,decide_eq_true_eq] at hm
      obtain ⟨rfl,hm⟩:=hm
      split at hm
      · simp only [Bool.or_eq_true,Bool.and_eq_true] at hm
        rcases hm with hm|hm
        · exact ok_eqnil h (.inl ho) hm.1 hm.2 hs
        · exact ok_eqnil h (.inr ho) hm.1 hm.2 hs
      · simp only [Bool.and_eq_true] at hm
        exact ok_eqnil h (.inr ho) hm.1 hm.2 hs
      · simp only [Bool.and_eq_true] at hm
        exact ok_eqnil h (.inl ho) hm.1 hm.2 hs
      · cases hm
    · cases hm
  case ptrq neg x =>
    split at hm
    · simp only [Bool.and_eq_true,decide_eq_true_eq] at hm
      obtain ⟨rfl,hm⟩:=hm
      split at hm
      · simp only [Bool.or_eq_true,Bool.and_eq_true] at hm
        rcases hm with hm|hm
        · exact ok_ptrq h (.inl ho) hm.1 hm.2 hs
        · exact ok_ptrq h (.inr ho) hm.1 hm.2 hs
      · simp only [Bool.and_eq_true] at hm
        exact ok_ptrq h (.inr ho) hm.1 hm.2 hs
      · simp only [Bool.and_eq_true] at hm
        exact ok_ptrq h (.inl ho) hm.1 hm.2 hs
      · cases hm
    · cases hm
  case stop=>simp [stepOp] at hs
  all_goals first|cases hm|skip
end Go.VI
namespace Go.VI
variable {g:PG} {c:Ctx} {w:World} {fr fr':Fr} {a:Act}
structure HS (g:PG) (c:Ctx) (w:World) (h:Heap):Prop where
  heap:HRel g.MC c h w
  wf:WF g.G c w
  hn:∀ n,hget h n=none→c.gen n=0∧c.obj n=none
theorem FrRel.hs (h:FrRel g c w fr a):HS g c w fr.heap:=⟨h.heap,h.wf,h.hn⟩
theorem FrRel.after (h:FrRel g c w fr a) {c':Ctx} {w':World} {hp:Heap} (hS:Step N0 c w c' w') (hh:HS g c' w' hp):FrRel g c' w' { fr with heap:=hp } a :=
  ⟨h.size,fun i=>(h.tmps i).step hS h.wf,hh.heap,hh.wf,DefRel.step hS h.wf heap_lt h.defs,hh.hn⟩
def Ctx.upTo (c:Ctx) (L:Nat):Ctx where
  imm b:=c.imm b∨∃ n p,L≤n.1∧c.obj n=some p∧p.blk=some b
  obj n:=if n.1<L then c.obj n else none
  gen n:=if n.1<L then c.gen n else 0
theorem IRel.upTo {L:Nat} {v:PV} {u:Value} (h:IRel c.imm w v u):IRel (c.upTo L).imm w v u:=h.mono (fun _ hb=>.inl hb) fun _ _=>rfl
theorem VRel.upTo {L:Nat} {v:PV} {u:Value} (h:VRel c w v u) (hl:v.low L=true):VRel (c.upTo L) w v u:=by
  have lt:∀ {n:Nm},Nat.blt n.1 L=true→n.1<L:=fun h=>by simpa using h
  induction h with
  | i v u hi=>exact .i _ _ hi.upTo
  | agg cs us hl' h1 _ ih=>exact .agg cs us hl' h1 fun i cv u hc hu=>ih i cv u hc hu (Z1 hl hc)
  | tuple cs us hl' _ ih=>exact .tuple cs us hl' fun i cv u hc hu=>ih i cv u hc hu (Z1 hl hc)
  | fn f a b xs ys ha hb _ _ i1 i2 =>
    have hf':PV.lowL L a=true∧PV.lowL L b=true:=by simpa [PV.low] using hl
    exact .fn f a b xs ys ha hb (fun i cv u hc hu=>i1 i cv u hc hu (Z1 hf'.1 hc)) (fun i cv u hc hu=>i2 i cv u hc hu (Z1 hf'.2 hc))
  | slStale n gg off len u hg h1=>have:=lt hl;exact .slStale n gg off len u (by simp only [Ctx.upTo,if_pos this];exact hg) h1
  | slNil n gg p hg hp hb=>have:=lt hl;exact .slNil n gg p (by simp only [Ctx.upTo,if_pos this];exact hg) (by simp only [Ctx.upTo,if_pos this];exact hp) hb
  | sl n gg off len p b hg hp hb hll=>have:=lt hl;exact .sl n gg off len p b (by simp only [Ctx.upTo,if_pos this];exact hg) (by simp only [Ctx.upTo,if_pos this];exact hp) hb hll
  | slE n gg off p A hg hp hll=>have:=lt hl;exact .slE n gg off p A (by simp only [Ctx.upTo,if_pos this];exact hg) (by simp only [Ctx.upTo,if_pos this];exact hp) hll
  | ptrStale n gg i off u hg h1=>have:=lt hl;exact .ptrStale n gg i off u (by simp only [Ctx.upTo,if_pos this];exact hg) h1
  | ptr n gg i off p b hg hp hb=>have:=lt hl;exact .ptr n gg i off p b (by simp only [Ctx.upTo,if_pos this];exact hg) (by simp only [Ctx.upTo,if_pos this];exact hp) hb
  | mapStale n gg u hg h1=>have:=lt hl;exact .mapStale n gg u (by simp only [Ctx.upTo,if_pos this];exact hg) h1
  | map n gg p b hg hp hb=>have:=lt hl;exact .map n gg p b (by simp only [Ctx.upTo,if_pos this];exact hg) (by simp only [Ctx.upTo,if_pos this];exact hp) hb
  | yldStale n gg u hg h1=>have:=lt hl;exact .yldStale n gg u (by simp only [Ctx.upTo,if_pos this];exact hg) h1
  | yld n gg p b hg hp hb=>have:=lt hl;exact .yld n gg p b (by simp only [Ctx.upTo,if_pos this];exact hg) (by simp only [Ctx.upTo,if_pos this];exact hp) hb
theorem mapO_spec {α β:Type} {f:α→Option β}:∀ {l:List α} {r:List β},mapO f l=some r→r.length=l.length∧∀ (i:Nat) y,r[i]?=some y→∃ x,l[i]?=some x∧f x=some y
  | [],r,h=>by simp only [mapO,Option.some.injEq] at h;subst h;exact ⟨rfl,fun i y hy=>by simp at hy⟩
  | x::l,r,h=>by
    simp only [mapO] at h
    split at h
    · cases h
    rename_i a ha
    split at h<;>simp only [Option.some.injEq,reduceCtorEq] at h
    rename_i l' hl
    subst h
    obtain ⟨h1,h2⟩:=mapO_spec hl
    refine ⟨by simp [h1],fun i y hy=>?_⟩
    cases i with
    | zero=>simp at hy;subst hy;exact ⟨x,rfl,ha⟩
    | succ i=>exact h2 i y (by simpa using hy)
theorem snap_irel {L:Nat} {h:Heap} (hH:HRel g.MC c h w) (C:Ctx) (hC:∀ {v u},VRel c w v u→v.low L=true→VRel C w v u) (hI:∀ b,c.imm b→C.imm b) (hB:∀ n p b,c.obj n=some p→p.blk=some b→¬ n.1<L→C.imm b) :
    ∀ (d:Nat) (v v':PV) (u:Value),snap h L d v=some v'→VRel c w v u→VRel C w v' u:=by
  intro d
  induction d with
  | zero =>
    intro v v' u hs hv
    simp only [snap] at hs
    split at hs<;>simp only [Option.some.injEq,reduceCtorEq] at hs
    rename_i hl
    exact hs ▸ hC hv hl
  | succ d ih =>
    intro v v' u hs hv
    simp only [snap] at hs
    split at hs
    · rename_i hl
      simp only [Option.some.injEq] at hs
      exact hs ▸ hC hv hl
    rename_i hnl
    split at hs
    · rename_i n gg off len
      split at hs
      case h_2=>cases hs
      rename_i el g' osz hob
      split at hs<;>simp only [Option.some.injEq,reduceCtorEq] at hs
      rename_i hc
      obtain ⟨rfl,hle⟩:=hc
      subst hs
      have hnL:¬ n.1<L:=by simpa [PV.low] using hnl
      obtain ⟨p,hp,hM,hx⟩:=sl_live (fr:={ lvl:=0,tmps:=[],heap:=h,defers:=[] }) hH hv hob
      have empty:∀ b,IRel C.imm w (.vs .any []) (.slice (some b) 0 0):=fun b=>.vsE .any b (by simp)
      refine .i _ _ ?_
      rcases hx with ⟨hb,rfl,rfl,rfl⟩|⟨b,hb,hcap,rfl⟩|⟨rfl,_,x,rfl⟩
      · rw [List.take_zero];exact .vsNone _ (by simp)
      · have hlen:((el.drop off).take len).length=len:=by simp;omega
        have hyi:∀ i,((el.drop off).take len)[i]?=if i<len then el[off+i]? else none:=by
          intro i
          rw [List.getElem?_take,List.getElem?_drop]
        obtain ⟨arr,E,ha,hsize,hcell⟩:=hM.row b hb
        have hpick:∀ i j,∃ u,i<len→j<p.sz→w.cell? ⟨b,p.base+off*p.sz+i*p.sz+j,none⟩=some u∧u.oneCell'=true∧∀ e cv,el[off+i]?=some e→e.cells[j]?=some cv→IRel C.imm w cv u:=by
          intro i j
          by_cases hc:i<len∧j<p.sz
          · have hee:el[off+i]?=some (el[off+i]'(by omega)):=List.getElem?_eq_getElem (by omega)
            have hcl2:=hM.sz _ _ hee
            have hcv:(el[off+i]'(by omega)).cells[j]?=some ((el[off+i]'(by omega)).cells[j]'(by omega)):=List.getElem?_eq_getElem (by omega)
            obtain ⟨u,h5,h6,h7⟩:=hcell _ j _ _ hee hcv
            refine ⟨u,fun _ _=>⟨?_,h6,fun e cv he hcv'=>?_⟩⟩
            · have:p.base+off*p.sz+i*p.sz+j=p.base+(off+i)*p.sz+j:=by rw [Nat.add_mul];omega
              rw [this]
              simp [World.cell?,ha,h5]
            · rw [hee] at he
              simp only [Option.some.injEq] at he
              subst he
              rw [hcv] at hcv'
              simp only [Option.some.injEq] at hcv'
              subst hcv'
              exact IRel.mono hI (fun _ _=>rfl) h7
          · exact ⟨undef,fun h1 h2=>absurd ⟨h1,h2⟩ hc⟩
        have:=IRel.vs (imm:=C.imm) (w:=w) .any ((el.drop off).take len) b (p.base+off*p.sz) (p.cap - off) p.sz (fun i j=>(hpick i j).choose) (by simp) (by rw [hlen];omega) (by simp)
          (fun i e he=>by
            rw [hyi] at he
            split at he
            · exact hM.sz _ e he
            · cases he)
          (fun i j hi hj=>by
            rw [hlen] at hi
            obtain ⟨h1,h2,_⟩:=(hpick i j).choose_spec hi hj
            exact ⟨hB n p b hp hb hnL,h1,h2⟩)
          (fun i j e cv he hcv=>by
            rw [hyi] at he
            split at he
            · rename_i hi
              have hj:j<p.sz:=by have:=hM.sz _ e he;have:=Zb hcv;omega
              obtain ⟨_,_,h3⟩:=(hpick i j).choose_spec hi hj
              exact h3 e cv he hcv
            · cases he)
        rw [hlen] at this
        exact this
      · rw [List.take_zero];exact empty x
    · rename_i n gg i off
      split at hs
      case h_2=>cases hs
      rename_i el g' cl osz hob
      split at hs
      case isFalse=>cases hs
      rename_i hgg
      subst hgg
      split at hs
      case h_2=>cases hs
      rename_i e he
      split at hs
      case h_2=>cases hs
      rename_i cs hcs
      split at hs<;>simp only [Option.some.injEq,reduceCtorEq] at hs
      rename_i hlow
      subst hs
      have hnL:¬ n.1<L:=by simpa [PV.low] using hnl
      obtain ⟨p,b,hp,hb,rfl,hM⟩:=ptr_live (fr:={ lvl:=0,tmps:=[],heap:=h,defers:=[] }) hH hv hob
      obtain ⟨hl,hm⟩:=mapO_spec hcs
      refine .i _ _ (Yk (c:=C) (fun j cv hj=>?_) fun j hj=>hB n p b hp hb hnL)
      obtain ⟨x,hx,hsx⟩:=hm j cv hj
      have hx':e.cells[off+j]?=some x:=by simpa [List.getElem?_drop] using hx
      obtain ⟨u,h1,h2,h3⟩:=hM.cellsAt hb he (off+j) x hx'
      refine ⟨u,by rw [Nat.add_assoc];exact h1,h2,?_⟩
      exact (ih x cv u hsx h3.v).pure (Z1 hlow hj)
    · rename_i cs
      simp only [Option.map_eq_some_iff] at hs
      obtain ⟨r,hr,rfl⟩:=hs
      obtain ⟨us,rfl,h1,h2,h3⟩:=hv.agg_inv
      obtain ⟨hl,hm⟩:=mapO_spec hr
      refine .agg r us (hl.trans h1) h2 fun i cv x hi hx=>?_
      obtain ⟨y,hy,hsy⟩:=hm i cv hi
      exact ih y cv x hsy (h3 i y x hy hx)
    · rename_i cs
      simp only [Option.map_eq_some_iff] at hs
      obtain ⟨r,hr,rfl⟩:=hs
      obtain ⟨us,rfl,h1,h3⟩:=hv.tuple_inv
      obtain ⟨hl,hm⟩:=mapO_spec hr
      refine .tuple r us (hl.trans h1) fun i cv x hi hx=>?_
      obtain ⟨y,hy,hsy⟩:=hm i cv hi
      exact ih y cv x hsy (h3 i y x hy hx)
    · rename_i f p q
      split at hs<;>simp only [Option.some.injEq,reduceCtorEq] at hs
      rename_i p' q' hp hq
      subst hs
      obtain ⟨xs,ys,rfl,⟨h1,h2⟩,h3,h4⟩:=hv.fn_inv
      obtain ⟨hl1,hm1⟩:=mapO_spec hp
      obtain ⟨hl2,hm2⟩:=mapO_spec hq
      refine .fn f p' q' xs ys (hl1.trans h1) (hl2.trans h3) (fun i cv x hi hx=>?_) (fun i cv x hi hx=>?_)
      · obtain ⟨y,hy,hsy⟩:=hm1 i cv hi
        exact ih y cv x hsy (h2 i y x hy hx)
      · obtain ⟨y,hy,hsy⟩:=hm2 i cv hi
        exact ih y cv x hsy (h4 i y x hy hx)
    · cases hs
end Go.VI
namespace Go.VI
variable {g:PG} {c:Ctx} {w:World} {fr fr':Fr} {a:Act} {callE:CallE} {yieldE:Nm→List PV→Heap→Option (PV × Heap)}
theorem hget_take {h:Heap} {L:Nat} (n:Nm):hget (h.take L) n=if n.1<L then hget h n else none:=by
  unfold hget
  rw [List.getElem?_take]
  split<;>rfl
theorem hget_ge {h:Heap} {n:Nm} (hl:h.length≤n.1):hget h n=none:=by
  unfold hget
  rw [List.getElem?_eq_none hl]
  rfl
theorem heapLow_get {L:Nat} {m:Nm} {h:Heap} {ob:Ob} (hf:heapLow L h=true) (hg:hget h m=some ob):obLow L (some ob)=true:=by
  unfold hget at hg
  cases h1:h[m.1]? with
  | none=>simp [h1] at hg
  | some t =>
    simp only [h1,Option.bind_some] at hg
    cases h2:t[m.2]? with
    | none=>simp [h2] at hg
    | some x =>
      simp only [h2,Option.bind_some,id_eq] at hg
      have h3:=List.all_eq_true.1 hf t (List.mem_of_getElem? h1)
      have h4:=List.all_eq_true.1 h3 x (List.mem_of_getElem? h2)
      rw [hg] at h4
      exact h4
theorem low_getCells {L:Nat} {e cv:PV} {j:Nat} (h:e.low L=true) (hj:e.cells[j]?=some cv):cv.low L=true:=by
  cases e with
  | agg cs=>exact Z1 (cs:=cs) h hj
  | _=>cases j<;>simp [PV.cells] at hj;exact hj ▸ h
theorem HS.upTo {L:Nat} {hp:Heap} (h:HS g c w hp) (hl:heapLow L (hp.take L)=true):HS g (c.upTo L) w (hp.take L):=by
  refine ⟨fun n ob hg=>?_,⟨fun n p b h1 h2=>?_,fun n m p q b h1 h2 h3 h4=>?_,fun n p b h1 h2 h3=>?_,fun b hb=>?_,fun i v hi=>(h.wf.glob i v hi).upTo⟩,fun n hg=>?_⟩
  · have hlow:=heapLow_get hl hg
    rw [hget_take] at hg
    split at hg
    case isFalse=>cases hg
    rename_i hnL
    have hr:=h.heap n ob hg
    cases ob with
    | mem el gg cl osz =>
      obtain ⟨h1,h2⟩:=hr
      refine ⟨by simp only [Ctx.upTo,if_pos hnL];exact h1,fun p hp=>?_⟩
      simp only [Ctx.upTo,if_pos hnL] at hp
      have hm:=h2 p hp
      refine ⟨hm.osz,hm.nil,hm.cap,hm.sz,fun b hb=>?_⟩
      obtain ⟨arr,E,h3,h4,h5⟩:=hm.row b hb
      refine ⟨arr,E,h3,h4,fun i j e cv he hj=>?_⟩
      obtain ⟨u,h6,h7,h8⟩:=h5 i j e cv he hj
      refine ⟨u,h6,h7,?_⟩
      cases cl
      · simp only [obLow,Bool.false_or] at hlow
        exact VRel.upTo h8 (low_getCells (Z1 hlow he) hj)
      · exact IRel.upTo h8
    | map es clock gg =>
      obtain ⟨h1,h2⟩:=hr
      refine ⟨by simp only [Ctx.upTo,if_pos hnL];exact h1,fun p hp=>?_⟩
      simp only [Ctx.upTo,if_pos hnL] at hp
      obtain ⟨b,arr,h3,h4,h5,h6⟩:=h2 p hp
      exact ⟨b,arr,h3,h4,h5,fun i e x he hx=>⟨⟨(h6 i e x he hx).1.1.upTo,(h6 i e x he hx).1.2.upTo⟩,(h6 i e x he hx).2⟩⟩
    | iter m since seen gg =>
      obtain ⟨h1,h2⟩:=hr
      refine ⟨by simp only [Ctx.upTo,if_pos hnL];exact h1,fun p hp=>?_⟩
      simp only [Ctx.upTo,if_pos hnL] at hp
      obtain ⟨b,bm,h3,h4,h5⟩:=h2 p hp
      simp only [obLow] at hlow
      exact ⟨b,bm,h3,h4,VRel.upTo h5 hlow⟩
    | loop tmps params assign body jump gg =>
      obtain ⟨h1,h2⟩:=hr
      refine ⟨by simp only [Ctx.upTo,if_pos hnL];exact h1,fun p hp=>?_⟩
      simp only [Ctx.upTo,if_pos hnL] at hp
      obtain ⟨b,h3,l,h4,h5,h6,h7,h8⟩:=h2 p hp
      refine ⟨b,h3,l,h4,h5,h6,fun i=>VRel.upTo (h7 i) ?_,h8⟩
      simp only [obLow] at hlow
      cases ht:tmps[i]? with
      | none=>simp [List.getD,ht,PV.low]
      | some v=>simpa [List.getD,ht] using Z1 hlow ht
    | dead gg =>
      show (c.upTo L).gen n=gg
      simp only [Ctx.upTo,if_pos hnL];exact hr
  · simp only [Ctx.upTo] at h1
    split at h1
    · exact h.wf.lt n p b h1 h2
    · cases h1
  · simp only [Ctx.upTo] at h1 h2
    split at h1
    case isFalse=>cases h1
    split at h2
    case isFalse=>cases h2
    exact h.wf.inj n m p q b h1 h2 h3 h4
  · simp only [Ctx.upTo] at h1
    split at h1
    case isFalse=>cases h1
    rename_i hnL
    rcases h3 with h4|⟨m,q,h5,h6,h7⟩
    · exact h.wf.apart n p b h1 h2 h4
    · have:=h.wf.inj n m p q b h1 h6 h2 h7
      subst this
      omega
  · rcases hb with h4|⟨m,q,h5,h6,h7⟩
    · exact h.wf.ilt b h4
    · exact h.wf.lt m q b h6 h7
  · rw [hget_take] at hg
    simp only [Ctx.upTo]
    split at hg
    · rename_i hnL
      rw [if_pos hnL,if_pos hnL]
      exact h.hn n hg
    · rename_i hnL
      rw [if_neg hnL,if_neg hnL]
      exact ⟨rfl,rfl⟩
theorem Step.upTo {L:Nat} {c0:Ctx} {w0:World} (h:Step N0 c0 w0 c w) (h0:∀ n:Nm,L≤n.1→c0.gen n=0∧c0.obj n=none):Step N0 c0 w0 (c.upTo L) w where
  size:=h.size
  os:=h.os
  out:=h.out
  gen n:=by
    simp only [Ctx.upTo]
    split
    · exact h.gen n
    · rename_i hn
      rw [(h0 n (by omega)).1]
      exact Nat.le_refl _
  obj n hn he:=by
    simp only [Ctx.upTo] at he ⊢
    split at he
    · rename_i hL
      rw [if_pos hL]
      exact h.obj n hn he
    · rename_i hL
      rw [if_neg hL]
      exact (h0 n (by omega)).2.symm
  phan n hn:=hn.elim
  imm b hb:=.inl (h.imm b hb)
  immNew b hb:=by
    rcases hb with h4|⟨m,q,h5,h6,h7⟩
    · exact h.immNew b h4
    · exact .inr (h.objNew m q b h6 h7)
  objNew n p b h1 h2:=by
    simp only [Ctx.upTo] at h1
    split at h1
    · exact h.objNew n p b h1 h2
    · cases h1
  frame:=h.frame
def Ctx.bare (imm:Nat→Prop):Ctx:={ imm:=imm,obj:=fun _=>none,gen:=fun _=>0 }
theorem VRel.ofBare {C:Ctx} {v:PV} {u:Value} (h:VRel C w v u) (ho:∀ n,C.obj n=none) (hg:∀ n,C.gen n=0):IRel C.imm w v u:=by
  have noObj:∀ {n p},C.obj n=some p→False:=fun {n p} h=>by rw [ho n] at h;cases h
  have noGen:∀ {n k},k<C.gen n→False:=fun {n k} h=>by rw [hg n] at h;omega
  induction h with
  | i v u hi=>exact hi
  | agg cs us hl h1 _ ih=>exact .agg cs us hl h1 ih
  | tuple cs us hl _ ih=>exact .tuple cs us hl ih
  | fn f a b xs ys ha hb _ _ i1 i2=>exact .fn f a b xs ys ha hb i1 i2
  | slStale n gg off len u h h1=>exact (noGen h).elim
  | slNil n gg p h hp=>exact (noObj hp).elim
  | sl n gg off len p b h hp=>exact (noObj hp).elim
  | slE n gg off p A h hp=>exact (noObj hp).elim
  | ptrStale n gg i off u h h1=>exact (noGen h).elim
  | ptr n gg i off p b h hp=>exact (noObj hp).elim
  | mapStale n gg u h h1=>exact (noGen h).elim
  | map n gg p b h hp=>exact (noObj hp).elim
  | yldStale n gg u h h1=>exact (noGen h).elim
  | yld n gg p b h hp=>exact (noObj hp).elim
mutual
theorem noref_irel {imm imm':Nat→Prop} {w':World}:∀ (v:PV) (u:Value),v.noref=true→IRel imm w v u→IRel imm' w' v u
  | .agg cs,u,hn,h=>by
    cases h with
    | agg cs us hl h1 h=>exact .agg cs us hl h1 fun i c u hc hu=>norefL_irel cs hn i c u hc (h i c u hc hu)
  | .tuple cs,u,hn,h=>by
    cases h with
    | tuple cs us hl h=>exact .tuple cs us hl fun i c u hc hu=>norefL_irel cs hn i c u hc (h i c u hc hu)
  | .bool _,u,_,h=>by cases h;exact .bool _
  | .int _ _,u,_,h=>by cases h;exact .int _ _
  | .str _,u,_,h=>by cases h;exact .str _
  | .nilp,u,_,h=>by cases h;exact .nilp
  | .nilmap,u,_,h=>by cases h;exact .nilmap
  | .nilfn,u,_,h=>by cases h;exact .nilfn
  | .nili,u,_,h=>by cases h;exact .nili
  | .junk,u,hn,_=>by simp [PV.noref] at hn
  | .vs _ _,u,hn,_=>by simp [PV.noref] at hn
  | .ip _,u,hn,_=>by simp [PV.noref] at hn
  | .fn _ _ _,u,hn,_=>by simp [PV.noref] at hn
  | .sl _ _ _ _,u,hn,_=>by simp [PV.noref] at hn
  | .ptr _ _ _ _,u,hn,_=>by simp [PV.noref] at hn
  | .map _ _,u,hn,_=>by simp [PV.noref] at hn
  | .yld _ _,u,hn,_=>by simp [PV.noref] at hn
theorem norefL_irel {imm imm':Nat→Prop} {w':World}:∀ (cs:List PV),PV.norefL cs=true→∀ (i:Nat) (c:PV) (u:Value),cs[i]?=some c→IRel imm w c u→IRel imm' w' c u
  | [],_,i,c,u,hc,_=>by simp at hc
  | v::r,hn,0,c,u,hc,h=>by
    simp only [PV.norefL,Bool.and_eq_true] at hn
    simp only [List.getElem?_cons_zero,Option.some.injEq] at hc
    subst hc
    exact noref_irel v u hn.1 h
  | v::r,hn,i+1,c,u,hc,h=>by
    simp only [PV.norefL,Bool.and_eq_true] at hn
    exact norefL_irel r hn.2 i c u (by simpa using hc) h
end
def CallR (g:PG) (c:Ctx) (w:World) (h':Heap) (v:PV):Ending→World→Prop:=fun e w'=>∃ u c',e=.returned u∧Step N0 c w c' w'∧HS g c' w' h'∧VRel c' w' v u
def CallSoundP (C:FuncId→Array Value→World→(Ending→World→Prop)→Prop) (g:PG) (callE:CallE):Prop:=∀ f args h v h',callE f args h=some (v,h')→∀ c w vs,HS g c w h→LRel c w args vs→C f vs w (CallR g c w h' v)
def CallSound (g:PG) (callE:CallE):Prop:=CallSoundP (Calls g.P) g callE
theorem HS.ext {h:Heap} {c':Ctx} {w':World} (hs:HS g c w h) (he:Ext c w c' w'):HS g c' w' h :=
  ⟨he.hrel hs.wf hs.heap,he.wf hs.wf,fun n hn=>by rw [he.gen,he.obj];exact hs.hn n hn⟩
theorem HS.bare (imm:Nat→Prop) (hlt:∀ b,imm b→b<w.heap.size) (hg:∀ i v,g.G i=some v→IRel imm w v (.pointer (some ⟨i,0,none⟩))):HS g (Ctx.bare imm) w [] :=
  ⟨fun n ob h=>by simp [hget] at h,⟨(fun n p b h=>by cases h),(fun n m p q b h=>by cases h),(fun n p b h=>by cases h),hlt,hg⟩,fun n _=>⟨rfl,rfl⟩⟩
theorem callsMono {P:Program} {f:FuncId} {vs:Array Value} {R R':Ending→World→Prop} (h:Calls P f vs w R) (hr:∀ e w',R e w'→R' e w'):Calls P f vs w R' :=
  fun cs=>let ⟨e,w',fr,r,s,x⟩:=h cs;⟨e,w',fr,hr _ _ r,s,x⟩
theorem doCall_soundP {C:FuncId→Array Value→World→(Ending→World→Prop)→Prop} (mono:∀ {f vs w} {R R':Ending→World→Prop},C f vs w R→(∀ e w',R e w'→R' e w')→C f vs w R') (hcE:CallSoundP C g callE):CallSoundP C g (doCall g.E callE):=by
  intro f args h v h' hd c w vs hs hl
  unfold doCall at hd
  split at hd
  · cases hd
  rename_i pf hpf
  split at hd
  · split at hd
    ·
      rename_i hlow
      split at hd
      case h_2=>cases hd
      rename_i v1 h1 hc1
      split at hd<;>simp only [Option.some.injEq,reduceCtorEq,Prod.mk.injEq] at hd
      rename_i v2 h2 hpop
      obtain ⟨rfl,rfl⟩:=hd
      have hb:HS g (Ctx.bare c.imm) w []:=HS.bare c.imm hs.wf.ilt hs.wf.glob
      have hlb:LRel (Ctx.bare c.imm) w args vs:=⟨hl.1,fun i v u hv hu=>.i _ _ ((hl.2 i v u hv hu).pure (Z1 hlow hv))⟩
      refine mono (hcE f args [] v1 h1 hc1 _ w vs hb hlb) fun e w' ⟨u,c1,he,hS,hH,hV⟩=>?_
      unfold pop at hpop
      split at hpop
      case h_2=>cases hpop
      rename_i v3 hsn
      split at hpop<;>simp only [Option.some.injEq,reduceCtorEq,Prod.mk.injEq] at hpop
      obtain ⟨rfl,_⟩:=hpop
      have hI:IRel (c1.upTo 0).imm w' v3 u :=
        (snap_irel hH.heap (c1.upTo 0) (fun h hl=>h.upTo hl) (fun b hb=>.inl hb) (fun n p b hp hb hn=>.inr ⟨n,p,Nat.zero_le _,hp,hb⟩) 4 v1 v3 u hsn hV).ofBare (fun n=>by simp [Ctx.upTo]) (fun n=>by simp [Ctx.upTo])
      have hE:Ext c w { c with imm:=(c1.upTo 0).imm } w':=by
        refine ⟨hS.size,hS.os,hS.out,rfl,rfl,fun b hb=>.inl (hS.imm b hb),fun b hb=>?_,fun b hb=>hS.frame b hb fun n p hp=>by cases hp⟩
        rcases hb with hb|⟨n,p,_,hp,hb⟩
        · rcases hS.immNew b hb with h3|h3|⟨n,p,h3,_⟩
          · exact .inl h3
          · exact .inr ⟨h3,hH.wf.ilt b hb⟩
          · cases h3
        · rcases hS.objNew n p b hp hb with h3|⟨m,q,h3,_⟩
          · exact .inr ⟨h3,hH.wf.lt n p b hp hb⟩
          · cases h3
      exact ⟨u,_,he,hE.step,hs.ext hE,.i _ _ hI⟩
    ·
      split at hd
      case h_1=>cases hd
      rename_i args' hargs
      split at hd
      case h_2=>cases hd
      rename_i v1 h1 hc1
      split at hd
      case h_2=>cases hd
      rename_i v2 h2 hpop
      split at hd<;>simp only [Option.some.injEq,reduceCtorEq,Prod.mk.injEq] at hd
      rename_i hnr
      obtain ⟨rfl,rfl⟩:=hd
      have hmono:∀ {v u},IRel c.imm w v u→IRel (fun b=>b<w.heap.size) w v u:=fun h=>h.mono hs.wf.ilt fun _ _=>rfl
      have hb:HS g (Ctx.bare fun b=>b<w.heap.size) w []:=HS.bare _ (fun _ h=>h) fun i v hi=>hmono (hs.wf.glob i v hi)
      obtain ⟨hm1,hm2⟩:=mapO_spec hargs
      have hlb:LRel (Ctx.bare fun b=>b<w.heap.size) w args' vs:=by
        refine ⟨hm1.trans hl.1,fun i v u hv hu=>?_⟩
        obtain ⟨x,hx,hsx⟩:=hm2 i v hv
        exact snap_irel hs.heap (Ctx.bare fun b=>b<w.heap.size) (fun h hl=>.i _ _ (hmono (h.pure hl))) hs.wf.ilt (fun n p b hp hb _=>hs.wf.lt n p b hp hb) 3 x v u hsx (hl.2 i x u hx hu)
      refine mono (hcE f args' [] v1 h1 hc1 _ w vs hb hlb) fun e w' ⟨u,c1,he,hS,hH,hV⟩=>?_
      unfold pop at hpop
      split at hpop
      case h_2=>cases hpop
      rename_i v3 hsn
      split at hpop<;>simp only [Option.some.injEq,reduceCtorEq,Prod.mk.injEq] at hpop
      obtain ⟨rfl,_⟩:=hpop
      have hI:IRel (c1.upTo 0).imm w' v3 u :=
        (snap_irel hH.heap (c1.upTo 0) (fun h hl=>h.upTo hl) (fun b hb=>.inl hb) (fun n p b hp hb hn=>.inr ⟨n,p,Nat.zero_le _,hp,hb⟩) 4 v1 v3 u hsn hV).ofBare (fun n=>by simp [Ctx.upTo]) (fun n=>by simp [Ctx.upTo])
      have hE:Ext c w c w':=⟨hS.size,hS.os,hS.out,rfl,rfl,fun _ hb=>hb,fun _ hb=>.inl hb,fun b hb=>hS.frame b hb fun n p hp=>by cases hp⟩
      exact ⟨u,c,he,hE.step,hs.ext hE,.i _ _ (noref_irel v3 u hnr hI)⟩
  ·
    split at hd
    case h_2=>cases hd
    rename_i v1 h1 hc1
    split at hd
    · simp only [Option.some.injEq,Prod.mk.injEq] at hd
      obtain ⟨rfl,rfl⟩:=hd
      exact hcE f args h v1 h1 hc1 c w vs hs hl
    · refine mono (hcE f args h v1 h1 hc1 c w vs hs hl) fun e w' ⟨u,c1,he,hS,hH,hV⟩=>?_
      unfold pop at hd
      split at hd
      case h_2=>cases hd
      rename_i v3 hsn
      split at hd<;>simp only [Option.some.injEq,reduceCtorEq,Prod.mk.injEq] at hd
      rename_i hlow
      obtain ⟨rfl,rfl⟩:=hd
      refine ⟨u,c1.upTo h.length,he,hS.upTo fun n hn=>hs.hn n (hget_ge hn),hH.upTo hlow,?_⟩
      exact snap_irel hH.heap (c1.upTo h.length) (fun h hl=>h.upTo hl) (fun b hb=>.inl hb) (fun n p b hp hb hn=>.inr ⟨n,p,by omega,hp,hb⟩) 4 v1 v3 u hsn hV
theorem doCall_sound (hcE:CallSound g callE):CallSound g (doCall g.E callE):=doCall_soundP callsMono hcE
end Go.VI
namespace Go.VI
variable {g:PG} {c:Ctx} {w:World} {fr fr':Fr} {a:Act} {o:Oper} {callE:CallE} {yieldE:Nm→List PV→Heap→Option (PV × Heap)} {Q:Exit→Act→World→Prop} {n:Nat} {ro:Option Nat}
def wR (ro:Option Nat):Fence:={ fn:=fun _=>True,depth:=none,alive:=false,round:=ro }
theorem callsIn_wR {f:FuncId} {vs:Array Value} {R:Ending→World→Prop} (h:Calls g.P f vs w R):CallsIn (wR ro) n g.P f vs w R:=(callsIn_wide.2 h:CallsIn Fence.wide n g.P f vs w R)
def FnsOK (g:PG):Prop:=∀ f pf,g.E.pf f=some pf→∃ fn code,g.P.funcs[f]?=some fn∧fn.body=some code∧fn.name ≠ "runtime.NumGoroutine"
theorem run_callFunc' {P:Program} {f:FuncId} {fn:Func} {code:Code} {args:Array Value} (h:P.funcs[f]?=some fn) (hb:fn.body=some code) (hn:fn.name ≠ "runtime.NumGoroutine"):(callFunc f args).run P w=.ok (.enter f args) w:=by
  simp [callFunc,h,hb,hn]
def YieldSound (g:PG) (yieldE:Nm→List PV→Heap→Option (PV × Heap)):Prop:=∀ nm args h v h',yieldE nm args h=some (v,h')→∀ c w vs b p,HS g c w h→LRel c w args vs→c.obj nm=some p→p.blk=some b →
  ∃ f tmps as bd,(Instr.yield b vs).run g.P w=.ok (.round b f tmps as bd) w∧∀ n,RoundIn Fence.wide n g.P b f tmps as bd w (CallR g c w h' v)
theorem execOp_call {P:Program} {f':Operand} {args':Array Operand} {ty:Array TypeId} {fn:Fn} {xs ys:Array Value} (ho:o.op=.call ⟨.value f',args',ty⟩) (hf:a.eval f'=.func fn xs ys) :
    (execOp a.eval o).run P w=(invoke (.fn fn ys) (xs++args'.map a.eval)).run P w:=by
  simp [execOp,ho,resolve,Deferred.ofValue,hf]
theorem LRel.append {l l':List PV} {x x':Array Value} (h:LRel c w l x) (h':LRel c w l' x'):LRel c w (l++l') (x++x'):=by
  refine ⟨by simp [h.1,h'.1],fun i v u hv hu=>?_⟩
  rw [List.getElem?_append] at hv
  rw [Array.getElem?_append] at hu
  split at hv
  · rename_i hlt
    rw [if_pos (by rw [← h.1];exact hlt)] at hu
    exact h.2 i v u hv hu
  · rename_i hge
    rw [if_neg (by rw [← h.1];exact hge),← h.1] at hu
    exact h'.2 _ v u hv hu
theorem callV_sound (hcE:CallSound g callE) (hyE:YieldSound g yieldE) (hF:FnsOK g) {f:PV} {uf:Value} {args:List PV} {vs:Array Value} {h h':Heap} {v:PV} (hd:callV g.E callE yieldE f args h=some (v,h')) (hs:HS g c w h) (hf:VRel c w f uf) (hl:LRel c w args vs) :
    ∃ fn xs ys,uf=.func fn xs ys∧((∃ k as,(invoke (.fn fn ys) (xs++vs)).run g.P w=.ok (.enter k as) w∧Calls g.P k as w (CallR g c w h' v)) ∨
      ∃ b k tmps as bd,(invoke (.fn fn ys) (xs++vs)).run g.P w=.ok (.round b k tmps as bd) w∧∀ n,RoundIn Fence.wide n g.P b k tmps as bd w (CallR g c w h' v)):=by
  unfold callV at hd
  split at hd
  · rename_i k p q
    obtain ⟨xs,ys,rfl,hx,hy⟩:=hf.fn_inv
    have hcall:=doCall_sound hcE k (p++args++q) h v h' hd c w (xs++vs++ys) hs ((hx.append hl).append hy)
    have hpf:∃ pf,g.E.pf k=some pf:=by
      unfold doCall at hd
      split at hd
      · cases hd
      · rename_i pf hpf;exact ⟨pf,hpf⟩
    obtain ⟨pf,hpf⟩:=hpf
    obtain ⟨fn,code,h1,h2,h3⟩:=hF k pf hpf
    exact ⟨.func k,xs,ys,rfl,.inl ⟨k,xs++vs++ys,by simp [invoke,run_callFunc' h1 h2 h3],hcall⟩⟩
  · rename_i nm gg
    split at hd
    case h_2=>cases hd
    rename_i tmps params assign body jump g' hob
    split at hd
    case isFalse=>cases hd
    rename_i hgg
    subst hgg
    have hgen:=(hs.heap nm _ hob).gen
    simp only [Ob.gen] at hgen
    cases hf with
    | i _ _ h=>cases h
    | yldStale _ _ _ hlt=>omega
    | yld _ _ p b hg hp hb =>
      obtain ⟨k,tm,as,bd,h1,h2⟩:=hyE nm args h v h' hd c w vs b p hs hl hp hb
      exact ⟨.yield b,#[],#[],rfl,.inr ⟨b,k,tm,as,bd,by simpa [invoke] using h1,h2⟩⟩
  · cases hd
def Goes (g:PG) (c:Ctx) (w:World) (fr':Fr) (K:Act→World→Prop):Prop:=∀ c' w' a',Step N0 c w c' w'→FrRel g c' w' fr' a'→K a' w'
theorem op_call (hcE:CallSound g callE) (hyE:YieldSound g yieldE) (hF:FnsOK g) (h:FrRel g c w fr a) {f:PX} {args:List PX} (hm:g.callOK f args o.op=true) (hs:stepOp g.E callE yieldE o.dst (.call f args) fr=some fr') {K:Act→World→Prop} (hK:Goes g c w fr' K) :
    o.wpIn (wR ro) n g.P a w K Q:=by
  unfold PG.callOK at hm
  split at hm
  case h_2=>cases hm
  rename_i f' args' ty ho
  simp only [Bool.and_eq_true] at hm
  have hf:=h.x hm.1
  have hl:LRel c w (args.map (evX g.E fr.tmps)) (args'.map a.eval):=LRel.of_xs h hm.2
  simp only [stepOp] at hs
  split at hs
  case h_2=>cases hs
  rename_i v h1 hcv
  simp only [Option.some.injEq] at hs
  subst hs
  obtain ⟨fn,xs,ys,e1,hrun⟩:=callV_sound hcE hyE hF hcv h.hs hf hl
  have hsem:o.semAt ro a.eval=execOp a.eval o:=Oper.semAt_eq _ _ _ fun c hc=>by rw [ho] at hc;cases hc
  refine ⟨fun _ _=>trivial,?_⟩
  rw [show (wR ro).round=ro from rfl,hsem,execOp_call ho e1]
  rcases hrun with ⟨k,as,hr,hC⟩|⟨b,k,tmps,as,bd,hr,hC⟩
  · rw [hr,Oper.uponIn_enter]
    refine ⟨fun hx=>by simp [wR] at hx,callsIn_wR (callsMono hC fun e w' hR=>?_)⟩
    obtain ⟨u,c',rfl,hS,hH,hV⟩:=hR
    exact hK c' w' _ hS ((h.after hS hH).put o.dst hV)
  · rw [hr,Oper.uponIn_round]
    refine ⟨fun hx=>by simp [wR] at hx,RoundIn.mono (hC _) fun e w' hR=>?_⟩
    obtain ⟨u,c',rfl,hS,hH,hV⟩:=hR
    exact hK c' w' _ hS ((h.after hS hH).put o.dst hV)
theorem op_defer (h:FrRel g c w fr a) (hro:ro=none) {f:PX} {args:List PX} (hm:g.matchOp (.defer f args) o.op=true) (hs:stepOp g.E callE yieldE o.dst (.defer f args) fr=some fr') {K:Act→World→Prop} (hK:Goes g c w fr' K) :
    o.wpIn (wR ro) n g.P a w K Q:=by
  subst hro
  simp only [PG.matchOp] at hm
  split at hm
  case h_2=>cases hm
  rename_i f' args' ty ho
  simp only [Bool.and_eq_true] at hm
  have hf:=h.x hm.1
  have hl:LRel c w (args.map (evX g.E fr.tmps)) (args'.map a.eval):=LRel.of_xs h hm.2
  simp only [stepOp] at hs
  split at hs
  case h_2=>cases hs
  rename_i k p q hfe
  simp only [Option.some.injEq] at hs
  subst hs
  rw [hfe] at hf
  obtain ⟨xs,ys,e1,hx,hy⟩:=hf.fn_inv
  refine ⟨fun _ _=>trivial,?_⟩
  have hr:(execOp a.eval o).run g.P w=.ok (.defer { target:=.fn (.func k) ys,args:=xs++args'.map a.eval }) w:=by
    simp [execOp,ho,resolve,Deferred.ofValue,e1]
  show o.uponIn (wR none) n g.P a K Q ((o.semAt none a.eval).run g.P w)
  rw [Oper.semAt_none,hr,Oper.uponIn_defer]
  have hF':FrRel g c w { fr with defers:=some (k,p++args.map (evX g.E fr.tmps)++q)::fr.defers } { a with defers:={ target:=.fn (.func k) ys,args:=xs++args'.map a.eval }::a.defers } :=
    ⟨h.size,h.tmps,h.heap,h.wf,.cons _ _ _ _ ⟨ys,rfl,(hx.append hl).append hy⟩ h.defs,h.hn⟩
  exact hK c w _ (Step.refl c w) (hF'.put o.dst undef_rel)
theorem norefL_get:∀ {l:List PV} {i:Nat} {e:PV},PV.norefL l=true→l[i]?=some e→e.noref=true
  | [],i,e,_,h=>by simp at h
  | a::r,0,e,hl,he=>by
    simp only [PV.norefL,Bool.and_eq_true] at hl
    simp only [List.getElem?_cons_zero,Option.some.injEq] at he
    exact he ▸ hl.1
  | a::r,i+1,e,hl,he=>by
    simp only [PV.norefL,Bool.and_eq_true] at hl
    exact norefL_get hl.2 (by simpa using he)
theorem noref_cells {e:PV} (h:e.noref=true):PV.norefL e.cells=true:=by
  cases e<;>simp_all [PV.cells,PV.noref,PV.norefL]
theorem slice_cases (h:FrRel g c w fr a) {v:PV} {u:Value} {L:List PV} (hv:VRel c w v u) (he:elems fr.heap v=some L) (hcl:cleanFor fr.heap true v=true) :
    (L=[]∧u=.slice none 0 0)∨IRel (fun b=>b<w.heap.size) w (.vs .nn L) u:=by
  have key:∀ f,IRel (fun b=>b<w.heap.size) w (.vs f L) u→(L=[]∧u=.slice none 0 0)∨IRel (fun b=>b<w.heap.size) w (.vs .nn L) u:=by
    intro f hI
    cases hI with
    | vsNone _ _=>exact .inl ⟨rfl,rfl⟩
    | vsE _ A _=>exact .inr (.vsE .nn A (by simp))
    | vs _ _ b o cap sz uf _ hcap _ hsz hcell h=>exact .inr (.vs .nn L b o cap sz uf (by simp) hcap (by simp) hsz hcell h)
  unfold elems at he
  split at he
  · simp only [Option.some.injEq] at he
    subst he
    exact key _ (hv.vs_inv.mono h.wf.ilt fun _ _=>rfl)
  · rename_i n gg off len
    split at he
    case h_2=>cases he
    rename_i el g' cl osz hob
    split at he<;>simp only [Option.some.injEq,reduceCtorEq] at he
    rename_i hc
    obtain ⟨rfl,hle⟩:=hc
    have hclt:cl=true:=by simpa [cleanFor,hob] using hcl
    subst hclt
    have hsn:snap fr.heap 0 1 (.sl n gg off len)=some (.vs .any L):=by
      have:(PV.sl n gg off len).low 0=false:=by simp [PV.low,Nat.blt,Nat.ble]
      rw [snap,if_neg (by rw [this];decide)]
      simp only [hob,hle,and_self,if_true,he]
    have:=snap_irel h.heap (Ctx.bare fun b=>b<w.heap.size) (fun h' hl=>.i _ _ ((h'.pure hl).mono h.wf.ilt fun _ _=>rfl)) h.wf.ilt (fun n p b hp hb _=>h.wf.lt n p b hp hb) 1 _ _ u hsn hv
    exact key .any this.vs_inv
  · cases he
theorem op_calla (hcE:CallSound g callE) (hF:FnsOK g) (h:FrRel g c w fr a) {s:Nat} {cl:Bool} {f:PX} {args:List PX} (hm:g.callOK f args o.op=true) (hs:stepOp g.E callE yieldE o.dst (.calla s cl f args) fr=some fr') {K:Act→World→Prop} (hK:Goes g c w fr' K) :
    o.wpIn (wR ro) n g.P a w K Q:=by
  unfold PG.callOK at hm
  split at hm
  case h_2=>cases hm
  rename_i f' args' ty ho
  simp only [Bool.and_eq_true] at hm
  have hf:=h.x hm.1
  have hl:LRel c w (args.map (evX g.E fr.tmps)) (args'.map a.eval):=LRel.of_xs h hm.2
  simp only [stepOp] at hs
  split at hs
  case h_2=>cases hs
  rename_i k x hfe
  split at hs
  case h_2=>cases hs
  rename_i pf L hpf hel
  split at hs
  case isFalse=>cases hs
  rename_i hc
  simp only [Bool.and_eq_true] at hc
  obtain ⟨_,hclean⟩:=hc
  split at hs
  case h_2=>cases hs
  rename_i nm gg len h1 hcE1
  split at hs
  case h_2=>cases hs
  rename_i el g' osz hob
  split at hs
  case isFalse=>cases hs
  rename_i hcc
  obtain ⟨rfl,rfl,hlenL,hnr,hnil⟩:=hcc
  rw [hfe] at hf
  obtain ⟨xs,ys,e1,hx,hy⟩:=hf.fn_inv
  have ex:xs=#[]:=by
    have:=hx.1
    exact Array.eq_empty_of_size_eq_zero (by simpa using this.symm)
  have ey:ys=#[]:=by
    have:=hy.1
    exact Array.eq_empty_of_size_eq_zero (by simpa using this.symm)
  subst ex ey
  obtain ⟨x',hax⟩:∃ x',args'=#[x']:=by
    have hsz:args'.size=1:=by simpa using hl.1.symm
    match args',hsz with
    | ⟨[y]⟩,_=>exact ⟨y,rfl⟩
  subst hax
  have hxv:VRel c w (evX g.E fr.tmps x) (a.eval x'):=hl.2 0 _ _ rfl (by simp)
  obtain ⟨fn,code,hb1,hb2,hb3⟩:=hF k pf hpf
  have hsem:o.semAt ro a.eval=execOp a.eval o:=Oper.semAt_eq _ _ _ fun c hc=>by rw [ho] at hc;cases hc
  refine ⟨fun _ _=>trivial,?_⟩
  rw [show (wR ro).round=ro from rfl,hsem,execOp_call ho e1]
  have hr:(invoke (.fn (.func k) #[]) (#[]++#[x'].map a.eval)).run g.P w=.ok (.enter k #[a.eval x']) w:=by simp [invoke,run_callFunc' hb1 hb2 hb3]
  rw [hr,Oper.uponIn_enter]
  have hmono:∀ {v u},IRel c.imm w v u→IRel (fun b=>b<w.heap.size) w v u:=fun h'=>h'.mono h.wf.ilt fun _ _=>rfl
  have hb:HS g (Ctx.bare fun b=>b<w.heap.size) w []:=HS.bare _ (fun _ h=>h) fun i v hi=>hmono (h.wf.glob i v hi)
  have hone:∀ {v:PV},IRel (fun b=>b<w.heap.size) w v (a.eval x')→LRel (Ctx.bare fun b=>b<w.heap.size) w [v] #[a.eval x']:=by
    intro v hv
    refine ⟨rfl,fun i cv cu h1 h2=>?_⟩
    cases i with
    | zero =>
      simp only [List.getElem?_cons_zero,Option.some.injEq] at h1
      simp only [List.getElem?_toArray,List.getElem?_cons_zero,Option.some.injEq] at h2
      exact h1 ▸ h2 ▸ .i _ _ hv
    | succ i=>simp at h1
  have fin:∀ (c1:Ctx) (w':World) (hp:Heap) (u:Value),Step N0 (Ctx.bare fun b=>b<w.heap.size) w c1 w'→HS g c1 w' hp→((el=[]∧u=.slice none 0 0)∨∃ pl,MemRel c1 w' pl el true osz∧(∀ b,pl.blk=some b→w.heap.size≤b∧b<w'.heap.size) ∧
      ((pl.blk=none∧el.length=0∧u=.slice none 0 0)∨(∃ b,pl.blk=some b∧0+el.length≤pl.cap∧u=.slice (some ⟨b,pl.base+0*pl.sz,none⟩) el.length (pl.cap - 0))∨(el.length=0∧0=pl.cap∧∃ A,u=.slice (some A) 0 0)))→K (a.put o.dst u) w':=by
    intro c1 w' hp u hS hH hu
    have hfr:∀ b,b<w.heap.size→w'.heap[b]?=w.heap[b]?:=fun b hb=>hS.frame b hb fun n p hp=>by cases hp
    have hM:More w w':=⟨hS.size,hS.os,hS.out,hfr⟩
    have hcv:∀ (C:Nat→Prop) (i j:Nat) (e cv:PV) (x:Value),el[i]?=some e→e.cells[j]?=some cv→IRel c1.imm w' cv x→IRel C w' cv x :=
      fun C i j e cv x he hj hI=>norefL_irel e.cells (noref_cells (norefL_get hnr he)) j cv x hj hI
    cases cl with
    | true =>
      simp only [if_true] at hs
      unfold Fr.lay at hs
      split at hs
      case isFalse=>cases hs
      rename_i hlen
      simp only [Option.some.injEq] at hs
      subst hs
      have hlt:=h.next (fr.nm s)
      have hR:Room c (fr.nm s) (nextGen fr.heap (fr.nm s)):=⟨Nat.le_of_lt hlt,fun e=>by omega⟩
      have go:∀ (pl:Place),Fits w w' (some pl)→MemRel (c.lay (fr.nm s) (nextGen fr.heap (fr.nm s)) (some pl)) w' pl el true osz→VRel (c.lay (fr.nm s) (nextGen fr.heap (fr.nm s)) (some pl)) w' (.sl (fr.nm s) (nextGen fr.heap (fr.nm s)) 0 el.length) u→K (a.put o.dst u) w':=by
        intro pl hfit hmr hv
        refine hK _ w' _ (step_lay0 hM hlt hfit) ((FrRel.lay h hR hlen hM hfit (ob:=.mem el (nextGen fr.heap (fr.nm s)) true osz) ⟨Ctx.lay_gen_self _ _ _ _,fun q hq=>?_⟩).put o.dst hv)
        rw [Ctx.lay_obj_self] at hq
        simp only [Option.some.injEq] at hq
        exact hq ▸ hmr
      have hge:∀ pl,nextGen fr.heap (fr.nm s)≤(c.lay (fr.nm s) (nextGen fr.heap (fr.nm s)) pl).gen (fr.nm s):=fun pl=>by rw [Ctx.lay_gen_self];exact Nat.le_refl _
      rcases hu with ⟨he,rfl⟩|⟨pl,hmr,hbl,hx3⟩
      · have he':=he
        refine go ⟨none,0,osz,0⟩ (fun q b hq hb=>by simp only [Option.some.injEq] at hq;subst hq;cases hb) ⟨rfl,fun _=>⟨he,rfl⟩,by simp [he],fun i e hi=>by simp [he] at hi,fun b hb=>by cases hb⟩ ?_
        rw [he']
        exact .slNil _ _ _ (hge _) (Ctx.lay_obj_self _ _ _ _) rfl
      · refine go pl (fun q b hq hb=>by simp only [Option.some.injEq] at hq;subst hq;exact hbl b hb) ⟨hmr.osz,hmr.nil,hmr.cap,hmr.sz,fun b hb=>?_⟩ ?_
        · obtain ⟨arr,E,h3,h4,h5⟩:=hmr.row b hb
          refine ⟨arr,E,h3,h4,fun i j e cv he hj=>?_⟩
          obtain ⟨x,h6,h7,h8⟩:=h5 i j e cv he hj
          exact ⟨x,h6,h7,hcv _ i j e cv x he hj h8⟩
        · rcases hx3 with ⟨hb,h0,rfl⟩|⟨b,hb,hcap,rfl⟩|⟨h0,hcap,A,rfl⟩
          · rw [h0];exact .slNil _ _ pl (hge _) (Ctx.lay_obj_self _ _ _ _) hb
          · exact .sl _ _ _ _ pl b (hge _) (Ctx.lay_obj_self _ _ _ _) hb hcap
          · rw [h0];exact .slE _ _ _ pl A (hge _) (Ctx.lay_obj_self _ _ _ _) hcap
    | false =>
      simp only [Bool.false_eq_true,if_false,Option.some.injEq] at hs
      subst hs
      have hE:Ext c w { c with imm:=fun b=>c.imm b∨(w.heap.size≤b∧b<w'.heap.size) } w':=⟨hS.size,hS.os,hS.out,rfl,rfl,fun _ hb=>.inl hb,fun _ hb=>hb,hfr⟩
      refine hK _ w' _ hE.step ((hE.frRel h).put o.dst (.i _ _ ?_))
      rcases hu with ⟨he,rfl⟩|⟨pl,hmr,hbl,hx3⟩
      · rw [he];exact .vsNone _ (by simp)
      · rcases hx3 with ⟨hb,h0,rfl⟩|⟨b,hb,hcap,rfl⟩|⟨h0,hcap,A,rfl⟩
        · rw [List.eq_nil_of_length_eq_zero h0];exact .vsNone _ (by simp)
        · obtain ⟨arr,E,h3,h4,h5⟩:=hmr.row b hb
          have hpick:∀ i j,∃ x,i<el.length→j<pl.sz→w'.cell? ⟨b,pl.base+0*pl.sz+i*pl.sz+j,none⟩=some x∧x.oneCell'=true∧∀ e cv,el[i]?=some e→e.cells[j]?=some cv→IRel (fun b=>c.imm b∨(w.heap.size≤b∧b<w'.heap.size)) w' cv x:=by
            intro i j
            by_cases hc:i<el.length∧j<pl.sz
            · have he:el[i]?=some el[i]:=by simp [hc.1]
              have hl:=hmr.sz i _ he
              have hcv':el[i].cells[j]?=some (el[i].cells[j]'(by omega)):=by simp [show j<el[i].cells.length by omega]
              obtain ⟨x,h6,h7,h8⟩:=h5 i j _ _ he hcv'
              refine ⟨x,fun _ _=>⟨by simp [World.cell?,h3,h6],h7,fun e cv he' hcv2=>?_⟩⟩
              rw [he] at he'
              simp only [Option.some.injEq] at he'
              subst he'
              rw [hcv'] at hcv2
              simp only [Option.some.injEq] at hcv2
              subst hcv2
              exact hcv _ i j _ _ x he hcv' h8
            · exact ⟨undef,fun h1 h2=>absurd ⟨h1,h2⟩ hc⟩
          have:=IRel.vs (imm:=fun b=>c.imm b∨(w.heap.size≤b∧b<w'.heap.size)) (w:=w') .any el b (pl.base+0*pl.sz) (pl.cap - 0) pl.sz (fun i j=>(hpick i j).choose) (by simp) (by omega) (by simp) hmr.sz
            (fun i j hi hj=>let ⟨h6,h7,_⟩:=(hpick i j).choose_spec hi hj;⟨.inr (hbl b hb),h6,h7⟩)
            (fun i j e cv he hj=>(((hpick i j).choose_spec (Zb he) (hmr.sz i e he ▸ Zb hj)).2.2 e cv he hj))
          exact this
        · rw [List.eq_nil_of_length_eq_zero h0];exact .vsE _ A (by simp)
  rcases slice_cases h hxv hel hclean with ⟨hL,hu⟩|hI
  · have he:el=[]:=List.eq_nil_of_length_eq_zero (by rw [hlenL,hL];rfl)
    unfold nilRes at hnil
    rw [hL] at hnil
    simp only [List.isEmpty_nil,Bool.not_true,Bool.false_or] at hnil
    split at hnil
    case h_2=>cases hnil
    rename_i h2 hc2
    have hC:=hcE k [.vs .nil []] [] _ h2 hc2 _ w #[a.eval x'] hb (hone (by rw [hu];exact .vsNone _ (by simp)))
    refine ⟨fun hx=>by simp [wR] at hx,callsIn_wR (callsMono hC fun e w' hR=>?_)⟩
    obtain ⟨u,c1,rfl,hS,hH,hV⟩:=hR
    refine fin c1 w' h2 u hS hH (.inl ⟨he,?_⟩)
    have:=hV.vs_inv
    cases this with
    | vsNone=>rfl
    | vsE _ _ hc=>exact absurd rfl hc
    | vs _ _ _ _ _ _ _ hc=>exact absurd rfl hc
  · have hC:=hcE k [.vs .nn L] [] _ h1 hcE1 _ w #[a.eval x'] hb (hone hI)
    refine ⟨fun hx=>by simp [wR] at hx,callsIn_wR (callsMono hC fun e w' hR=>?_)⟩
    obtain ⟨u,c1,rfl,hS,hH,hV⟩:=hR
    obtain ⟨pl,hpl,hmr,hx3⟩:=sl_live (fr:={ lvl:=0,tmps:=[],heap:=h1,defers:=[] }) hH.heap hV hob
    refine fin c1 w' h1 u hS hH (.inr ⟨pl,hmr,fun b hb=>⟨?_,hH.wf.lt nm pl b hpl hb⟩,?_⟩)
    · rcases hS.objNew nm pl b hpl hb with h3|⟨m,q,h3,_⟩
      · exact h3
      · cases h3
    · rcases hx3 with ⟨hb,_,h0,hu⟩|hx|hx
      · exact .inl ⟨hb,h0,hu⟩
      · exact .inr (.inl hx)
      · exact .inr (.inr hx)
def POp.known:POp→Bool
  | _=>true
def POp.isDefer:POp→Bool
  | .defer _ _=>true
  | _=>false
theorem op_any (hcE:CallSound g callE) (hyE:YieldSound g yieldE) (hF:FnsOK g) (h:FrRel g c w fr a) {p:POp} (hk:p.known=true) (hdf:p.isDefer=true→ro=none) (hm:g.matchOp p o.op=true) (hs:stepOp g.E callE yieldE o.dst p fr=some fr') {K:Act→World→Prop} (hK:Goes g c w fr' K) :
    o.wpIn (wR ro) n g.P a w K Q:=by
  cases hc:p.calls with
  | false =>
    have hno:∀ cc,o.op≠.defer cc:=by
      intro cc hcc
      rw [hcc] at hm
      cases p<;>first|(simp [stepOp] at hs;done)|skip
      all_goals simp [PG.matchOp,POp.calls] at hm hc
    obtain ⟨v,w',c',hr,hS,hF'⟩:=ok_op h hm hc hs
    refine ⟨fun _ _=>trivial,?_⟩
    rw [show (wR ro).round=ro from rfl,Oper.semAt_eq _ _ _ hno]
    rcases hr with hr|⟨hr,rfl⟩
    · rw [hr,Oper.uponIn_value];exact hK c' w' _ hS hF'
    · rw [hr,Oper.uponIn_skip];exact hK c' w' _ hS hF'
  | true =>
    cases p<;>simp only [POp.calls,reduceCtorEq] at hc
    case call f args=>exact op_call hcE hyE hF h hm hs hK
    case calla=>exact op_calla hcE hF h hm hs hK
    case defer f args=>exact op_defer h (hdf rfl) hm hs hK
def PG.matchPO (g:PG) (rd:Bool) (os:Array Oper) (p:PPO) (o:Oper):Bool :=
  decide (p.dst=o.dst)&&p.op.known&&(!rd||!p.op.isDefer)&&g.matchOp p.op o.op&&(match p.guard,o.guard with
    | none,none=>true
    | some (t,b),some (j,b')=>decide ((os[j]?).bind (·.dst)=some t)&&(b==b')
    | _,_=>false)
theorem guard_spec (h:FrRel g c w fr a) {os:Array Oper} {p:PPO} {o:Oper} (hm:(match p.guard,o.guard with
    | none,none=>true
    | some (t,b),some (j,b')=>decide ((os[j]?).bind (·.dst)=some t)&&(b==b')
    | _,_=>false)=true) {b:Bool} (hg:guardE fr.tmps p.guard=some b):Region.wanted o (yielded os a.tmps)=b:=by
  cases hp:p.guard with
  | none =>
    cases ho:o.guard with
    | none =>
      rw [hp] at hg
      simp only [guardE,Option.some.injEq] at hg
      simp [Region.wanted,ho,hg]
    | some x=>simp [hp,ho] at hm
  | some x =>
    obtain ⟨t,b1⟩:=x
    cases ho:o.guard with
    | none=>simp [hp,ho] at hm
    | some y =>
      obtain ⟨j,b2⟩:=y
      simp only [hp,ho,Bool.and_eq_true,decide_eq_true_eq,beq_iff_eq] at hm
      obtain ⟨hd,rfl⟩:=hm
      rw [hp] at hg
      simp only [guardE] at hg
      have ht:=h.tmps t
      simp only [Region.wanted,ho,yielded,hd,Option.bind_some]
      split at hg
      · rename_i cc hcc
        simp only [Option.some.injEq] at hg
        rw [hcc] at ht
        have e:=ht.bool_inv
        have:a.tmps[t]?=some (.bool cc):=by
          rw [Array.getD_eq_getD_getElem?] at e
          cases hq:a.tmps[t]? with
          | none=>rw [hq] at e;simp [undef] at e
          | some q=>rw [hq] at e;simp at e;rw [e]
        simp only [this,← hg]
        cases cc<;>cases b1<;>rfl
      · rename_i ts hts
        simp only [Option.some.injEq] at hg
        rw [hts] at ht
        obtain ⟨us,e,_⟩:=ht.tuple_inv
        subst hg
        cases hq:a.tmps[t]? with
        | none=>simp
        | some q =>
          rw [Array.getD_eq_getD_getElem?,hq] at e
          simp at e
          subst e
          simp
      · cases hg
theorem po_sound (hcE:CallSound g callE) (hyE:YieldSound g yieldE) (hF:FnsOK g) (h:FrRel g c w fr a) {rd:Bool} (hrd:ro≠none→rd=true) {os:Array Oper} {p:PPO} {o:Oper} (hm:g.matchPO rd os p o=true) (hs:stepPO g.E callE yieldE p fr=some fr') {K:Act→World→Prop} (hK:Goes g c w fr' K) :
    if Region.wanted o (yielded os a.tmps) then o.wpIn (wR ro) n g.P a w K Q else (∀ f,o.about g.P w a.eval=some f→(wR ro).fn f)∧K (a.put o.dst undef) w:=by
  unfold PG.matchPO at hm
  simp only [Bool.and_eq_true,decide_eq_true_eq] at hm
  obtain ⟨⟨⟨⟨hd,hkn⟩,hdf⟩,hop⟩,hgd⟩:=hm
  unfold stepPO at hs
  split at hs
  · cases hs
  · rename_i hg
    rw [guard_spec h hgd hg]
    simp only [Option.some.injEq] at hs
    subst hs
    refine ⟨fun _ _=>trivial,hK c w _ (Step.refl c w) ?_⟩
    rw [hd]
    exact h.put o.dst undef_rel
  · rename_i hg
    rw [guard_spec h hgd hg]
    rw [hd] at hs
    refine op_any hcE hyE hF h hkn (fun hx=>?_) hop hs hK
    cases ro with
    | none=>rfl
    | some l =>
      have:=hrd (by simp)
      subst this
      rw [hx] at hdf
      simp at hdf
def PG.matchOps (g:PG) (rd:Bool) (os:Array Oper):List PPO→List Oper→Bool
  | [],[]=>true
  | p::ps,o::l=>g.matchPO rd os p o&&g.matchOps rd os ps l
  | _,_=>false
theorem ops_sound (hcE:CallSound g callE) (hyE:YieldSound g yieldE) (hF:FnsOK g) {rd:Bool} (hrd:ro≠none→rd=true) {os:Array Oper}:∀ (ps:List PPO) (k:Nat) (c:Ctx) (w:World) (fr:Fr) (a:Act),g.matchOps rd os ps (os.toList.drop k)=true→FrRel g c w fr a→runOps g.E callE yieldE ps fr=some fr'→Goes g c w fr' (Q .normal) →
    wpOpsIn (wR ro) n g.P os Q (List.range' k (os.size - k)) a w:=by
  intro ps
  induction ps with
  | nil =>
    intro k c w fr a hm h hs hK
    have hl:os.toList.drop k=[]:=by
      cases hd:os.toList.drop k with
      | nil=>rfl
      | cons x l=>rw [hd] at hm;simp [PG.matchOps] at hm
    have hk:os.size - k=0:=by have:=congrArg List.length hl;simpa using this
    rw [hk]
    simp only [runOps,Option.some.injEq] at hs
    subst hs
    exact hK c w a (Step.refl c w) h
  | cons p ps ih =>
    intro k c w fr a hm h hs hK
    have hkl:k<os.size:=by
      rcases Nat.lt_or_ge k os.size with hlt|hge
      · exact hlt
      · rw [List.drop_eq_nil_of_le (by simpa using hge)] at hm;simp [PG.matchOps] at hm
    have hdrop:os.toList.drop k=os[k]::os.toList.drop (k+1):=by
      rw [List.drop_eq_getElem_cons (by simpa using hkl)]
      simp
    rw [hdrop] at hm
    simp only [PG.matchOps,Bool.and_eq_true] at hm
    simp only [runOps] at hs
    split at hs
    case h_2=>cases hs
    rename_i fr1 hs1
    have hr:List.range' k (os.size - k)=k::List.range' (k+1) (os.size - (k+1)):=by
      rw [show os.size - k=(os.size - (k+1))+1 by omega]
      rfl
    rw [hr]
    simp only [wpOpsIn,Array.getElem?_eq_getElem hkl]
    exact po_sound hcE hyE hF h hrd hm.1 hs1 fun c' w' a' hS hF'=>ih (k+1) c' w' fr1 a' hm.2 hF' hs fun c2 w2 a2 hS2 hF2=>hK c2 w2 a2 (hS.trans hS2) hF2
theorem region_sound (hcE:CallSound g callE) (hyE:YieldSound g yieldE) (hF:FnsOK g) (h:FrRel g c w fr a) {rd:Bool} (hrd:ro≠none→rd=true) {id:Nat} {os:Array Oper} {ps:List PPO} (hm:g.matchOps rd os ps os.toList=true) (hs:runOps g.E callE yieldE ps fr=some fr') (hK:Goes g c w fr' (Q .normal)) :
    (Code.region id os false).wpIn (wR ro) n g.P Q a w:=by
  refine wpIn_region ?_
  have:=ops_sound (n:=n) (Q:=Q) hcE hyE hF hrd ps 0 c w fr a (by simpa using hm) h hs hK
  rw [List.range_eq_range']
  simpa using this
end Go.VI
namespace Go.VI
variable {E:Env} {fr fr1 fr2:Fr} {dst:Option Nat} {callE callE2:CallE} {yieldE yieldE2:Nm→List PV→Heap→Option (PV × Heap)}
def PX.use:PX→List Nat
  | .t i=>[i]
  | _=>[]
def usesL (l:List PX):List Nat:=l.flatMap PX.use
def usesO (o:Option PX):List Nat:=match o with|some x=>x.use|none=>[]
def POp.uses:POp→List Nat
  | .mov x|.frz x|.box _ x|.boxi x|.load _ x|.loadf _ x|.nilc x|.neg x|.compl x|.notb x|.conv _ x|.convs x|.faddr _ x|.fld _ _ x|.extract x _|.lens x|.lenl x|.lenm x|.eqnil _ _ x|.ptrq _ x|.capl x|.rng _ x|.next x|.entry x=>x.use
  | .vec _ _ _|.alloc _ _|.mkmap _|.stop=>[]
  | .pick c a b=>c.use++a.use++b.use
  | .build _ ps=>ps.flatMap fun p=>p.2.2.use
  | .bsl _ ps=>ps.flatMap fun p=>p.2.use
  | .bslm _ _ _ _ ps=>ps.flatMap fun p=>p.2.use
  | .store _ x y|.storef _ x y|.bini _ x y|.bins _ x y|.eq _ _ x y|.iaddr _ x y|.iaddra _ _ x y|.idx _ _ _ x y|.idxs x y|.lookup _ _ _ x y|.mentry _ _ x y|.append _ _ _ _ x y|.appz _ _ _ _ x y|.appf _ _ x y|.copy x y|.delete x y=>x.use++y.use
  | .mkfn _ a b=>usesL a++usesL b
  | .mkslice _ _ _ _ x y=>x.use++y.use
  | .sls x lo hi=>x.use++usesO lo++usesO hi
  | .slc _ x lo hi m=>x.use++usesO lo++usesO hi++usesO m
  | .mupd _ m k x|.estore m k x=>m.use++k.use++x.use
  | .call f args=>f.use++usesL args
  | .calla _ _ f args=>f.use++usesL args
  | .defer f args=>f.use++usesL args
  | .mx x r|.mn x r=>x.use++usesL r
def PPO.uses (o:PPO):List Nat:=o.op.uses++(match o.guard with|some (t,_)=>[t]|none=>[])
def Same (l:List Nat) (t t':List PV):Prop:=∀ i∈l,t'.getD i .junk=t.getD i .junk
theorem Same.l {l l':List Nat} {t t':List PV} (h:Same (l++l') t t'):Same l t t':=fun i hi=>h i (List.mem_append_left _ hi)
theorem Same.r {l l':List Nat} {t t':List PV} (h:Same (l++l') t t'):Same l' t t':=fun i hi=>h i (List.mem_append_right _ hi)
theorem Same.x {x:PX} {t t':List PV} (h:Same x.use t t'):evX E t' x=evX E t x:=by
  cases x with
  | t i=>exact h i (by simp [PX.use])
  | c v=>rfl
  | g i=>rfl
theorem Same.xs {xs:List PX} {t t':List PV} (h:Same (usesL xs) t t'):xs.map (evX E t')=xs.map (evX E t):=by
  apply List.map_congr_left
  intro x hx
  exact Same.x fun i hi=>h i (List.mem_flatMap.2 ⟨x,hx,hi⟩)
theorem boundsE_eq {len cap:Nat} {lo hi mx:Option PX} {t t':List PV} (h1:Same (usesO lo) t t') (h2:Same (usesO hi) t t') (h3:Same (usesO mx) t t'):boundsE E t' len cap lo hi mx=boundsE E t len cap lo hi mx:=by
  unfold boundsE
  cases mx with
  | none =>
    cases hi with
    | none =>
      cases lo with
      | none=>rfl
      | some z=>simp only [Same.x (x:=z) (E:=E) h1]
    | some y =>
      cases lo with
      | none=>simp only [Same.x (x:=y) (E:=E) h2]
      | some z=>simp only [Same.x (x:=y) (E:=E) h2,Same.x (x:=z) (E:=E) h1]
  | some x =>
    cases hi with
    | none =>
      cases lo with
      | none=>simp only [Same.x (x:=x) (E:=E) h3]
      | some z=>simp only [Same.x (x:=x) (E:=E) h3,Same.x (x:=z) (E:=E) h1]
    | some y =>
      cases lo with
      | none=>simp only [Same.x (x:=x) (E:=E) h3,Same.x (x:=y) (E:=E) h2]
      | some z=>simp only [Same.x (x:=x) (E:=E) h3,Same.x (x:=y) (E:=E) h2,Same.x (x:=z) (E:=E) h1]
theorem fillParts_eq {t t':List PV}:∀ (ps:List (Nat × Nat × PX)) (cs:List PV),Same (ps.flatMap fun p=>p.2.2.use) t t'→fillParts (evX E t') cs ps=fillParts (evX E t) cs ps
  | [],_,_=>rfl
  | (off,n,x)::r,cs,h=>by
    simp only [List.flatMap_cons] at h
    simp only [fillParts,Same.x (E:=E) h.l]
    split
    · exact fillParts_eq r _ h.r
    · rfl
theorem fillElems_eq {t t':List PV}:∀ (ps:List (Nat × PX)) (cs:List PV),Same (ps.flatMap fun p=>p.2.use) t t'→fillElems (evX E t') cs ps=fillElems (evX E t) cs ps
  | [],_,_=>rfl
  | (i,x)::r,cs,h=>by
    simp only [List.flatMap_cons] at h
    simp only [fillElems,Same.x (E:=E) h.l]
    split
    · split
      · exact fillElems_eq r _ h.r
      · rfl
    · rfl
def HLe (h h':Heap):Prop:=∀ n ob,hget h n=some ob→(∀ g,ob≠.dead g)→hget h' n=some ob
theorem HLe.refl (h:Heap):HLe h h:=fun _ _ h _=>h
theorem HLe.trans {h h' h'':Heap} (a:HLe h h') (b:HLe h' h''):HLe h h'':=fun n ob h1 h2=>b n ob (a n ob h1 h2) h2
theorem HLe.mem {h h':Heap} (a:HLe h h') {n:Nm} {el:List PV} {g sz:Nat} {cl:Bool} (hg:hget h n=some (.mem el g cl sz)):hget h' n=some (.mem el g cl sz):=a n _ hg (by simp)
theorem HLe.map {h h':Heap} (a:HLe h h') {n:Nm} {es:List (PV × PV)} {c g:Nat} (hg:hget h n=some (.map es c g)):hget h' n=some (.map es c g):=a n _ hg (by simp)
def POp.bare:POp→Bool
  | .mov _|.boxi _|.pick _ _ _|.build _ _|.bsl _ _|.bini _ _ _|.bins _ _ _|.eq _ _ _ _|.neg _|.compl _|.notb _|.conv _ _|.convs _|.mkfn _ _ _|.sls _ _ _|.fld _ _ _|.idx _ _ _ _ _|.idxs _ _|.extract _ _|.lens _|.mx _ _|.mn _ _|.eqnil _ _ _|.capl _|.appf _ _ _ _=>true
  | _=>false
def POp.reads:POp→Bool
  | .load _ _|.nilc _|.slc _ _ _ _ _|.faddr _ _|.iaddr _ _ _|.iaddra _ _ _ _|.lookup _ _ _ _ _|.lenl _|.lenm _=>true
  | _=>false
theorem bare_same {p:POp} (hp:p.bare=true) (hs:stepOp E callE yieldE dst p fr=some fr1):∃ v,fr1=fr.put dst v∧∀ fr2 callE2 yieldE2,Same p.uses fr.tmps fr2.tmps→stepOp E callE2 yieldE2 dst p fr2=some (fr2.put dst v):=by
  cases p<;>simp only [POp.bare,reduceCtorEq] at hp<;>simp only [stepOp] at hs ⊢
  case mov x=>simp only [Option.some.injEq] at hs;exact ⟨_,hs.symm,fun fr2 _ _ h=>by rw [Same.x h]⟩
  case boxi x =>
    split at hs<;>simp only [Option.some.injEq,reduceCtorEq] at hs
    rename_i hc
    exact ⟨_,hs.symm,fun fr2 _ _ h=>by rw [Same.x h,if_pos hc]⟩
  case pick c a b =>
    split at hs<;>simp only [Option.some.injEq,reduceCtorEq] at hs
    rename_i t e
    refine ⟨_,hs.symm,fun fr2 _ _ h=>?_⟩
    rw [Same.x (x:=c) h.l.l,Same.x (x:=a) h.l.r,Same.x (x:=b) h.r,e]
  case build z ps =>
    split at hs<;>simp only [Option.some.injEq,reduceCtorEq] at hs
    rename_i cs e
    refine ⟨_,hs.symm,fun fr2 _ _ h=>?_⟩
    rw [fillParts_eq ps z h,e]
  case bsl z ps =>
    split at hs
    case h_2=>cases hs
    rename_i cs e
    split at hs<;>simp only [Option.some.injEq,reduceCtorEq] at hs
    rename_i hc
    refine ⟨_,hs.symm,fun fr2 _ _ h=>?_⟩
    rw [fillElems_eq ps z h,e]
    simp only [hc,if_true]
  case appf sz bytes x y =>
    split at hs
    case h_2=>cases hs
    rename_i f L f2 ys e e2
    split at hs<;>simp only [Option.some.injEq,reduceCtorEq] at hs
    rename_i hc
    refine ⟨_,hs.symm,fun fr2 _ _ h=>?_⟩
    rw [Same.x (x:=x) h.l,Same.x (x:=y) h.r,e,e2]
    simp only [if_pos hc]
  case bini op x y =>
    split at hs<;>simp only [Option.some.injEq,reduceCtorEq] at hs
    rename_i v e
    refine ⟨_,hs.symm,fun fr2 _ _ h=>?_⟩
    rw [Same.x (x:=x) h.l,Same.x (x:=y) h.r,e]
  case bins op x y =>
    split at hs<;>simp only [Option.some.injEq,reduceCtorEq] at hs
    rename_i v e
    refine ⟨_,hs.symm,fun fr2 _ _ h=>?_⟩
    rw [Same.x (x:=x) h.l,Same.x (x:=y) h.r,e]
  case eq neg sh x y =>
    split at hs<;>simp only [Option.some.injEq,reduceCtorEq] at hs
    rename_i v e
    refine ⟨_,hs.symm,fun fr2 _ _ h=>?_⟩
    rw [Same.x (x:=x) h.l,Same.x (x:=y) h.r,e]
  case neg x =>
    split at hs<;>simp only [Option.some.injEq,reduceCtorEq] at hs
    rename_i k n e
    exact ⟨_,hs.symm,fun fr2 _ _ h=>by rw [Same.x h,e]⟩
  case compl x =>
    split at hs<;>simp only [Option.some.injEq,reduceCtorEq] at hs
    rename_i k n e
    exact ⟨_,hs.symm,fun fr2 _ _ h=>by rw [Same.x h,e]⟩
  case notb x =>
    split at hs<;>simp only [Option.some.injEq,reduceCtorEq] at hs
    rename_i e
    exact ⟨_,hs.symm,fun fr2 _ _ h=>by rw [Same.x h,e]⟩
  case conv k x =>
    split at hs<;>simp only [Option.some.injEq,reduceCtorEq] at hs
    rename_i e
    exact ⟨_,hs.symm,fun fr2 _ _ h=>by rw [Same.x h,e]⟩
  case convs x =>
    split at hs<;>simp only [Option.some.injEq,reduceCtorEq] at hs
    rename_i e
    exact ⟨_,hs.symm,fun fr2 _ _ h=>by rw [Same.x h,e]⟩
  case mkfn f a b =>
    simp only [Option.some.injEq] at hs
    exact ⟨_,hs.symm,fun fr2 _ _ h=>by rw [Same.xs h.l,Same.xs h.r]⟩
  case sls x lo hi =>
    split at hs
    case h_2=>cases hs
    rename_i s e
    split at hs<;>simp only [Option.some.injEq,reduceCtorEq] at hs
    rename_i l hh m hb
    refine ⟨_,hs.symm,fun fr2 _ _ h=>?_⟩
    rw [Same.x (x:=x) h.l.l,e]
    simp only
    rw [boundsE_eq h.l.r h.r (fun i hi=>by simp [usesO] at hi),hb]
  case fld off k x =>
    split at hs
    case h_2=>cases hs
    rename_i cs e
    split at hs<;>simp only [Option.some.injEq,reduceCtorEq] at hs
    rename_i v hv
    refine ⟨_,hs.symm,fun fr2 _ _ h=>?_⟩
    rw [Same.x h,e]
    simp only [hv]
  case idx n sz k x i =>
    split at hs
    case h_2=>cases hs
    rename_i kk j e
    split at hs
    case isFalse=>cases hs
    rename_i hc
    split at hs
    case h_2=>cases hs
    rename_i cs e2
    split at hs
    case isFalse=>cases hs
    rename_i hc2
    split at hs<;>simp only [Option.some.injEq,reduceCtorEq] at hs
    rename_i v hv
    refine ⟨_,hs.symm,fun fr2 _ _ h=>?_⟩
    rw [Same.x (x:=x) h.l,Same.x (x:=i) h.r,e]
    simp only [if_pos hc,e2,if_pos hc2,hv]
  case idxs x i =>
    split at hs
    case h_2=>cases hs
    rename_i kk j s e e2
    split at hs
    case isFalse=>cases hs
    rename_i hc
    split at hs<;>simp only [Option.some.injEq,reduceCtorEq] at hs
    rename_i v hv
    refine ⟨_,hs.symm,fun fr2 _ _ h=>?_⟩
    rw [Same.x (x:=x) h.l,Same.x (x:=i) h.r,e,e2]
    simp only [if_pos hc,hv]
  case extract x i =>
    split at hs
    case h_2=>cases hs
    rename_i vs e
    split at hs<;>simp only [Option.some.injEq,reduceCtorEq] at hs
    rename_i v hv
    refine ⟨_,hs.symm,fun fr2 _ _ h=>?_⟩
    rw [Same.x h,e]
    simp only [hv]
  case lens x =>
    split at hs<;>simp only [Option.some.injEq,reduceCtorEq] at hs
    rename_i e
    exact ⟨_,hs.symm,fun fr2 _ _ h=>by rw [Same.x h,e]⟩
  case mx x r =>
    split at hs<;>simp only [Option.some.injEq,reduceCtorEq] at hs
    rename_i v e
    refine ⟨_,hs.symm,fun fr2 _ _ h=>?_⟩
    rw [Same.x (x:=x) h.l,Same.xs h.r,e]
  case mn x r =>
    split at hs<;>simp only [Option.some.injEq,reduceCtorEq] at hs
    rename_i v e
    refine ⟨_,hs.symm,fun fr2 _ _ h=>?_⟩
    rw [Same.x (x:=x) h.l,Same.xs h.r,e]
  case eqnil k neg x =>
    split at hs<;>simp only [Option.some.injEq,reduceCtorEq] at hs
    rename_i b e
    refine ⟨_,hs.symm,fun fr2 _ _ h=>?_⟩
    rw [Same.x h,e]
  case capl x =>
    split at hs
    case h_2=>cases hs
    rename_i f L e
    split at hs<;>simp only [Option.some.injEq,reduceCtorEq] at hs
    rename_i hc
    refine ⟨_,hs.symm,fun fr2 _ _ h=>?_⟩
    rw [Same.x h,e]
    simp only [hc,if_true]
theorem reads_same {p:POp} (hp:p.reads=true) (hs:stepOp E callE yieldE dst p fr=some fr1):∃ v,fr1=fr.put dst v∧∀ fr2 callE2 yieldE2,Same p.uses fr.tmps fr2.tmps→HLe fr.heap fr2.heap→stepOp E callE2 yieldE2 dst p fr2=some (fr2.put dst v):=by
  cases p<;>simp only [POp.reads,reduceCtorEq] at hp<;>simp only [stepOp] at hs ⊢
  case load k x =>
    split at hs
    · rename_i cs e
      split at hs<;>simp only [Option.some.injEq,reduceCtorEq] at hs
      rename_i v hv
      refine ⟨_,hs.symm,fun fr2 _ _ h hh=>?_⟩
      rw [Same.x h,e]
      simp only [hv]
    · rename_i n g i off e
      split at hs
      case h_2=>cases hs
      rename_i el g' cl sz hob
      split at hs
      case isFalse=>cases hs
      rename_i hc
      split at hs
      case h_2=>cases hs
      rename_i e' he'
      split at hs<;>simp only [Option.some.injEq,reduceCtorEq] at hs
      rename_i v hv
      refine ⟨_,hs.symm,fun fr2 _ _ h hh=>?_⟩
      rw [Same.x h,e]
      simp only [hh.mem hob,if_pos hc,he',hv]
    · cases hs
  case nilc x =>
    split at hs
    · rename_i cs e
      simp only [Option.some.injEq] at hs
      refine ⟨_,hs.symm,fun fr2 _ _ h hh=>?_⟩
      rw [Same.x h,e]
    · rename_i n g i off e
      split at hs
      case h_2=>cases hs
      rename_i el g' cl sz hob
      split at hs<;>simp only [Option.some.injEq,reduceCtorEq] at hs
      rename_i hc
      refine ⟨_,hs.symm,fun fr2 _ _ h hh=>?_⟩
      rw [Same.x h,e]
      simp only [hh.mem hob,if_pos hc]
    · cases hs
  case slc sz x lo hi mx =>
    split at hs
    · rename_i f L e
      split at hs
      case h_2=>cases hs
      rename_i l hh m hb
      split at hs<;>simp only [Option.some.injEq,reduceCtorEq] at hs
      rename_i hc
      refine ⟨_,hs.symm,fun fr2 _ _ h _=>?_⟩
      rw [Same.x (x:=x) h.l.l.l,e]
      simp only
      rw [boundsE_eq h.l.l.r h.l.r h.r,hb]
      simp only [hc,if_false,Bool.false_eq_true]
    · rename_i n g off len e
      split at hs
      case h_2=>cases hs
      rename_i el g' cl osz hob
      split at hs
      case isFalse=>cases hs
      rename_i hc
      split at hs<;>simp only [Option.some.injEq,reduceCtorEq] at hs
      rename_i l hh m hb
      refine ⟨_,hs.symm,fun fr2 _ _ h hle=>?_⟩
      rw [Same.x (x:=x) h.l.l.l,e]
      simp only [hle.mem hob]
      rw [if_pos hc,boundsE_eq h.l.l.r h.l.r (fun i hi=>by simp [usesO] at hi),hb]
    · cases hs
  case faddr off x =>
    split at hs
    · rename_i cs e
      split at hs<;>simp only [Option.some.injEq,reduceCtorEq] at hs
      rename_i hc
      refine ⟨_,hs.symm,fun fr2 _ _ h hh=>?_⟩
      rw [Same.x h,e]
      simp only [if_pos hc]
    · rename_i n g i o e
      split at hs
      case h_2=>cases hs
      rename_i el g' cl sz hob
      split at hs<;>simp only [Option.some.injEq,reduceCtorEq] at hs
      rename_i hc
      refine ⟨_,hs.symm,fun fr2 _ _ h hh=>?_⟩
      rw [Same.x h,e]
      simp only [hh.mem hob,if_pos hc]
    · cases hs
  case iaddr sz x i =>
    split at hs
    case h_2=>cases hs
    rename_i kk j e
    split at hs
    case isFalse=>cases hs
    rename_i hj
    split at hs
    · rename_i f L e2
      split at hs
      case h_2=>cases hs
      rename_i e' he'
      split at hs<;>simp only [Option.some.injEq,reduceCtorEq] at hs
      rename_i hc
      refine ⟨_,hs.symm,fun fr2 _ _ h hh=>?_⟩
      rw [Same.x (x:=x) h.l,Same.x (x:=i) h.r,e]
      simp only [if_pos hj,e2,he',if_pos hc]
    · rename_i n g off len e2
      split at hs
      case h_2=>cases hs
      rename_i el g' cl osz hob
      split at hs
      case isFalse=>cases hs
      rename_i hc
      split at hs
      case h_2=>cases hs
      rename_i e' he'
      split at hs<;>simp only [Option.some.injEq,reduceCtorEq] at hs
      rename_i hc2
      refine ⟨_,hs.symm,fun fr2 _ _ h hh=>?_⟩
      rw [Same.x (x:=x) h.l,Same.x (x:=i) h.r,e]
      simp only [if_pos hj,e2,hh.mem hob,if_pos hc,he',if_pos hc2]
    · cases hs
  case iaddra n sz x i =>
    split at hs
    case h_2=>cases hs
    rename_i kk j e
    split at hs
    case isFalse=>cases hs
    rename_i hj
    split at hs
    · rename_i cs e2
      split at hs<;>simp only [Option.some.injEq,reduceCtorEq] at hs
      rename_i hc
      refine ⟨_,hs.symm,fun fr2 _ _ h hh=>?_⟩
      rw [Same.x (x:=x) h.l,Same.x (x:=i) h.r,e]
      simp only [if_pos hj,e2,if_pos hc]
    · rename_i nm g ei off e2
      split at hs
      case h_2=>cases hs
      rename_i el g' cl osz hob
      split at hs<;>simp only [Option.some.injEq,reduceCtorEq] at hs
      rename_i hc
      refine ⟨_,hs.symm,fun fr2 _ _ h hh=>?_⟩
      rw [Same.x (x:=x) h.l,Same.x (x:=i) h.r,e]
      simp only [if_pos hj,e2,hh.mem hob,if_pos hc]
    · cases hs
  case lookup str z ok m k =>
    split at hs
    · cases hs
    rename_i hki
    split at hs
    case h_2=>cases hs
    rename_i es hes
    split at hs<;>simp only [Option.some.injEq,reduceCtorEq] at hs
    rename_i r hr
    refine ⟨_,hs.symm,fun fr2 _ _ h hh=>?_⟩
    rw [Same.x (x:=m) h.l,Same.x (x:=k) h.r,if_neg hki]
    split at hes
    · rename_i e
      simp only [Option.some.injEq] at hes
      subst hes
      simp only [hr]
    · rename_i n g e
      split at hes
      case h_2=>cases hes
      rename_i es' cc g' hob
      split at hes<;>simp only [Option.some.injEq,reduceCtorEq] at hes
      rename_i hc
      subst hes
      simp only [hh.map hob,if_pos hc,hr]
    · cases hes
  case lenl x =>
    split at hs<;>simp only [Option.some.injEq,reduceCtorEq] at hs
    rename_i k hk
    refine ⟨_,hs.symm,fun fr2 _ _ h hh=>?_⟩
    rw [Same.x h]
    have:lenOf fr2.heap (evX E fr.tmps x)=some k:=by
      generalize evX E fr.tmps x=v at hk
      cases v with
      | vs f L=>exact hk
      | sl n g off len =>
        simp only [lenOf] at hk ⊢
        split at hk
        case h_2=>cases hk
        rename_i hob
        split at hk<;>simp only [Option.some.injEq,reduceCtorEq] at hk
        rename_i hc
        simp only [hh.mem hob,if_pos hc,hk]
      | _=>simp [lenOf] at hk
    rw [this]
  case lenm x =>
    split at hs
    · rename_i e
      simp only [Option.some.injEq] at hs
      exact ⟨_,hs.symm,fun fr2 _ _ h hh=>by rw [Same.x h,e]⟩
    · rename_i n g e
      split at hs
      case h_2=>cases hs
      rename_i es cc g' hob
      split at hs<;>simp only [Option.some.injEq,reduceCtorEq] at hs
      rename_i hc
      refine ⟨_,hs.symm,fun fr2 _ _ h hh=>?_⟩
      rw [Same.x h,e]
      simp only [hh.map hob,if_pos hc]
    · cases hs
end Go.VI
namespace Go.VI
variable {E:Env} {fr fr1 fr2:Fr} {dst:Option Nat} {callE callE2:CallE} {yieldE yieldE2:Nm→List PV→Heap→Option (PV × Heap)}
theorem lay_same {p:POp} {s:Nat} {t t':List PV} {nm:Nm} {k:Nat} (hp:p.slot=some s) (h:Same p.uses t t'):layE (evX E t') nm p k=layE (evX E t) nm p k:=by
  cases p<;>simp only [POp.slot,reduceCtorEq] at hp<;>simp only [layE]
  case box s' x=>rw [Same.x (x:=x) h]
  case bslm s' cl sz z ps=>rw [fillElems_eq ps z h]
  case mkslice s' cl bytes z l c=>rw [Same.x (x:=l) h.l,Same.x (x:=c) h.r]
def POp.fixed:POp→Bool
  | .store _ _ _|.mupd _ _ _ _|.mentry _ _ _ _|.estore _ _ _|.append _ _ _ _ _ _|.call _ _|.calla _ _ _ _=>true
  | p=>p.bare||p.reads
theorem lay_tmps {s:Nat} {f:Nat→Option (PV × Ob)} (hs:fr.lay dst s f=some fr1):∃ v h1,fr1=({ fr with heap:=h1 }:Fr).put dst v∧∀ t2,({ fr with tmps:=t2 }:Fr).lay dst s f=some (({ fr with heap:=h1,tmps:=t2 }:Fr).put dst v):=by
  unfold Fr.lay at hs
  split at hs
  case isFalse=>cases hs
  rename_i hlen
  split at hs<;>simp only [Option.some.injEq,reduceCtorEq] at hs
  rename_i v ob hf
  refine ⟨v,_,hs.symm,fun t2=>?_⟩
  have hf':f (nextGen ({ fr with tmps:=t2 }:Fr).heap (({ fr with tmps:=t2 }:Fr).nm s))=some (v,ob):=hf
  unfold Fr.lay
  rw [if_pos (by exact hlen),hf']
  rfl
theorem fixed_same {p:POp} (hp:p.fixed=true) (hs:stepOp E callE yieldE dst p fr=some fr1):∃ v h1,fr1=({ fr with heap:=h1 }:Fr).put dst v∧∀ t2,Same p.uses fr.tmps t2→stepOp E callE yieldE dst p { fr with tmps:=t2 }=some (({ fr with heap:=h1,tmps:=t2 }:Fr).put dst v):=by
  by_cases hb:p.bare=true
  · obtain ⟨v,h1,h2⟩:=bare_same hb hs
    exact ⟨v,fr.heap,h1,fun t2 ht=>h2 { fr with tmps:=t2 } callE yieldE ht⟩
  by_cases hr:p.reads=true
  · obtain ⟨v,h1,h2⟩:=reads_same hr hs
    exact ⟨v,fr.heap,h1,fun t2 ht=>h2 { fr with tmps:=t2 } callE yieldE ht (HLe.refl _)⟩
  cases p<;>simp only [POp.fixed,POp.bare,POp.reads,Bool.or_false,reduceCtorEq,not_true_eq_false] at hp hb hr<;>simp only [stepOp] at hs ⊢
  case store k x y =>
    split at hs
    case h_2=>cases hs
    rename_i n g i off e
    split at hs
    case h_2=>cases hs
    rename_i el g' cl sz hob
    split at hs
    case isFalse=>cases hs
    rename_i hc
    split at hs
    · rename_i cs he
      split at hs<;>simp only [Option.some.injEq,reduceCtorEq] at hs
      rename_i hc2
      refine ⟨_,_,hs.symm,fun t2 h=>?_⟩
      simp only [Same.x (E:=E) (x:=x) h.l,Same.x (E:=E) (x:=y) h.r,e,hob,if_pos hc,he,if_pos hc2]
    · rename_i e' hna he
      split at hs<;>simp only [Option.some.injEq,reduceCtorEq] at hs
      rename_i hc2
      refine ⟨_,_,hs.symm,fun t2 h=>?_⟩
      simp only [Same.x (E:=E) (x:=x) h.l,Same.x (E:=E) (x:=y) h.r,e,hob,if_pos hc,he,if_pos hc2]
    · cases hs
  case mupd str m k x =>
    split at hs
    case isFalse=>cases hs
    rename_i hc
    split at hs
    case h_2=>cases hs
    rename_i n g e
    split at hs
    case h_2=>cases hs
    rename_i es cc g' hob
    split at hs
    case isFalse=>cases hs
    rename_i hc2
    split at hs<;>simp only [Option.some.injEq,reduceCtorEq] at hs
    rename_i r hr2
    refine ⟨_,_,hs.symm,fun t2 h=>?_⟩
    simp only [Same.x (E:=E) (x:=m) h.l.l,Same.x (E:=E) (x:=k) h.l.r,Same.x (E:=E) (x:=x) h.r,e,hob,if_pos hc,if_pos hc2,hr2]
  case mentry str z m k =>
    split at hs
    case isFalse=>cases hs
    rename_i hc
    split at hs
    case h_2=>cases hs
    rename_i n g e
    split at hs
    case h_2=>cases hs
    rename_i es cc g' hob
    split at hs
    case isFalse=>cases hs
    rename_i hc2
    split at hs<;>simp only [Option.some.injEq,reduceCtorEq] at hs
    rename_i r hr2
    refine ⟨_,_,hs.symm,fun t2 h=>?_⟩
    simp only [Same.x (E:=E) (x:=m) h.l,Same.x (E:=E) (x:=k) h.r,e,hob,if_pos hc,if_pos hc2,hr2]
  case estore m k x =>
    split at hs
    case isFalse=>cases hs
    rename_i hc
    split at hs
    case h_2=>cases hs
    rename_i n g kk j e1 e2
    split at hs
    case h_2=>cases hs
    rename_i es cc g' hob
    split at hs
    case isFalse=>cases hs
    rename_i hc2
    split at hs<;>simp only [Option.some.injEq,reduceCtorEq] at hs
    rename_i r hr2
    refine ⟨_,_,hs.symm,fun t2 h=>?_⟩
    simp only [Same.x (E:=E) (x:=m) h.l.l,Same.x (E:=E) (x:=k) h.l.r,Same.x (E:=E) (x:=x) h.r,e1,e2,hob,if_pos hc,if_pos hc2,hr2]
  case append s cl sz bytes x y =>
    split at hs
    case h_1=>cases hs
    rename_i ys hys
    split at hs
    · cases hs
    rename_i hc0
    split at hs
    · rename_i f L e
      split at hs
      case isFalse=>cases hs
      rename_i hc
      obtain ⟨v,h1,h2,h3⟩:=lay_tmps hs
      refine ⟨v,h1,h2,fun t2 h=>?_⟩
      simp only [Same.x (E:=E) (x:=x) h.l,Same.x (E:=E) (x:=y) h.r,hys,if_neg hc0,e,if_pos hc]
      exact h3 t2
    · rename_i n g off len e
      split at hs
      case h_2=>cases hs
      rename_i el g' cl' sz' hob
      split at hs
      case isFalse=>cases hs
      rename_i hc
      split at hs
      · rename_i hc2
        simp only [Option.some.injEq] at hs
        refine ⟨_,_,hs.symm,fun t2 h=>?_⟩
        simp only [Same.x (E:=E) (x:=x) h.l,Same.x (E:=E) (x:=y) h.r,hys,if_neg hc0,e,hob,if_pos hc,if_pos hc2]
      · rename_i hc2
        split at hs<;>simp only [Option.some.injEq,reduceCtorEq] at hs
        rename_i hc3
        refine ⟨_,_,hs.symm,fun t2 h=>?_⟩
        simp only [Same.x (E:=E) (x:=x) h.l,Same.x (E:=E) (x:=y) h.r,hys,if_neg hc0,e,hob,if_pos hc,if_neg hc2,if_pos hc3]
    · cases hs
  case call f args =>
    split at hs<;>simp only [Option.some.injEq,reduceCtorEq] at hs
    rename_i v h hc
    refine ⟨_,_,hs.symm,fun t2 h=>?_⟩
    simp only [Same.x (E:=E) (x:=f) h.l,Same.xs (E:=E) h.r,hc]
  case calla s cl f args =>
    split at hs
    case h_2=>cases hs
    rename_i k x hf
    split at hs
    case h_2=>cases hs
    rename_i pf L hpf hel
    split at hs
    case isFalse=>cases hs
    rename_i hp
    split at hs
    case h_2=>cases hs
    rename_i n gg len h' hc
    split at hs
    case h_2=>cases hs
    rename_i el g' sz hob
    split at hs
    case isFalse=>cases hs
    rename_i hcc
    have hx:∀ t2,Same (POp.calla s cl f [x]).uses fr.tmps t2→evX E t2 x=evX E fr.tmps x:=fun t2 h=>by
      have:=Same.xs (E:=E) (xs:=[x]) h.r
      simpa using this
    split at hs
    · rename_i hcl
      obtain ⟨v,h1,h2,h3⟩:=lay_tmps hs
      refine ⟨v,h1,h2,fun t2 h=>?_⟩
      simp only [Same.x (E:=E) (x:=f) h.l,hf,hx t2 h,hpf,hel,if_pos hp,hc,hob,if_pos hcc,if_pos hcl]
      exact h3 t2
    · rename_i hcl
      simp only [Option.some.injEq] at hs
      refine ⟨_,_,hs.symm,fun t2 h=>?_⟩
      simp only [Same.x (E:=E) (x:=f) h.l,hf,hx t2 h,hpf,hel,if_pos hp,hc,hob,if_pos hcc,if_neg hcl]
  all_goals simp_all
end Go.VI
namespace Go.VI
variable {g:PG} {c:Ctx} {w:World} {fr fr':Fr} {a:Act} {callE:CallE} {yieldE:Nm→List PV→Heap→Option (PV × Heap)}
def ancOf (its:List DPO) (i:Nat):List Nat :=
  match its.find? (fun x=>Nat.beq x.ix i) with
  | some x=>x.anc
  | none=>[]
def edgeOK (os:Array Oper) (its:List DPO) (it:DPO) (j:Nat):Bool :=
  match os[it.ix]? with
  | some o=>o.after.any fun e=>Region.binds .any e&&Nat.blt e.on it.ix&&(Nat.beq e.on j||(ancOf its e.on).contains j)
  | none=>false
def pairOK (x y:DPO):Bool :=
  !Nat.beq x.ix y.ix&&!x.anc.contains y.ix &&
  (match x.isC with
   | true=>y.anc.contains x.ix
   | false=>(match x.o.dst with
     | none=>false
     | some d=>(!y.o.uses.contains d||y.anc.contains x.ix)&&!decide (y.o.dst=some d)) &&
     (match y.isC with
      | true=>(y.anc.contains x.ix||(x.o.op.bare&&x.o.op.slot.isNone)||y.chk.contains x.ix)&&(match y.o.dst with
        | none=>true
        | some d=>!x.o.uses.contains d||y.anc.contains x.ix)
      | false=>!(x.o.op.slot.isSome&&decide (x.o.op.slot=y.o.op.slot)))) &&
  (match y.isC with
   | true=>true
   | false=>(match y.o.dst with
     | none=>false
     | some d=>!x.o.uses.contains d&&!decide (x.o.dst=some d)))
def pairsOK:List DPO→Bool
  | []=>true
  | x::r=>r.all (pairOK x)&&pairsOK r
def PG.itemOK (g:PG) (rd:Bool) (os:Array Oper) (its:List DPO) (x:DPO):Bool :=
  (match os[x.ix]? with
   | some o=>g.matchPO rd os x.o o
   | none=>false)&&x.anc.all (edgeOK os its x) &&
  (match x.isC with
   | true=>x.o.op.fixed
   | false=>(x.o.op.bare||x.o.op.reads||x.o.op.slot.isSome)&&(match x.o.dst with
     | none=>false
     | some d=>!x.o.uses.contains d))
def orderOK (md:Region.Mode) (os:Array Oper):List Nat→List Nat→Bool
  | _,[]=>true
  | seen,i::L=>(match os[i]? with
    | some o=>o.after.all fun e=>!Region.binds md e||seen.contains e.on
    | none=>true)&&orderOK md os (i::seen) L
def PG.drawOK (g:PG) (rd:Bool) (os:Array Oper) (its:List DPO) (gcL:List Nat) (mxd:Nat):Bool :=
  (List.range os.size).all (fun i=>its.any fun x=>Nat.beq x.ix i)&&its.all (fun x=>Nat.blt x.ix os.size&&g.itemOK rd os its x&&(match x.o.dst with|some d=>Nat.blt d mxd|none=>true))&&pairsOK its &&
  orderOK .any os [] (List.range os.size)&&orderOK .text os [] (List.range os.size) &&
  orderOK .gc os [] gcL&&gcL.all (fun i=>Nat.blt i os.size)&&(List.range os.size).all (fun i=>gcL.contains i)
theorem Yi:∀ {its:List DPO} {pre post:List DPO} {x y:DPO},pairsOK its=true→its=pre++x::post→y∈post→pairOK x y=true
  | [],pre,post,x,y,_,h,_=>by simp at h
  | z::r,[],post,x,y,hp,h,hy=>by
    simp only [List.nil_append,List.cons.injEq] at h
    obtain ⟨rfl,rfl⟩:=h
    simp only [pairsOK,Bool.and_eq_true] at hp
    exact List.all_eq_true.1 hp.1 y hy
  | z::r,p::pre,post,x,y,hp,h,hy=>by
    simp only [List.cons_append,List.cons.injEq] at h
    simp only [pairsOK,Bool.and_eq_true] at hp
    exact Yi hp.2 h.2 hy
theorem pairs_or {its:List DPO} (hp:pairsOK its=true) {x y:DPO} (hx:x∈its) (hy:y∈its):x=y∨pairOK x y=true∨pairOK y x=true:=by
  obtain ⟨pre,post,rfl⟩:=List.append_of_mem hx
  rcases List.mem_append.1 hy with h1|h1
  · obtain ⟨p1,p2,rfl⟩:=List.append_of_mem h1
    exact .inr (.inr (Yi hp (pre:=p1) (post:=p2++x::post) (by simp) (by simp)))
  · rcases List.mem_cons.1 h1 with h1|h1
    · exact .inl h1.symm
    · exact .inr (.inl (Yi hp rfl h1))
theorem pairOK_ix {x y:DPO} (h:pairOK x y=true):x.ix≠y.ix:=by
  intro e
  unfold pairOK at h
  simp only [Bool.and_eq_true,Bool.not_eq_true',e] at h
  have:=h.1.1.1
  simp at this
theorem ix_inj {its:List DPO} (hp:pairsOK its=true) {x y:DPO} (hx:x∈its) (hy:y∈its) (h:x.ix=y.ix):x=y:=by
  rcases pairs_or hp hx hy with h1|h1|h1
  · exact h1
  · exact absurd h (pairOK_ix h1)
  · exact absurd h.symm (pairOK_ix h1)
theorem binds_any {md:Region.Mode} {e:Edge} (h:Region.binds .any e=true):Region.binds md e=true:=by
  unfold Region.binds at h ⊢
  split<;>simp_all
def ClosedL (md:Region.Mode) (os:Array Oper) (listed:Array Bool):Prop:=∀ (i:Nat) (o:Oper) (e:Edge),listed.getD i false=true→os[i]?=some o→e∈o.after→Region.binds md e=true→listed.getD e.on false=true
theorem anc_listed {md:Region.Mode} {os:Array Oper} {its:List DPO} {listed:Array Bool} (hA:∀ x∈its,x.anc.all (edgeOK os its x)=true) (hc:ClosedL md os listed) :
    ∀ (n:Nat) (x:DPO),x∈its→x.ix=n→listed.getD x.ix false=true→∀ j∈x.anc,listed.getD j false=true:=by
  intro n
  induction n using Nat.strongRecOn with
  | _ n ih =>
    intro x hx hn hl j hj
    have h1:=List.all_eq_true.1 (hA x hx) j hj
    unfold edgeOK at h1
    split at h1
    case h_2=>cases h1
    rename_i o ho
    obtain ⟨e,he,h2⟩:∃ e,e∈o.after∧(Region.binds .any e&&Nat.blt e.on x.ix&&(Nat.beq e.on j||(ancOf its e.on).contains j))=true:=by
      obtain ⟨k,hk,h2⟩:=Array.any_eq_true.1 h1
      exact ⟨_,Array.getElem_mem hk,h2⟩
    simp only [Bool.and_eq_true,Bool.or_eq_true] at h2
    obtain ⟨⟨hb,hlt⟩,h3⟩:=h2
    have hlt:e.on<x.ix:=by simpa using hlt
    have hon:=hc x.ix o e hl ho he (binds_any hb)
    rcases h3 with h3|h3
    · rw [← Zm h3];exact hon
    · unfold ancOf at h3
      split at h3
      · rename_i y hy
        have hyi:=Zm (by simpa using List.find?_some hy)
        exact ih e.on (hn ▸ hlt) y (List.mem_of_find?_eq_some hy) hyi (by rw [hyi];exact hon) j (by simpa using h3)
      · simp at h3
theorem ready_anc {md:Region.Mode} {os:Array Oper} {its:List DPO} {listed:Array Bool} (hA:∀ x∈its,x.anc.all (edgeOK os its x)=true) (hc:ClosedL md os listed) {x:DPO} (hx:x∈its) {o:Oper} (ho:os[x.ix]?=some o)
    (hr:∀ e∈o.after,Region.binds md e=true→listed.getD e.on false=true):∀ j∈x.anc,listed.getD j false=true:=by
  intro j hj
  have h1:=List.all_eq_true.1 (hA x hx) j hj
  unfold edgeOK at h1
  rw [ho] at h1
  obtain ⟨e,he,h2⟩:∃ e,e∈o.after∧(Region.binds .any e&&Nat.blt e.on x.ix&&(Nat.beq e.on j||(ancOf its e.on).contains j))=true:=by
      obtain ⟨k,hk,h2⟩:=Array.any_eq_true.1 h1
      exact ⟨_,Array.getElem_mem hk,h2⟩
  simp only [Bool.and_eq_true,Bool.or_eq_true] at h2
  obtain ⟨⟨hb,_⟩,h3⟩:=h2
  have hon:=hr e he (binds_any hb)
  rcases h3 with h3|h3
  · rw [← Zm h3];exact hon
  · unfold ancOf at h3
    split at h3
    · rename_i y hy
      have hyi:=Zm (by simpa using List.find?_some hy)
      exact anc_listed hA hc e.on y (List.mem_of_find?_eq_some hy) hyi (by rw [hyi];exact hon) j (by simpa using h3)
    · simp at h3
theorem progress {md:Region.Mode} {os:Array Oper} {listed:Array Bool} (hr:Region.ready md os listed=[]):∀ (L seen:List Nat),orderOK md os seen L=true→(∀ i∈seen,listed.getD i false=true)→(∀ i∈L,i<os.size)→listed.size=os.size→∀ i∈L,listed.getD i false=true
  | [],_,_,_,_,_,i,hi=>by cases hi
  | k::L,seen,ho,hs,hL,hsz,i,hi=>by
    simp only [orderOK,Bool.and_eq_true] at ho
    have hk:k<os.size:=hL k (by simp)
    have hok:os[k]?=some os[k]:=Array.getElem?_eq_getElem hk
    have h1:=ho.1
    rw [hok] at h1
    simp only at h1
    have hlk:listed.getD k false=true:=by
      cases hlk:listed.getD k false with
      | true=>rfl
      | false =>
        have:k∈Region.ready md os listed:=by
          refine mem_ready.2 ⟨?_,os[k],hok,fun e he hb=>?_⟩
          · have hkl:k<listed.size:=by rw [hsz];exact hk
            simpa [Array.getD,hkl] using hlk
          · have h2:=Array.all_eq_true_iff_forall_mem.1 h1 e he
            simp only [hb,Bool.not_true,Bool.false_or] at h2
            exact hs _ (by simpa using h2)
        rw [hr] at this
        cases this
    rcases List.mem_cons.1 hi with rfl|hi
    · exact hlk
    · exact progress hr L (k::seen) ho.2 (fun j hj=>by
        rcases List.mem_cons.1 hj with rfl|hj
        · exact hlk
        · exact hs j hj) (fun j hj=>hL j (List.mem_cons_of_mem _ hj)) hsz i hi
end Go.VI
namespace Go.VI
variable {g:PG} {c c' c0:Ctx} {w w':World} {fr fr' F F':Fr} {a:Act} {callE:CallE} {yieldE:Nm→List PV→Heap→Option (PV × Heap)} {E:Env} {U:Nat→Prop}
open Classical in
noncomputable def maskU (U:Nat→Prop) (t:List PV):List PV:=t.mapIdx fun i v=>if U i then .junk else v
theorem maskU_length (t:List PV):(maskU U t).length=t.length:=by simp [maskU]
theorem maskU_in {i:Nat} (h:U i) (t:List PV):(maskU U t).getD i .junk=.junk:=by
  simp only [maskU,List.getD,List.getElem?_mapIdx,if_pos h]
  cases t[i]?<;>rfl
theorem maskU_out {i:Nat} (h:¬ U i) (t:List PV):(maskU U t).getD i .junk=t.getD i .junk:=by
  simp only [maskU,List.getD,List.getElem?_mapIdx]
  cases t[i]? with
  | none=>rfl
  | some v=>simp [h]
structure FrU (g:PG) (c:Ctx) (w:World) (F:Fr) (U:Nat→Prop) (a:Act):Prop where
  size:F.tmps.length=a.tmps.size
  tmps:∀ i,¬ U i→VRel c w (F.tmps.getD i .junk) (a.tmps.getD i undef)
  hs:HS g c w F.heap
  defs:DefRel g.lo c w F.defers a.defers
noncomputable def Fr.mask (F:Fr) (U:Nat→Prop):Fr:={ F with tmps:=maskU U F.tmps }
theorem FrU.mask (h:FrU g c w F U a):FrRel g c w (F.mask U) a:=by
  refine ⟨(maskU_length F.tmps).trans h.size,fun i=>?_,h.hs.heap,h.hs.wf,h.defs,h.hs.hn⟩
  show VRel c w ((maskU U F.tmps).getD i .junk) _
  by_cases hi:U i
  · rw [maskU_in hi];exact .i _ _ (.junk _)
  · rw [maskU_out hi];exact h.tmps i hi
theorem FrU.of (h:FrRel g c w fr a) (hl:F.tmps.length=fr.tmps.length) (hh:F.heap=fr.heap) (hd:F.defers=fr.defers) (ht:∀ i,¬ U i→F.tmps.getD i .junk=fr.tmps.getD i .junk):FrU g c w F U a :=
  ⟨hl.trans h.size,fun i hi=>by rw [ht i hi];exact h.tmps i,hh ▸ h.hs,hd ▸ h.defs⟩
theorem FrU.rel (h:FrU g c w F U a) (hU:∀ i,¬ U i):FrRel g c w F a:=⟨h.size,fun i=>h.tmps i (hU i),h.hs.heap,h.hs.wf,h.defs,h.hs.hn⟩
theorem FrU.mono {U':Nat→Prop} (h:FrU g c w F U a) (hU:∀ i,U i→U' i):FrU g c w F U' a:=⟨h.size,fun i hi=>h.tmps i fun x=>hi (hU i x),h.hs,h.defs⟩
theorem Ye (fr:Fr) (d:Nat) (v:PV) (i:Nat):(fr.put (some d) v).tmps.getD i .junk=if d=i∧d<fr.tmps.length then v else fr.tmps.getD i .junk:=by
  show (fr.tmps.set d v).getD i .junk=_
  simp only [List.getD,List.getElem?_set]
  by_cases h:d=i
  · subst h
    by_cases hl:d<fr.tmps.length
    · simp [hl]
    · simp [hl]
  · simp [h]
theorem put_len (fr:Fr) (dst:Option Nat) (v:PV):(fr.put dst v).tmps.length=fr.tmps.length:=by cases dst<;>simp [Fr.put]
theorem Yh (fr:Fr) (dst:Option Nat) (v:PV):(fr.put dst v).heap=fr.heap:=by cases dst<;>rfl
theorem put_lvl (fr:Fr) (dst:Option Nat) (v:PV):(fr.put dst v).lvl=fr.lvl:=by cases dst<;>rfl
theorem put_defers (fr:Fr) (dst:Option Nat) (v:PV):(fr.put dst v).defers=fr.defers:=by cases dst<;>rfl
theorem Z9 {o:PPO} {t t':List PV} (h:Same o.uses t t'):guardE t' o.guard=guardE t o.guard:=by
  cases hg:o.guard with
  | none=>rfl
  | some x =>
    obtain ⟨i,b⟩:=x
    have:t'.getD i .junk=t.getD i .junk:=h i (by simp [PPO.uses,hg])
    simp only [guardE,this]
theorem layE_gen {ev ev':PX→PV} {nm:Nm} {p:POp} {k k':Nat} {v:PV} {ob ob':Ob} (h:layE ev nm p k=some (v,ob)) (h':layE ev' nm p k'=some (v,ob')):k=k':=by
  cases p<;>simp only [layE,reduceCtorEq] at h h'
  case vec=>simp only [Option.some.injEq,Prod.mk.injEq] at h h';rw [← h.1] at h';simpa using h'.1.symm
  case alloc=>simp only [Option.some.injEq,Prod.mk.injEq] at h h';rw [← h.1] at h';simpa using h'.1.symm
  case box =>
    split at h<;>simp only [Option.some.injEq,Prod.mk.injEq,reduceCtorEq] at h
    split at h'<;>simp only [Option.some.injEq,Prod.mk.injEq,reduceCtorEq] at h'
    rw [← h.1] at h';simpa using h'.1.symm
  case bslm =>
    split at h
    case h_2=>cases h
    split at h<;>simp only [Option.some.injEq,Prod.mk.injEq,reduceCtorEq] at h
    split at h'
    case h_2=>cases h'
    split at h'<;>simp only [Option.some.injEq,Prod.mk.injEq,reduceCtorEq] at h'
    rw [← h.1] at h'
    simp only [PV.sl.injEq] at h'
    exact h'.1.2.1.symm
  case mkmap=>simp only [Option.some.injEq,Prod.mk.injEq] at h h';rw [← h.1] at h';simpa using h'.1.symm
  case mkslice =>
    split at h
    case h_2=>cases h
    split at h<;>simp only [Option.some.injEq,Prod.mk.injEq,reduceCtorEq] at h
    split at h'
    case h_2=>cases h'
    split at h'<;>simp only [Option.some.injEq,Prod.mk.injEq,reduceCtorEq] at h'
    rw [← h.1] at h'
    simp only [PV.sl.injEq] at h'
    exact h'.1.2.1.symm
theorem layE_ob {ev:PX→PV} {nm:Nm} {p:POp} {k:Nat} {v:PV} {ob:Ob} (h:layE ev nm p k=some (v,ob)):(∀ j,ob≠.dead j)∧ob.gen=k:=by
  cases p<;>simp only [layE,reduceCtorEq] at h
  case vec=>simp only [Option.some.injEq,Prod.mk.injEq] at h;rw [← h.2];exact ⟨by simp,rfl⟩
  case alloc=>simp only [Option.some.injEq,Prod.mk.injEq] at h;rw [← h.2];exact ⟨by simp,rfl⟩
  case box =>
    split at h<;>simp only [Option.some.injEq,Prod.mk.injEq,reduceCtorEq] at h
    rw [← h.2];exact ⟨by simp,rfl⟩
  case bslm =>
    split at h
    case h_2=>cases h
    split at h<;>simp only [Option.some.injEq,Prod.mk.injEq,reduceCtorEq] at h
    rw [← h.2];exact ⟨by simp,rfl⟩
  case mkmap=>simp only [Option.some.injEq,Prod.mk.injEq] at h;rw [← h.2];exact ⟨by simp,rfl⟩
  case mkslice =>
    split at h
    case h_2=>cases h
    split at h<;>simp only [Option.some.injEq,Prod.mk.injEq,reduceCtorEq] at h
    rw [← h.2];exact ⟨by simp,rfl⟩
inductive Stable (E:Env) (c0 c:Ctx) (F:Fr) (o:PPO) (d:Nat):Prop
  | off (hg:guardE F.tmps o.guard=some false) (hv:F.tmps.getD d .junk=.tuple [])
  | op (hg:guardE F.tmps o.guard=some true) (hs:o.op.slot=none) (v:PV) (callE:CallE) (yieldE:Nm→List PV→Heap→Option (PV × Heap)) (h:stepOp E callE yieldE (some d) o.op F=some (F.put (some d) v)) (hv:F.tmps.getD d .junk=v)
  | lay (hg:guardE F.tmps o.guard=some true) (s:Nat) (ob:Ob) (v:PV) (hs:o.op.slot=some s) (ho:hget F.heap (F.nm s)=some ob) (h:layE (evX E F.tmps) (F.nm s) o.op ob.gen=some (v,ob)) (hv:F.tmps.getD d .junk=v)
      (hp:c.obj (F.nm s)=none) (hlt:c0.gen (F.nm s)<c.gen (F.nm s))
theorem uses_op {o:PPO} {t t':List PV} (h:Same o.uses t t'):Same o.op.uses t t':=h.l
theorem Stable.to {o:PPO} {d:Nat} (h:Stable E c0 c F o d) (hR:(o.op.bare||o.op.reads||o.op.slot.isSome)=true) (hl:F'.lvl=F.lvl) (hlen:F'.tmps.length=F.tmps.length) (hsm:Same o.uses F.tmps F'.tmps) (hd:F'.tmps.getD d .junk=F.tmps.getD d .junk)
    (hh:HLe F.heap F'.heap∨(o.op.bare=true∧o.op.slot=none)) (hc:∀ s,o.op.slot=some s→c'.obj (F.nm s)=c.obj (F.nm s)∧c'.gen (F.nm s)=c.gen (F.nm s)):Stable E c0 c' F' o d:=by
  have hg':=Z9 hsm
  cases h with
  | off hg hv=>exact .off (hg'.trans hg) (hd.trans hv)
  | op hg hs v ce ye h hv =>
    refine .op (hg'.trans hg) hs v ce ye ?_ (hd.trans hv)
    have inj:∀ v',F.put (some d) v=F.put (some d) v'→F'.put (some d) v'=F'.put (some d) v:=by
      intro v' he
      have hle:(F.put (some d) v).tmps.getD d .junk=(F.put (some d) v').tmps.getD d .junk:=by rw [he]
      rw [Ye,Ye] at hle
      by_cases hlt:d<F.tmps.length
      · simp only [true_and,hlt,if_true] at hle
        rw [hle]
      · show ({ F' with tmps:=F'.tmps.set d v' }:Fr)={ F' with tmps:=F'.tmps.set d v }
        rw [List.set_eq_of_length_le (by omega),List.set_eq_of_length_le (by omega)]
    by_cases hb:o.op.bare=true
    · obtain ⟨v',e1,h2⟩:=bare_same hb h
      rw [h2 F' ce ye (uses_op hsm),inj v' e1]
    · have hr:o.op.reads=true:=by simpa [hs,hb] using hR
      obtain ⟨v',e1,h2⟩:=reads_same hr h
      rcases hh with hh|⟨hb',_⟩
      · rw [h2 F' ce ye (uses_op hsm) hh,inj v' e1]
      · exact absurd hb' hb
  | lay hg s ob v hs ho h hv hp hlt =>
    have hnm:F'.nm s=F.nm s:=by simp [Fr.nm,hl]
    refine .lay (hg'.trans hg) s ob v hs ?_ ?_ (hd.trans hv) ?_ ?_
    · rcases hh with hh|⟨_,hn⟩
      · rw [hnm];exact hh _ _ ho (layE_ob h).1
      · rw [hs] at hn;cases hn
    · rw [hnm,lay_same hs (uses_op hsm)];exact h
    · rw [hnm,(hc s hs).1];exact hp
    · rw [hnm,(hc s hs).2];exact hlt
theorem hget_hset_same {h:Heap} {n:Nm} {ob:Ob} (hg:hget h n=some ob):hset h n ob=h:=by
  unfold hset
  apply List.ext_getElem?
  intro i
  rw [List.getElem?_modify]
  unfold hget at hg
  by_cases hi:n.1=i
  · subst hi
    cases ht:h[n.1]? with
    | none=>simp
    | some t =>
      simp only [ht,Option.bind_some] at hg
      simp only [if_true,Option.map_eq_map,Option.map_some,Option.some.injEq]
      apply List.ext_getElem?
      intro j
      rw [List.getElem?_set]
      by_cases hj:n.2=j
      · subst hj
        cases hx:t[n.2]? with
        | none=>simp [hx] at hg
        | some x =>
          simp only [hx,Option.bind_some,id_eq] at hg
          have:=Zb hx
          simp [this,hg]
      · simp [hj]
  · simp [hi]
theorem HLe.hset {h:Heap} {n:Nm} {ob:Ob} (hf:match hget h n with|none=>True|some (.dead _)=>True|_=>False):HLe h (hset h n ob):=by
  intro m o ho hd
  by_cases hm:m=n
  · subst hm
    rw [ho] at hf
    cases o with
    | dead k=>exact absurd rfl (hd k)
    | _=>simp at hf
  · rw [Yd hm];exact ho
mutual
theorem same_eq:∀ (a b:PV),PV.same a b=true→a=b
  | .bool _,b,h=>by cases b<;>simp_all [PV.same]
  | .int _ _,b,h=>by cases b<;>simp_all [PV.same]
  | .str _,b,h=>by cases b<;>simp_all [PV.same]
  | .agg x,b,h=>by
    cases b<;>simp only [PV.same,reduceCtorEq] at h
    rw [sameL_eq x _ h]
  | .vs f x,b,h=>by
    cases b<;>simp only [PV.same,reduceCtorEq,Bool.and_eq_true,decide_eq_true_eq] at h
    rw [sameL_eq x _ h.2,h.1]
  | .sl _ _ _ _,b,h=>by cases b<;>simp_all [PV.same]
  | .ptr _ _ _ _,b,h=>by cases b<;>simp_all [PV.same]
  | .nilp,b,h=>by cases b<;>simp_all [PV.same]
  | .ip x,b,h=>by
    cases b<;>simp only [PV.same,reduceCtorEq] at h
    rw [sameL_eq x _ h]
  | .map _ _,b,h=>by cases b<;>simp_all [PV.same]
  | .nilmap,b,h=>by cases b<;>simp_all [PV.same]
  | .fn f x y,b,h=>by
    cases b<;>simp only [PV.same,reduceCtorEq,Bool.and_eq_true,beq_iff_eq] at h
    rw [sameL_eq x _ h.1.2,sameL_eq y _ h.2,h.1.1]
  | .nilfn,b,h=>by cases b<;>simp_all [PV.same]
  | .nili,b,h=>by cases b<;>simp_all [PV.same]
  | .tuple x,b,h=>by
    cases b<;>simp only [PV.same,reduceCtorEq] at h
    rw [sameL_eq x _ h]
  | .junk,b,h=>by cases b<;>simp [PV.same] at h
  | .yld _ _,b,h=>by cases b<;>simp [PV.same] at h
theorem sameL_eq:∀ (a b:List PV),PV.sameL a b=true→a=b
  | [],[],_=>rfl
  | x::r,y::s,h=>by
    simp only [PV.sameL,Bool.and_eq_true] at h
    rw [same_eq x y h.1,sameL_eq r s h.2]
  | [],_::_,h=>by simp [PV.sameL] at h
  | _::_,[],h=>by simp [PV.sameL] at h
end
theorem stable_spec {o:PPO} {d:Nat} (hd:o.dst=some d) (hR:(o.op.bare||o.op.reads||o.op.slot.isSome)=true) (hs:stable E callE yieldE F o=true)
    (hp:∀ s k,o.op.slot=some s→guardE F.tmps o.guard=some true→(∃ ob,hget F.heap (F.nm s)=some ob∧ob.gen=k)→(∃ ev ob,layE ev (F.nm s) o.op k=some (F.tmps.getD d .junk,ob))→c.obj (F.nm s)=none∧c0.gen (F.nm s)<c.gen (F.nm s)):Stable E c0 c F o d:=by
  unfold stable at hs
  rw [hd] at hs
  simp only at hs
  split at hs
  · cases hs
  · rename_i hg
    exact .off hg (same_eq _ _ hs)
  · rename_i hg
    split at hs
    · rename_i s hsl
      split at hs
      · rename_i el k cl sz hob
        split at hs
        · rename_i v el' k' cl' sz' hl
          simp only [Bool.and_eq_true,beq_iff_eq] at hs
          obtain ⟨⟨⟨h1,h2⟩,h3⟩,h4⟩:=hs
          have e1:=same_eq _ _ h1
          have e2:=sameL_eq _ _ h2
          subst h3 h4 e2
          have hk:=(layE_ob hl).2
          simp only [Ob.gen] at hk
          subst hk
          obtain ⟨q1,q2⟩:=hp s k' hsl hg ⟨_,hob,rfl⟩ ⟨_,_,by rw [e1];exact hl⟩
          exact .lay hg s _ v hsl hob hl e1 q1 q2
        · cases hs
      · rename_i k hob
        split at hs
        · rename_i v k' hl
          have e1:=same_eq _ _ hs
          have hk:=(layE_ob hl).2
          simp only [Ob.gen] at hk
          subst hk
          obtain ⟨q1,q2⟩:=hp s k' hsl hg ⟨_,hob,rfl⟩ ⟨_,_,by rw [e1];exact hl⟩
          exact .lay hg s _ v hsl hob hl e1 q1 q2
        · cases hs
      · cases hs
    · rename_i hsl
      split at hs
      case h_2=>cases hs
      rename_i fr' hst
      have e1:=same_eq _ _ hs
      have hput:∃ v,fr'=F.put (some d) v:=by
        by_cases hb:o.op.bare=true
        · obtain ⟨v,h1,_⟩:=bare_same hb hst;exact ⟨v,h1⟩
        · have hr:o.op.reads=true:=by simpa [hsl,hb] using hR
          obtain ⟨v,h1,_⟩:=reads_same hr hst;exact ⟨v,h1⟩
      obtain ⟨v,rfl⟩:=hput
      rw [Ye] at e1
      by_cases hlt:d<F.tmps.length
      · rw [if_pos ⟨rfl,hlt⟩] at e1
        exact .op hg hsl v callE yieldE hst e1
      · have hj:F.tmps.getD d .junk=.junk:=by simp [List.getD,List.getElem?_eq_none (Nat.le_of_not_lt hlt)]
        refine .op hg hsl .junk callE yieldE ?_ hj
        rw [hst]
        show some ({ F with tmps:=F.tmps.set d v }:Fr)=some { F with tmps:=F.tmps.set d .junk }
        rw [List.set_eq_of_length_le (by omega),List.set_eq_of_length_le (by omega)]
end Go.VI
namespace Go.VI
variable {g:PG} {callE:CallE} {yieldE:Nm→List PV→Heap→Option (PV × Heap)} {rd:Bool} {os:Array Oper} {its:List DPO} {mxd:Nat} {md:Region.Mode}
def unl (listed:Array Bool) (past:List DPO):Nat→Prop:=fun i=>∃ x∈past,listed.getD x.ix false=false∧x.o.dst=some i
structure DI (g:PG) (os:Array Oper) (its:List DPO) (mxd:Nat) (md:Region.Mode) (c0:Ctx) (w0:World) (pre past rest:List DPO) (listed:Array Bool) (F:Fr) (c:Ctx) (w:World) (a:Act):Prop where
  split:its=pre++rest
  mem:∀ x,x∈past↔x∈pre∧x.isC=false
  size:listed.size=os.size
  closed:ClosedL md os listed
  cl:∀ x∈pre,x.isC=true→listed.getD x.ix false=true
  rl:∀ x∈rest,listed.getD x.ix false=false
  len:mxd≤F.tmps.length
  fr:FrU g c w F (unl listed past) a
  st:∀ x∈past,listed.getD x.ix false=false→∃ d,x.o.dst=some d∧Stable g.E c0 c F x.o d
  step:Step N0 c0 w0 c w
structure Stat (g:PG) (rd:Bool) (os:Array Oper) (its:List DPO) (mxd:Nat):Prop where
  all:∀ i,i<os.size→∃ x∈its,x.ix=i
  item:∀ x∈its,x.ix<os.size∧g.itemOK rd os its x=true∧∀ d,x.o.dst=some d→d<mxd
  pairs:pairsOK its=true
theorem Stat.R (h:Stat g rd os its mxd) {x:DPO} (hx:x∈its) (hc:x.isC=false):(x.o.op.bare||x.o.op.reads||x.o.op.slot.isSome)=true∧∃ d,x.o.dst=some d∧d ∉ x.o.uses∧d<mxd:=by
  obtain ⟨_,h1,h2⟩:=h.item x hx
  unfold PG.itemOK at h1
  simp only [hc,Bool.and_eq_true] at h1
  obtain ⟨_,h3,h4⟩:=h1
  refine ⟨h3,?_⟩
  split at h4
  · cases h4
  · rename_i d hd
    exact ⟨d,hd,by simpa using h4,h2 d hd⟩
theorem Stat.C (h:Stat g rd os its mxd) {x:DPO} (hx:x∈its) (hc:x.isC=true):x.o.op.fixed=true:=by
  obtain ⟨_,h1,_⟩:=h.item x hx
  unfold PG.itemOK at h1
  simp only [hc,Bool.and_eq_true] at h1
  exact h1.2
theorem Stat.op (h:Stat g rd os its mxd) {x:DPO} (hx:x∈its):∃ o,os[x.ix]?=some o∧g.matchPO rd os x.o o=true:=by
  obtain ⟨_,h1,_⟩:=h.item x hx
  unfold PG.itemOK at h1
  simp only [Bool.and_eq_true] at h1
  have h2:=h1.1.1
  split at h2
  · rename_i o ho;exact ⟨o,ho,h2⟩
  · cases h2
theorem Stat.anc (h:Stat g rd os its mxd):∀ x∈its,x.anc.all (edgeOK os its x)=true:=by
  intro x hx
  obtain ⟨_,h1,_⟩:=h.item x hx
  unfold PG.itemOK at h1
  simp only [Bool.and_eq_true] at h1
  exact h1.1.2
theorem pair_yR {x y:DPO} (h:pairOK x y=true) (hy:y.isC=false) {d:Nat} (hd:y.o.dst=some d):d ∉ x.o.uses∧x.o.dst≠some d:=by
  unfold pairOK at h
  simp only [hy,hd,Bool.and_eq_true,Bool.not_eq_true',decide_eq_false_iff_not] at h
  exact ⟨by simpa using h.2.1,h.2.2⟩
theorem pair_xR {x y:DPO} (h:pairOK x y=true) (hx:x.isC=false) {d:Nat} (hd:x.o.dst=some d):(d∈y.o.uses→x.ix∈y.anc)∧y.o.dst≠some d:=by
  unfold pairOK at h
  simp only [hx,hd,Bool.and_eq_true,Bool.not_eq_true',decide_eq_false_iff_not,Bool.or_eq_true] at h
  obtain ⟨⟨_,⟨h1,h2⟩,_⟩,_⟩:=h
  refine ⟨fun hm=>?_,h2⟩
  rcases h1 with h1|h1
  · exact absurd hm (by simpa using h1)
  · simpa using h1
theorem pair_xC {x y:DPO} (h:pairOK x y=true) (hx:x.isC=true):x.ix∈y.anc:=by
  unfold pairOK at h
  simp only [hx,Bool.and_eq_true] at h
  simpa using h.1.2
theorem pair_slots {x y:DPO} (h:pairOK x y=true) (hx:x.isC=false) (hy:y.isC=false) {s:Nat} (hs:x.o.op.slot=some s):y.o.op.slot≠some s:=by
  unfold pairOK at h
  simp only [hx,hy,Bool.and_eq_true] at h
  obtain ⟨⟨_,_,h1⟩,_⟩:=h
  intro h2
  simp [hs,h2] at h1
theorem pair_chk {x y:DPO} (h:pairOK x y=true) (hx:x.isC=false) (hy:y.isC=true):(x.ix∈y.anc∨(x.o.op.bare=true∧x.o.op.slot=none)∨x.ix∈y.chk)∧∀ d,y.o.dst=some d→d∈x.o.uses→x.ix∈y.anc:=by
  unfold pairOK at h
  simp only [hx,hy,Bool.and_eq_true] at h
  obtain ⟨⟨_,_,h1,h2⟩,_⟩:=h
  refine ⟨?_,fun d hd hm=>?_⟩
  · simp only [Bool.or_eq_true,Bool.and_eq_true] at h1
    rcases h1 with (h1|⟨h1,h3⟩)|h1
    · exact .inl (by simpa using h1)
    · exact .inr (.inl ⟨h1,by simpa using h3⟩)
    · exact .inr (.inr (by simpa using h1))
  · rw [hd] at h2
    simp only [Bool.or_eq_true,Bool.not_eq_true'] at h2
    rcases h2 with h2|h2
    · exact absurd hm (by simpa using h2)
    · simpa using h2
theorem fresh_spec {F:Fr} {o:PPO} {s:Nat} (h:freshSlot F o=true) (hs:o.op.slot=some s):(match hget F.heap (F.nm s) with|none=>True|some (.dead _)=>True|_=>False):=by
  unfold freshSlot at h
  rw [hs] at h
  simp only at h
  split at h<;>simp_all
theorem stepR {E:Env} {F F1:Fr} {o:PPO} {d:Nat} (hd:o.dst=some d) (hR:(o.op.bare||o.op.reads||o.op.slot.isSome)=true) (hs:stepPO E callE yieldE o F=some F1) (hlen:d<F.tmps.length) (hu:d ∉ o.uses) (hfresh:freshSlot F o=true) :
    ∃ h1 v,F1=({ F with heap:=h1 }:Fr).put (some d) v∧HLe F.heap h1 ∧
      ((h1=F.heap∧(guardE F.tmps o.guard=some true→o.op.slot=none))∨∃ s ob,o.op.slot=some s∧guardE F.tmps o.guard=some true∧s<(F.heap.getD F.lvl []).length∧h1=hset F.heap (F.nm s) ob∧ob.gen=nextGen F.heap (F.nm s)) ∧
      ∀ (c0 c:Ctx),(∀ s,o.op.slot=some s→guardE F.tmps o.guard=some true→c.obj (F.nm s)=none∧c0.gen (F.nm s)<c.gen (F.nm s))→Stable E c0 c F1 o d:=by
  have hsame:∀ (h1:Heap) (v:PV),Same o.uses F.tmps (({ F with heap:=h1 }:Fr).put (some d) v).tmps:=by
    intro h1 v i hi
    rw [Ye]
    split
    · rename_i hx;exact absurd (hx.1 ▸ hi) hu
    · rfl
  have hgetd:∀ (h1:Heap) (v:PV),(({ F with heap:=h1 }:Fr).put (some d) v).tmps.getD d .junk=v:=fun h1 v=>by rw [Ye,if_pos ⟨rfl,hlen⟩]
  unfold stepPO at hs
  split at hs
  · cases hs
  · rename_i hg
    simp only [Option.some.injEq] at hs
    rw [hd] at hs
    refine ⟨F.heap,.tuple [],hs.symm,HLe.refl _,.inl ⟨rfl,fun hx=>by rw [hg] at hx;cases hx⟩,fun c0 c _=>?_⟩
    subst hs
    exact .off ((Z9 (hsame F.heap _)).trans hg) (hgetd F.heap _)
  · rename_i hg
    rw [hd] at hs
    cases hsl:o.op.slot with
    | none =>
      have hcase:∃ v,F1=F.put (some d) v∧∀ fr2 callE2 yieldE2,Same o.op.uses F.tmps fr2.tmps→HLe F.heap fr2.heap→stepOp E callE2 yieldE2 (some d) o.op fr2=some (fr2.put (some d) v):=by
        by_cases hb:o.op.bare=true
        · obtain ⟨v,h1,h2⟩:=bare_same hb hs;exact ⟨v,h1,fun fr2 a b h _=>h2 fr2 a b h⟩
        · have hr:o.op.reads=true:=by simpa [hsl,hb] using hR
          exact reads_same hr hs
      obtain ⟨v,h1,h2⟩:=hcase
      refine ⟨F.heap,v,h1,HLe.refl _,.inl ⟨rfl,fun _=>rfl⟩,fun c0 c _=>?_⟩
      subst h1
      refine .op ((Z9 (hsame F.heap _)).trans hg) hsl v callE yieldE ?_ (hgetd F.heap _)
      exact h2 _ callE yieldE (uses_op (hsame F.heap v)) (by rw [Yh];exact HLe.refl _)
    | some s =>
      rw [lay_slot' hsl] at hs
      unfold Fr.lay at hs
      split at hs
      case isFalse=>cases hs
      rename_i hlen'
      split at hs<;>simp only [Option.some.injEq,reduceCtorEq] at hs
      rename_i v ob hl
      have hgen:=(layE_ob hl).2
      refine ⟨_,v,hs.symm,HLe.hset (fresh_spec hfresh hsl),.inr ⟨s,ob,rfl,hg,hlen',rfl,hgen⟩,fun c0 c hp=>?_⟩
      subst hs
      obtain ⟨p1,p2⟩:=hp s rfl hg
      refine .lay ((Z9 (hsame _ _)).trans hg) s ob v hsl ?_ ?_ (hgetd _ _) p1 p2
      · show hget (hset F.heap (F.nm s) ob) (F.nm s)=some ob
        exact Z8 hlen'
      · rw [lay_same hsl (uses_op (hsame _ v)),hgen]
        exact hl
where
  lay_slot' {E:Env} {fr:Fr} {s:Nat} {dst:Option Nat} {p:POp} (hp:p.slot=some s):stepOp E callE yieldE dst p fr=fr.lay dst s (layE (evX E fr.tmps) (fr.nm s) p):=by
    cases p<;>simp [POp.slot] at hp<;>subst hp<;>rfl
end Go.VI
