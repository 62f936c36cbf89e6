/- Package ref: askFault. No condition. -/
import Derived.Test.YtcpbgiikfabaaaaMsg8
import Derived.Test.YtcpbgiikfabaaaaCutR
import Derived.Deep.DeepCutAuto
import Derived.BigCall
namespace Go.Proofs.Ytcpbgiikfabaaaa
open Go.RowKit
set_option linter.unusedSimpArgs false
set_option linter.unusedVariables false

def mg.hs (l : List UInt8) (x : Int) : Bool := l.contains (UInt8.ofNat x.toNat)
theorem ref_has_int (l : List UInt8) (x : Int) (w : World) (hl : l.length ≤ 100) (h0 : 0 ≤ x) (h1 : x < 256) : Calls Try.prog 40 #[.string (strOf l), .int .u8 x] w fun e w' => e = .returned (.bool (mg.hs l x)) ∧ w' = w := by
  have := ref_has l (UInt8.ofNat x.toNat) w hl
  rw [show ((UInt8.ofNat x.toNat).toNat : Int) = x by rw [UInt8.toNat_ofNat']; omega] at this
  exact this
def mg.four (n : Int) : Bool := decide (0 ≤ n ∧ n ≤ 4294967295)
theorem mg.bne0 (x : Int) : (x != 0) = !decide (x = 0) := by by_cases h : x = 0 <;> simp [h]
theorem mg.bne_len (l : List UInt8) : ((l.length : Int) != 0) = !l.isEmpty := by cases l <;> simp [bne]; omega
theorem mg.toList_len (p : ByteArray) : p.toList.length = p.size := by rw [ByteArray.toList_eq]; rfl
theorem mg.dec_nil (l : List UInt8) : decide (l = []) = l.isEmpty := by cases l <;> simp
def mg.flt (a b c : Bool) : Int := if a then 4 else if b then 2 else if c then 1 else 0

def mg.C4_1 (v0 v1 v2 v3 v4 v5 v6 v7 v8 v9 v10 v11 v12 v13 v14 v15 v25 v26 v27 v28 v29 v30 v31 v32 v33 v34 v35 v36 v37 v38 v39 v40 v41 v42 v43 v44 v45 v46 v47 v48 v49 v50 v51 v52 v53 v54 v55 v56 v57 v58 v59 v60 v61 v62 v63 v64 v65 v66 v67 v68 v69 v70 v71 v72 v73 v74 v75 v76 v77 v78 v79 v80 v81 v82 v83 v84 v85 v86 v87 v88 v89 v90 v91 v92 v93 v94 v95 v96 v97 v98 v99 v100 v101 v102 v103 v104 v105 v106 v107 v108 v109 v110 v111 v112 v113 v114 v115 v116 v117 v118 v119 v120 v121 v122 v123 v124 v125 v126 v127 v128 v129 v130 v131 v132 v133 v134 v135 v136 v137 v138 v139 : Value) (e : Bool) (a : Act) : Prop := ∃ (x16 x17 x18 x19 x20 x21 x22 x23 : Value) (b : Bool), b = e ∧ a = ⟨#[v0, v1, v2, v3, v4, v5, v6, v7, v8, v9, v10, v11, v12, v13, v14, v15, x16, x17, x18, x19, x20, x21, x22, x23, .bool b, v25, v26, v27, v28, v29, v30, v31, v32, v33, v34, v35, v36, v37, v38, v39, v40, v41, v42, v43, v44, v45, v46, v47, v48, v49, v50, v51, v52, v53, v54, v55, v56, v57, v58, v59, v60, v61, v62, v63, v64, v65, v66, v67, v68, v69, v70, v71, v72, v73, v74, v75, v76, v77, v78, v79, v80, v81, v82, v83, v84, v85, v86, v87, v88, v89, v90, v91, v92, v93, v94, v95, v96, v97, v98, v99, v100, v101, v102, v103, v104, v105, v106, v107, v108, v109, v110, v111, v112, v113, v114, v115, v116, v117, v118, v119, v120, v121, v122, v123, v124, v125, v126, v127, v128, v129, v130, v131, v132, v133, v134, v135, v136, v137, v138, v139], []⟩

def mg.C4_2 (v0 v1 v2 v3 v4 v5 v6 v7 v8 v9 v10 v11 v12 v13 v14 v15 v35 v36 v37 v38 v39 v40 v41 v42 v43 v44 v45 v46 v47 v48 v49 v50 v51 v52 v53 v54 v55 v56 v57 v58 v59 v60 v61 v62 v63 v64 v65 v66 v67 v68 v69 v70 v71 v72 v73 v74 v75 v76 v77 v78 v79 v80 v81 v82 v83 v84 v85 v86 v87 v88 v89 v90 v91 v92 v93 v94 v95 v96 v97 v98 v99 v100 v101 v102 v103 v104 v105 v106 v107 v108 v109 v110 v111 v112 v113 v114 v115 v116 v117 v118 v119 v120 v121 v122 v123 v124 v125 v126 v127 v128 v129 v130 v131 v132 v133 v134 v135 v136 v137 v138 v139 : Value) (e : Bool) (a : Act) : Prop := ∃ (x16 x17 x18 x19 x20 x21 x22 x23 x24 x25 x26 x27 x28 x29 x30 x31 x32 x33 : Value) (b : Bool), b = e ∧ a = ⟨#[v0, v1, v2, v3, v4, v5, v6, v7, v8, v9, v10, v11, v12, v13, v14, v15, x16, x17, x18, x19, x20, x21, x22, x23, x24, x25, x26, x27, x28, x29, x30, x31, x32, x33, .bool b, v35, v36, v37, v38, v39, v40, v41, v42, v43, v44, v45, v46, v47, v48, v49, v50, v51, v52, v53, v54, v55, v56, v57, v58, v59, v60, v61, v62, v63, v64, v65, v66, v67, v68, v69, v70, v71, v72, v73, v74, v75, v76, v77, v78, v79, v80, v81, v82, v83, v84, v85, v86, v87, v88, v89, v90, v91, v92, v93, v94, v95, v96, v97, v98, v99, v100, v101, v102, v103, v104, v105, v106, v107, v108, v109, v110, v111, v112, v113, v114, v115, v116, v117, v118, v119, v120, v121, v122, v123, v124, v125, v126, v127, v128, v129, v130, v131, v132, v133, v134, v135, v136, v137, v138, v139], []⟩

def mg.C4_3 (v0 v1 v2 v3 v4 v5 v6 v7 v8 v9 v10 v11 v12 v13 v14 v15 v45 v46 v47 v48 v49 v50 v51 v52 v53 v54 v55 v56 v57 v58 v59 v60 v61 v62 v63 v64 v65 v66 v67 v68 v69 v70 v71 v72 v73 v74 v75 v76 v77 v78 v79 v80 v81 v82 v83 v84 v85 v86 v87 v88 v89 v90 v91 v92 v93 v94 v95 v96 v97 v98 v99 v100 v101 v102 v103 v104 v105 v106 v107 v108 v109 v110 v111 v112 v113 v114 v115 v116 v117 v118 v119 v120 v121 v122 v123 v124 v125 v126 v127 v128 v129 v130 v131 v132 v133 v134 v135 v136 v137 v138 v139 : Value) (e : Bool) (a : Act) : Prop := ∃ (x16 x17 x18 x19 x20 x21 x22 x23 x24 x25 x26 x27 x28 x29 x30 x31 x32 x33 x34 x35 x36 x37 x38 x39 x40 x41 x42 x43 : Value) (b : Bool), b = e ∧ a = ⟨#[v0, v1, v2, v3, v4, v5, v6, v7, v8, v9, v10, v11, v12, v13, v14, v15, x16, x17, x18, x19, x20, x21, x22, x23, x24, x25, x26, x27, x28, x29, x30, x31, x32, x33, x34, x35, x36, x37, x38, x39, x40, x41, x42, x43, .bool b, v45, v46, v47, v48, v49, v50, v51, v52, v53, v54, v55, v56, v57, v58, v59, v60, v61, v62, v63, v64, v65, v66, v67, v68, v69, v70, v71, v72, v73, v74, v75, v76, v77, v78, v79, v80, v81, v82, v83, v84, v85, v86, v87, v88, v89, v90, v91, v92, v93, v94, v95, v96, v97, v98, v99, v100, v101, v102, v103, v104, v105, v106, v107, v108, v109, v110, v111, v112, v113, v114, v115, v116, v117, v118, v119, v120, v121, v122, v123, v124, v125, v126, v127, v128, v129, v130, v131, v132, v133, v134, v135, v136, v137, v138, v139], []⟩

def mg.C4_4 (v0 v1 v2 v3 v4 v5 v6 v7 v8 v9 v10 v11 v12 v13 v14 v15 v55 v56 v57 v58 v59 v60 v61 v62 v63 v64 v65 v66 v67 v68 v69 v70 v71 v72 v73 v74 v75 v76 v77 v78 v79 v80 v81 v82 v83 v84 v85 v86 v87 v88 v89 v90 v91 v92 v93 v94 v95 v96 v97 v98 v99 v100 v101 v102 v103 v104 v105 v106 v107 v108 v109 v110 v111 v112 v113 v114 v115 v116 v117 v118 v119 v120 v121 v122 v123 v124 v125 v126 v127 v128 v129 v130 v131 v132 v133 v134 v135 v136 v137 v138 v139 : Value) (e : Bool) (a : Act) : Prop := ∃ (x16 x17 x18 x19 x20 x21 x22 x23 x24 x25 x26 x27 x28 x29 x30 x31 x32 x33 x34 x35 x36 x37 x38 x39 x40 x41 x42 x43 x44 x45 x46 x47 x48 x49 x50 x51 x52 x53 : Value) (b : Bool), b = e ∧ a = ⟨#[v0, v1, v2, v3, v4, v5, v6, v7, v8, v9, v10, v11, v12, v13, v14, v15, x16, x17, x18, x19, x20, x21, x22, x23, x24, x25, x26, x27, x28, x29, x30, x31, x32, x33, x34, x35, x36, x37, x38, x39, x40, x41, x42, x43, x44, x45, x46, x47, x48, x49, x50, x51, x52, x53, .bool b, v55, v56, v57, v58, v59, v60, v61, v62, v63, v64, v65, v66, v67, v68, v69, v70, v71, v72, v73, v74, v75, v76, v77, v78, v79, v80, v81, v82, v83, v84, v85, v86, v87, v88, v89, v90, v91, v92, v93, v94, v95, v96, v97, v98, v99, v100, v101, v102, v103, v104, v105, v106, v107, v108, v109, v110, v111, v112, v113, v114, v115, v116, v117, v118, v119, v120, v121, v122, v123, v124, v125, v126, v127, v128, v129, v130, v131, v132, v133, v134, v135, v136, v137, v138, v139], []⟩

def mg.C4_5 (v0 v1 v2 v3 v4 v5 v6 v7 v8 v9 v10 v11 v12 v13 v14 v15 v65 v66 v67 v68 v69 v70 v71 v72 v73 v74 v75 v76 v77 v78 v79 v80 v81 v82 v83 v84 v85 v86 v87 v88 v89 v90 v91 v92 v93 v94 v95 v96 v97 v98 v99 v100 v101 v102 v103 v104 v105 v106 v107 v108 v109 v110 v111 v112 v113 v114 v115 v116 v117 v118 v119 v120 v121 v122 v123 v124 v125 v126 v127 v128 v129 v130 v131 v132 v133 v134 v135 v136 v137 v138 v139 : Value) (e : Bool) (a : Act) : Prop := ∃ (x16 x17 x18 x19 x20 x21 x22 x23 x24 x25 x26 x27 x28 x29 x30 x31 x32 x33 x34 x35 x36 x37 x38 x39 x40 x41 x42 x43 x44 x45 x46 x47 x48 x49 x50 x51 x52 x53 x54 x55 x56 x57 x58 x59 x60 x61 x62 x63 : Value) (b : Bool), b = e ∧ a = ⟨#[v0, v1, v2, v3, v4, v5, v6, v7, v8, v9, v10, v11, v12, v13, v14, v15, x16, x17, x18, x19, x20, x21, x22, x23, x24, x25, x26, x27, x28, x29, x30, x31, x32, x33, x34, x35, x36, x37, x38, x39, x40, x41, x42, x43, x44, x45, x46, x47, x48, x49, x50, x51, x52, x53, x54, x55, x56, x57, x58, x59, x60, x61, x62, x63, .bool b, v65, v66, v67, v68, v69, v70, v71, v72, v73, v74, v75, v76, v77, v78, v79, v80, v81, v82, v83, v84, v85, v86, v87, v88, v89, v90, v91, v92, v93, v94, v95, v96, v97, v98, v99, v100, v101, v102, v103, v104, v105, v106, v107, v108, v109, v110, v111, v112, v113, v114, v115, v116, v117, v118, v119, v120, v121, v122, v123, v124, v125, v126, v127, v128, v129, v130, v131, v132, v133, v134, v135, v136, v137, v138, v139], []⟩

def mg.C4_6 (v0 v1 v2 v3 v4 v5 v6 v7 v8 v9 v10 v11 v12 v13 v14 v15 v75 v76 v77 v78 v79 v80 v81 v82 v83 v84 v85 v86 v87 v88 v89 v90 v91 v92 v93 v94 v95 v96 v97 v98 v99 v100 v101 v102 v103 v104 v105 v106 v107 v108 v109 v110 v111 v112 v113 v114 v115 v116 v117 v118 v119 v120 v121 v122 v123 v124 v125 v126 v127 v128 v129 v130 v131 v132 v133 v134 v135 v136 v137 v138 v139 : Value) (e : Bool) (a : Act) : Prop := ∃ (x16 x17 x18 x19 x20 x21 x22 x23 x24 x25 x26 x27 x28 x29 x30 x31 x32 x33 x34 x35 x36 x37 x38 x39 x40 x41 x42 x43 x44 x45 x46 x47 x48 x49 x50 x51 x52 x53 x54 x55 x56 x57 x58 x59 x60 x61 x62 x63 x64 x65 x66 x67 x68 x69 x70 x71 x72 x73 : Value) (b : Bool), b = e ∧ a = ⟨#[v0, v1, v2, v3, v4, v5, v6, v7, v8, v9, v10, v11, v12, v13, v14, v15, x16, x17, x18, x19, x20, x21, x22, x23, x24, x25, x26, x27, x28, x29, x30, x31, x32, x33, x34, x35, x36, x37, x38, x39, x40, x41, x42, x43, x44, x45, x46, x47, x48, x49, x50, x51, x52, x53, x54, x55, x56, x57, x58, x59, x60, x61, x62, x63, x64, x65, x66, x67, x68, x69, x70, x71, x72, x73, .bool b, v75, v76, v77, v78, v79, v80, v81, v82, v83, v84, v85, v86, v87, v88, v89, v90, v91, v92, v93, v94, v95, v96, v97, v98, v99, v100, v101, v102, v103, v104, v105, v106, v107, v108, v109, v110, v111, v112, v113, v114, v115, v116, v117, v118, v119, v120, v121, v122, v123, v124, v125, v126, v127, v128, v129, v130, v131, v132, v133, v134, v135, v136, v137, v138, v139], []⟩

def mg.C7_1 (v0 v1 v2 v3 v4 v5 v6 v7 v8 v9 v10 v11 v12 v13 v14 v15 v16 v17 v18 v19 v20 v21 v22 v23 v24 v25 v26 v27 v28 v29 v30 v31 v32 v33 v34 v35 v36 v37 v38 v39 v40 v41 v42 v43 v44 v45 v46 v47 v48 v49 v50 v51 v52 v53 v54 v55 v56 v57 v58 v59 v60 v61 v62 v63 v64 v65 v66 v67 v68 v69 v70 v71 v72 v73 v74 v75 v76 v77 v78 v79 v80 v81 v82 v83 v84 v91 v92 v93 v94 v95 v96 v97 v98 v99 v100 v101 v102 v103 v104 v105 v106 v107 v108 v109 v110 v111 v112 v113 v114 v115 v116 v117 v118 v119 v120 v121 v122 v123 v124 v125 v126 v127 v128 v129 v130 v131 v132 v133 v134 v135 v136 v137 v138 v139 : Value) (e : Bool) (a : Act) : Prop := ∃ (x85 x86 x87 x88 x89 : Value) (b : Bool), b = e ∧ a = ⟨#[v0, v1, v2, v3, v4, v5, v6, v7, v8, v9, v10, v11, v12, v13, v14, v15, v16, v17, v18, v19, v20, v21, v22, v23, v24, v25, v26, v27, v28, v29, v30, v31, v32, v33, v34, v35, v36, v37, v38, v39, v40, v41, v42, v43, v44, v45, v46, v47, v48, v49, v50, v51, v52, v53, v54, v55, v56, v57, v58, v59, v60, v61, v62, v63, v64, v65, v66, v67, v68, v69, v70, v71, v72, v73, v74, v75, v76, v77, v78, v79, v80, v81, v82, v83, v84, x85, x86, x87, x88, x89, .bool b, v91, v92, v93, v94, v95, v96, v97, v98, v99, v100, v101, v102, v103, v104, v105, v106, v107, v108, v109, v110, v111, v112, v113, v114, v115, v116, v117, v118, v119, v120, v121, v122, v123, v124, v125, v126, v127, v128, v129, v130, v131, v132, v133, v134, v135, v136, v137, v138, v139], []⟩

def mg.C7_2 (v0 v1 v2 v3 v4 v5 v6 v7 v8 v9 v10 v11 v12 v13 v14 v15 v16 v17 v18 v19 v20 v21 v22 v23 v24 v25 v26 v27 v28 v29 v30 v31 v32 v33 v34 v35 v36 v37 v38 v39 v40 v41 v42 v43 v44 v45 v46 v47 v48 v49 v50 v51 v52 v53 v54 v55 v56 v57 v58 v59 v60 v61 v62 v63 v64 v65 v66 v67 v68 v69 v70 v71 v72 v73 v74 v75 v76 v77 v78 v79 v80 v81 v82 v83 v84 v98 v99 v100 v101 v102 v103 v104 v105 v106 v107 v108 v109 v110 v111 v112 v113 v114 v115 v116 v117 v118 v119 v120 v121 v122 v123 v124 v125 v126 v127 v128 v129 v130 v131 v132 v133 v134 v135 v136 v137 v138 v139 : Value) (e : Bool) (a : Act) : Prop := ∃ (x85 x86 x87 x88 x89 x90 x91 x92 x93 x94 x95 x96 : Value) (b : Bool), b = e ∧ a = ⟨#[v0, v1, v2, v3, v4, v5, v6, v7, v8, v9, v10, v11, v12, v13, v14, v15, v16, v17, v18, v19, v20, v21, v22, v23, v24, v25, v26, v27, v28, v29, v30, v31, v32, v33, v34, v35, v36, v37, v38, v39, v40, v41, v42, v43, v44, v45, v46, v47, v48, v49, v50, v51, v52, v53, v54, v55, v56, v57, v58, v59, v60, v61, v62, v63, v64, v65, v66, v67, v68, v69, v70, v71, v72, v73, v74, v75, v76, v77, v78, v79, v80, v81, v82, v83, v84, x85, x86, x87, x88, x89, x90, x91, x92, x93, x94, x95, x96, .bool b, v98, v99, v100, v101, v102, v103, v104, v105, v106, v107, v108, v109, v110, v111, v112, v113, v114, v115, v116, v117, v118, v119, v120, v121, v122, v123, v124, v125, v126, v127, v128, v129, v130, v131, v132, v133, v134, v135, v136, v137, v138, v139], []⟩

def mg.C7_3 (v0 v1 v2 v3 v4 v5 v6 v7 v8 v9 v10 v11 v12 v13 v14 v15 v16 v17 v18 v19 v20 v21 v22 v23 v24 v25 v26 v27 v28 v29 v30 v31 v32 v33 v34 v35 v36 v37 v38 v39 v40 v41 v42 v43 v44 v45 v46 v47 v48 v49 v50 v51 v52 v53 v54 v55 v56 v57 v58 v59 v60 v61 v62 v63 v64 v65 v66 v67 v68 v69 v70 v71 v72 v73 v74 v75 v76 v77 v78 v79 v80 v81 v82 v83 v84 v105 v106 v107 v108 v109 v110 v111 v112 v113 v114 v115 v116 v117 v118 v119 v120 v121 v122 v123 v124 v125 v126 v127 v128 v129 v130 v131 v132 v133 v134 v135 v136 v137 v138 v139 : Value) (e : Bool) (a : Act) : Prop := ∃ (x85 x86 x87 x88 x89 x90 x91 x92 x93 x94 x95 x96 x97 x98 x99 x100 x101 x102 x103 : Value) (b : Bool), b = e ∧ a = ⟨#[v0, v1, v2, v3, v4, v5, v6, v7, v8, v9, v10, v11, v12, v13, v14, v15, v16, v17, v18, v19, v20, v21, v22, v23, v24, v25, v26, v27, v28, v29, v30, v31, v32, v33, v34, v35, v36, v37, v38, v39, v40, v41, v42, v43, v44, v45, v46, v47, v48, v49, v50, v51, v52, v53, v54, v55, v56, v57, v58, v59, v60, v61, v62, v63, v64, v65, v66, v67, v68, v69, v70, v71, v72, v73, v74, v75, v76, v77, v78, v79, v80, v81, v82, v83, v84, x85, x86, x87, x88, x89, x90, x91, x92, x93, x94, x95, x96, x97, x98, x99, x100, x101, x102, x103, .bool b, v105, v106, v107, v108, v109, v110, v111, v112, v113, v114, v115, v116, v117, v118, v119, v120, v121, v122, v123, v124, v125, v126, v127, v128, v129, v130, v131, v132, v133, v134, v135, v136, v137, v138, v139], []⟩

def mg.C7_4 (v0 v1 v2 v3 v4 v5 v6 v7 v8 v9 v10 v11 v12 v13 v14 v15 v16 v17 v18 v19 v20 v21 v22 v23 v24 v25 v26 v27 v28 v29 v30 v31 v32 v33 v34 v35 v36 v37 v38 v39 v40 v41 v42 v43 v44 v45 v46 v47 v48 v49 v50 v51 v52 v53 v54 v55 v56 v57 v58 v59 v60 v61 v62 v63 v64 v65 v66 v67 v68 v69 v70 v71 v72 v73 v74 v75 v76 v77 v78 v79 v80 v81 v82 v83 v84 v110 v111 v112 v113 v114 v115 v116 v117 v118 v119 v120 v121 v122 v123 v124 v125 v126 v127 v128 v129 v130 v131 v132 v133 v134 v135 v136 v137 v138 v139 : Value) (e : Bool) (a : Act) : Prop := ∃ (x85 x86 x87 x88 x89 x90 x91 x92 x93 x94 x95 x96 x97 x98 x99 x100 x101 x102 x103 x104 x105 x106 x107 x108 : Value) (b : Bool), b = e ∧ a = ⟨#[v0, v1, v2, v3, v4, v5, v6, v7, v8, v9, v10, v11, v12, v13, v14, v15, v16, v17, v18, v19, v20, v21, v22, v23, v24, v25, v26, v27, v28, v29, v30, v31, v32, v33, v34, v35, v36, v37, v38, v39, v40, v41, v42, v43, v44, v45, v46, v47, v48, v49, v50, v51, v52, v53, v54, v55, v56, v57, v58, v59, v60, v61, v62, v63, v64, v65, v66, v67, v68, v69, v70, v71, v72, v73, v74, v75, v76, v77, v78, v79, v80, v81, v82, v83, v84, x85, x86, x87, x88, x89, x90, x91, x92, x93, x94, x95, x96, x97, x98, x99, x100, x101, x102, x103, x104, x105, x106, x107, x108, .bool b, v110, v111, v112, v113, v114, v115, v116, v117, v118, v119, v120, v121, v122, v123, v124, v125, v126, v127, v128, v129, v130, v131, v132, v133, v134, v135, v136, v137, v138, v139], []⟩

def mg.C7_5 (v0 v1 v2 v3 v4 v5 v6 v7 v8 v9 v10 v11 v12 v13 v14 v15 v16 v17 v18 v19 v20 v21 v22 v23 v24 v25 v26 v27 v28 v29 v30 v31 v32 v33 v34 v35 v36 v37 v38 v39 v40 v41 v42 v43 v44 v45 v46 v47 v48 v49 v50 v51 v52 v53 v54 v55 v56 v57 v58 v59 v60 v61 v62 v63 v64 v65 v66 v67 v68 v69 v70 v71 v72 v73 v74 v75 v76 v77 v78 v79 v80 v81 v82 v83 v84 v115 v116 v117 v118 v119 v120 v121 v122 v123 v124 v125 v126 v127 v128 v129 v130 v131 v132 v133 v134 v135 v136 v137 v138 v139 : Value) (e : Bool) (a : Act) : Prop := ∃ (x85 x86 x87 x88 x89 x90 x91 x92 x93 x94 x95 x96 x97 x98 x99 x100 x101 x102 x103 x104 x105 x106 x107 x108 x109 x110 x111 x112 x113 : Value) (b : Bool), b = e ∧ a = ⟨#[v0, v1, v2, v3, v4, v5, v6, v7, v8, v9, v10, v11, v12, v13, v14, v15, v16, v17, v18, v19, v20, v21, v22, v23, v24, v25, v26, v27, v28, v29, v30, v31, v32, v33, v34, v35, v36, v37, v38, v39, v40, v41, v42, v43, v44, v45, v46, v47, v48, v49, v50, v51, v52, v53, v54, v55, v56, v57, v58, v59, v60, v61, v62, v63, v64, v65, v66, v67, v68, v69, v70, v71, v72, v73, v74, v75, v76, v77, v78, v79, v80, v81, v82, v83, v84, x85, x86, x87, x88, x89, x90, x91, x92, x93, x94, x95, x96, x97, x98, x99, x100, x101, x102, x103, x104, x105, x106, x107, x108, x109, x110, x111, x112, x113, .bool b, v115, v116, v117, v118, v119, v120, v121, v122, v123, v124, v125, v126, v127, v128, v129, v130, v131, v132, v133, v134, v135, v136, v137, v138, v139], []⟩

def mg.C7_6 (v0 v1 v2 v3 v4 v5 v6 v7 v8 v9 v10 v11 v12 v13 v14 v15 v16 v17 v18 v19 v20 v21 v22 v23 v24 v25 v26 v27 v28 v29 v30 v31 v32 v33 v34 v35 v36 v37 v38 v39 v40 v41 v42 v43 v44 v45 v46 v47 v48 v49 v50 v51 v52 v53 v54 v55 v56 v57 v58 v59 v60 v61 v62 v63 v64 v65 v66 v67 v68 v69 v70 v71 v72 v73 v74 v75 v76 v77 v78 v79 v80 v81 v82 v83 v84 v120 v121 v122 v123 v124 v125 v126 v127 v128 v129 v130 v131 v132 v133 v134 v135 v136 v137 v138 v139 : Value) (e : Bool) (a : Act) : Prop := ∃ (x85 x86 x87 x88 x89 x90 x91 x92 x93 x94 x95 x96 x97 x98 x99 x100 x101 x102 x103 x104 x105 x106 x107 x108 x109 x110 x111 x112 x113 x114 x115 x116 x117 x118 : Value) (b : Bool), b = e ∧ a = ⟨#[v0, v1, v2, v3, v4, v5, v6, v7, v8, v9, v10, v11, v12, v13, v14, v15, v16, v17, v18, v19, v20, v21, v22, v23, v24, v25, v26, v27, v28, v29, v30, v31, v32, v33, v34, v35, v36, v37, v38, v39, v40, v41, v42, v43, v44, v45, v46, v47, v48, v49, v50, v51, v52, v53, v54, v55, v56, v57, v58, v59, v60, v61, v62, v63, v64, v65, v66, v67, v68, v69, v70, v71, v72, v73, v74, v75, v76, v77, v78, v79, v80, v81, v82, v83, v84, x85, x86, x87, x88, x89, x90, x91, x92, x93, x94, x95, x96, x97, x98, x99, x100, x101, x102, x103, x104, x105, x106, x107, x108, x109, x110, x111, x112, x113, x114, x115, x116, x117, x118, .bool b, v120, v121, v122, v123, v124, v125, v126, v127, v128, v129, v130, v131, v132, v133, v134, v135, v136, v137, v138, v139], []⟩

def mg.C9_1 (v0 v1 v2 v3 v4 v5 v6 v7 v8 v9 v10 v11 v12 v13 v14 v15 v16 v17 v18 v19 v20 v21 v22 v23 v24 v25 v26 v27 v28 v29 v30 v31 v32 v33 v34 v35 v36 v37 v38 v39 v40 v41 v42 v43 v44 v45 v46 v47 v48 v49 v50 v51 v52 v53 v54 v55 v56 v57 v58 v59 v60 v61 v62 v63 v64 v65 v66 v67 v68 v69 v70 v71 v72 v73 v74 v75 v76 v77 v78 v79 v80 v81 v82 v83 v84 v85 v86 v87 v88 v89 v90 v91 v92 v93 v94 v95 v96 v97 v98 v99 v100 v101 v102 v103 v104 v105 v106 v107 v108 v109 v110 v111 v112 v113 v114 v115 v116 v117 v118 v119 v120 v121 v122 v123 v129 v130 v131 v132 v133 v134 v135 v136 v137 v138 v139 : Value) (e : Bool) (a : Act) : Prop := ∃ (x124 x125 x126 x127 : Value) (b : Bool), b = e ∧ a = ⟨#[v0, v1, v2, v3, v4, v5, v6, v7, v8, v9, v10, v11, v12, v13, v14, v15, v16, v17, v18, v19, v20, v21, v22, v23, v24, v25, v26, v27, v28, v29, v30, v31, v32, v33, v34, v35, v36, v37, v38, v39, v40, v41, v42, v43, v44, v45, v46, v47, v48, v49, v50, v51, v52, v53, v54, v55, v56, v57, v58, v59, v60, v61, v62, v63, v64, v65, v66, v67, v68, v69, v70, v71, v72, v73, v74, v75, v76, v77, v78, v79, v80, v81, v82, v83, v84, v85, v86, v87, v88, v89, v90, v91, v92, v93, v94, v95, v96, v97, v98, v99, v100, v101, v102, v103, v104, v105, v106, v107, v108, v109, v110, v111, v112, v113, v114, v115, v116, v117, v118, v119, v120, v121, v122, v123, x124, x125, x126, x127, .bool b, v129, v130, v131, v132, v133, v134, v135, v136, v137, v138, v139], []⟩

def mg.C9_2 (v0 v1 v2 v3 v4 v5 v6 v7 v8 v9 v10 v11 v12 v13 v14 v15 v16 v17 v18 v19 v20 v21 v22 v23 v24 v25 v26 v27 v28 v29 v30 v31 v32 v33 v34 v35 v36 v37 v38 v39 v40 v41 v42 v43 v44 v45 v46 v47 v48 v49 v50 v51 v52 v53 v54 v55 v56 v57 v58 v59 v60 v61 v62 v63 v64 v65 v66 v67 v68 v69 v70 v71 v72 v73 v74 v75 v76 v77 v78 v79 v80 v81 v82 v83 v84 v85 v86 v87 v88 v89 v90 v91 v92 v93 v94 v95 v96 v97 v98 v99 v100 v101 v102 v103 v104 v105 v106 v107 v108 v109 v110 v111 v112 v113 v114 v115 v116 v117 v118 v119 v120 v121 v122 v123 v135 v136 v137 v138 v139 : Value) (e : Bool) (a : Act) : Prop := ∃ (x124 x125 x126 x127 x128 x129 x130 x131 x132 x133 : Value) (b : Bool), b = e ∧ a = ⟨#[v0, v1, v2, v3, v4, v5, v6, v7, v8, v9, v10, v11, v12, v13, v14, v15, v16, v17, v18, v19, v20, v21, v22, v23, v24, v25, v26, v27, v28, v29, v30, v31, v32, v33, v34, v35, v36, v37, v38, v39, v40, v41, v42, v43, v44, v45, v46, v47, v48, v49, v50, v51, v52, v53, v54, v55, v56, v57, v58, v59, v60, v61, v62, v63, v64, v65, v66, v67, v68, v69, v70, v71, v72, v73, v74, v75, v76, v77, v78, v79, v80, v81, v82, v83, v84, v85, v86, v87, v88, v89, v90, v91, v92, v93, v94, v95, v96, v97, v98, v99, v100, v101, v102, v103, v104, v105, v106, v107, v108, v109, v110, v111, v112, v113, v114, v115, v116, v117, v118, v119, v120, v121, v122, v123, x124, x125, x126, x127, x128, x129, x130, x131, x132, x133, .bool b, v135, v136, v137, v138, v139], []⟩


set_option maxRecDepth 100000 in
set_option maxHeartbeats 16000000 in
theorem ref_askFault_in (k m ho hn at_ cnt : Int) (p t : ByteArray) (d : List UInt8) (A : Option Addr) (c : Nat) (w : World) (hk : ¬ (k < 1 ∨ 10 < k)) (l : List UInt8) (hs : Int → Bool) (fm fn fa : Bool)
    (HNM : Hid (∀ w, Calls Try.prog 25 #[.int .i64 k] w fun e w' => e = .returned (.string (strOf l)) ∧ Below w.heap.size w w'))
    (HH : Hid (∀ x w, 0 ≤ x → x < 256 → Calls Try.prog 40 #[.string (strOf l), .int .u8 x] w fun e w' => e = .returned (.bool (hs x)) ∧ w' = w))
    (HFm : Hid (∀ w, Calls Try.prog 41 #[.int .i64 m] w fun e w' => e = .returned (.bool fm) ∧ w' = w))
    (HFn : Hid (∀ w, Calls Try.prog 41 #[.int .i64 hn] w fun e w' => e = .returned (.bool fn) ∧ w' = w))
    (HFa : Hid (∀ w, Calls Try.prog 41 #[.int .i64 at_] w fun e w' => e = .returned (.bool fa) ∧ w' = w))
    (e4_1 : Bool) (E4_1 : Hid (e4_1 = (!hs 112 && !p.toList.isEmpty))) (e4_2 : Bool) (E4_2 : Hid (e4_2 = (e4_1 || (!hs 116 && !t.toList.isEmpty)))) (e4_3 : Bool) (E4_3 : Hid (e4_3 = (e4_2 || (!hs 104 && !decide (ho = 0))))) (e4_4 : Bool) (E4_4 : Hid (e4_4 = (e4_3 || (!hs 110 && !decide (hn = 0))))) (e4_5 : Bool) (E4_5 : Hid (e4_5 = (e4_4 || (!hs 97 && !decide (at_ = 0))))) (e4_6 : Bool) (E4_6 : Hid (e4_6 = (e4_5 || (!hs 99 && !decide (cnt = 0))))) (e4_7 : Bool) (E4_7 : Hid (e4_7 = (e4_6 || (!hs 100 && !d.isEmpty))))
    (e7_1 : Bool) (E7_1 : Hid (e7_1 = (!fm))) (e7_2 : Bool) (E7_2 : Hid (e7_2 = (e7_1 || (!fn)))) (e7_3 : Bool) (E7_3 : Hid (e7_3 = (e7_2 || (!fa)))) (e7_4 : Bool) (E7_4 : Hid (e7_4 = (e7_3 || decide (ho < 0)))) (e7_5 : Bool) (E7_5 : Hid (e7_5 = (e7_4 || decide (255 < ho)))) (e7_6 : Bool) (E7_6 : Hid (e7_6 = (e7_5 || decide (cnt < 0)))) (e7_7 : Bool) (E7_7 : Hid (e7_7 = (e7_6 || decide (65535 < cnt))))
    (e9_1 : Bool) (E9_1 : Hid (e9_1 = decide (200 < p.toList.length))) (e9_2 : Bool) (E9_2 : Hid (e9_2 = (e9_1 || decide (200 < t.toList.length)))) (e9_3 : Bool) (E9_3 : Hid (e9_3 = (e9_2 || decide (100 < d.length)))) :
    Calls Try.prog 23 #[.agg #[.int .i64 k, .int .i64 m, .string p, .string t, .int .i64 ho, .int .i64 hn, .int .i64 at_, .int .i64 cnt, .slice A d.length c]] w fun e w' => e = .returned (.int .i64 (mg.flt e4_7 e7_7 e9_3)) ∧ Below w.heap.size w w' := by
  have HN := Lib.hid (mg.At.new w ⟨k, m, p, t, ho, hn, at_, cnt, d⟩ A c)
  have q1 : decide (k < 1) = false := decide_eq_false (by omega)
  have q2 : decide (k > 10) = false := decide_eq_false (by omega)
  clear hk
  go_enter Try.func23, Try.ntmps23
  go_upto_region 4 with (first
    | (go_at_call 25; refine (HNM.out _).mono ?_; rintro e w1 ⟨rfl, hb1⟩; have HB1 := Lib.hid hb1; have ha := HN.out.next hb1; clear hb1; have y0 := ha.cell 0; have y1 := ha.cell 1; have y2 := ha.cell 2; have y3 := ha.cell 3; have y4 := ha.cell 4; have y5 := ha.cell 5; have y6 := ha.cell 6; have y7 := ha.cell 7; have y8 := ha.cell 8; simp only [mg.vals, List.getElem?_cons_zero, List.getElem?_cons_succ] at y0 y1 y2 y3 y4 y5 y6 y7 y8; clear ha)
    | fail)
  go_cut [84] (fun s wx => s = .bool e4_7 ∧ w1 = wx)
  case first =>
    refine wp_region_lit ?_
    refine wpList_cut (R := fun a' w' => mg.C4_1 (.agg #[.int .i64 k, .int .i64 m, .string p, .string t, .int .i64 ho, .int .i64 hn, .int .i64 at_, .int .i64 cnt, .slice A d.length c]) (.pointer (some ⟨w.heap.size, 0, none⟩)) (.int .i64 0) (.string (strOf l)) undef (.pointer (some ⟨w.heap.size, 0, none⟩)) (.int .i64 k) (.bool false) (.bool false) (.pointer (some ⟨w.heap.size, 0, none⟩)) (.int .i64 k) (.bool false) (.bool false) (.pointer (some ⟨w.heap.size, 0, none⟩)) (.int .i64 k) (.string (strOf l)) undef undef undef undef undef undef undef undef undef undef undef undef undef undef undef undef undef undef undef undef undef undef undef undef undef undef undef undef undef undef undef undef undef undef undef undef undef undef undef undef undef undef undef undef undef undef undef undef undef undef undef undef undef undef undef undef undef undef undef undef undef undef undef undef undef undef undef undef undef undef undef undef undef undef undef undef undef undef undef undef undef undef undef undef undef undef undef undef undef undef undef undef undef undef undef undef undef undef undef undef undef undef undef undef undef undef undef undef undef undef undef undef undef undef undef e4_1 a' ∧ w1 = w') [_, _, _, _, _, _, _, _, _] _ _ _ ?_ ?_
    · have HE := E4_1
      clear E4_1 E4_2 E4_3 E4_4 E4_5 E4_6 E4_7
      cases hh : hs 112
      all_goals (go_wp2_with (first | (go_at_call 40; refine (HH.out _ _ (by decide) (by decide)).mono ?_; rintro e _ ⟨rfl, hw2⟩; subst hw2; rw [hh]) | fail); all_goals refine cutQ_normal ⟨⟨_, _, _, _, _, _, _, _, _, ?_, rfl⟩, rfl⟩; all_goals (rw [HE.out]; clear HE; (first | rfl | (simp [*]; done) | (rw [Bool.eq_iff_iff]; simp [*]; done) | (rw [Bool.eq_iff_iff]; simp [*]; omega) | (congr 1; rw [Bool.eq_iff_iff]; simp [*] <;> omega) | (simp only [mg.bne0, mg.bne_len, mg.toList_len]; first | rfl | (simp [*]; done) | (simp [*, mg.dec_nil]; done) | (simp [*] <;> omega)))))
    rintro _ _ ⟨⟨x16, x17, x18, x19, x20, x21, x22, x23, b, hb, rfl⟩, hw2⟩
    subst hw2
    subst hb
    refine wpList_cut (R := fun a' w' => mg.C4_2 (.agg #[.int .i64 k, .int .i64 m, .string p, .string t, .int .i64 ho, .int .i64 hn, .int .i64 at_, .int .i64 cnt, .slice A d.length c]) (.pointer (some ⟨w.heap.size, 0, none⟩)) (.int .i64 0) (.string (strOf l)) undef (.pointer (some ⟨w.heap.size, 0, none⟩)) (.int .i64 k) (.bool false) (.bool false) (.pointer (some ⟨w.heap.size, 0, none⟩)) (.int .i64 k) (.bool false) (.bool false) (.pointer (some ⟨w.heap.size, 0, none⟩)) (.int .i64 k) (.string (strOf l)) undef undef undef undef undef undef undef undef undef undef undef undef undef undef undef undef undef undef undef undef undef undef undef undef undef undef undef undef undef undef undef undef undef undef undef undef undef undef undef undef undef undef undef undef undef undef undef undef undef undef undef undef undef undef undef undef undef undef undef undef undef undef undef undef undef undef undef undef undef undef undef undef undef undef undef undef undef undef undef undef undef undef undef undef undef undef undef undef undef undef undef undef undef undef undef undef undef undef undef undef undef undef undef undef undef e4_2 a' ∧ w1 = w') [_, _, _, _, _, _, _, _, _, _] _ _ _ ?_ ?_
    · have HE := E4_2
      clear E4_1 E4_2 E4_3 E4_4 E4_5 E4_6 E4_7
      cases b
      case true =>
        go_wp2_with (first | (go_at_call 40; refine (HH.out _ _ (by decide) (by decide)).mono ?_; rintro e _ ⟨rfl, hw2⟩; subst hw2; rw [hh]) | fail)
        all_goals refine cutQ_normal ⟨⟨_, _, _, _, _, _, _, _, _, _, _, _, _, _, _, _, _, _, _, ?_, rfl⟩, rfl⟩
        all_goals (rw [HE.out]; clear HE; (first | rfl | (simp [*]; done) | (rw [Bool.eq_iff_iff]; simp [*]; done) | (rw [Bool.eq_iff_iff]; simp [*]; omega) | (congr 1; rw [Bool.eq_iff_iff]; simp [*] <;> omega) | (simp only [mg.bne0, mg.bne_len, mg.toList_len]; first | rfl | (simp [*]; done) | (simp [*, mg.dec_nil]; done) | (simp [*] <;> omega))))
      case false =>
        cases hh : hs 116
        all_goals (go_wp2_with (first | (go_at_call 40; refine (HH.out _ _ (by decide) (by decide)).mono ?_; rintro e _ ⟨rfl, hw2⟩; subst hw2; rw [hh]) | fail); all_goals refine cutQ_normal ⟨⟨_, _, _, _, _, _, _, _, _, _, _, _, _, _, _, _, _, _, _, ?_, rfl⟩, rfl⟩; all_goals (rw [HE.out]; clear HE; (first | rfl | (simp [*]; done) | (rw [Bool.eq_iff_iff]; simp [*]; done) | (rw [Bool.eq_iff_iff]; simp [*]; omega) | (congr 1; rw [Bool.eq_iff_iff]; simp [*] <;> omega) | (simp only [mg.bne0, mg.bne_len, mg.toList_len]; first | rfl | (simp [*]; done) | (simp [*, mg.dec_nil]; done) | (simp [*] <;> omega)))))
    rintro _ _ ⟨⟨x16, x17, x18, x19, x20, x21, x22, x23, x24, x25, x26, x27, x28, x29, x30, x31, x32, x33, b, hb, rfl⟩, hw2⟩
    subst hw2
    subst hb
    refine wpList_cut (R := fun a' w' => mg.C4_3 (.agg #[.int .i64 k, .int .i64 m, .string p, .string t, .int .i64 ho, .int .i64 hn, .int .i64 at_, .int .i64 cnt, .slice A d.length c]) (.pointer (some ⟨w.heap.size, 0, none⟩)) (.int .i64 0) (.string (strOf l)) undef (.pointer (some ⟨w.heap.size, 0, none⟩)) (.int .i64 k) (.bool false) (.bool false) (.pointer (some ⟨w.heap.size, 0, none⟩)) (.int .i64 k) (.bool false) (.bool false) (.pointer (some ⟨w.heap.size, 0, none⟩)) (.int .i64 k) (.string (strOf l)) undef undef undef undef undef undef undef undef undef undef undef undef undef undef undef undef undef undef undef undef undef undef undef undef undef undef undef undef undef undef undef undef undef undef undef undef undef undef undef undef undef undef undef undef undef undef undef undef undef undef undef undef undef undef undef undef undef undef undef undef undef undef undef undef undef undef undef undef undef undef undef undef undef undef undef undef undef undef undef undef undef undef undef undef undef undef undef undef undef undef undef undef undef undef undef e4_3 a' ∧ w1 = w') [_, _, _, _, _, _, _, _, _, _] _ _ _ ?_ ?_
    · have HE := E4_3
      clear E4_1 E4_2 E4_3 E4_4 E4_5 E4_6 E4_7
      cases b
      case true =>
        go_wp2_with (first | (go_at_call 40; refine (HH.out _ _ (by decide) (by decide)).mono ?_; rintro e _ ⟨rfl, hw2⟩; subst hw2; rw [hh]) | fail)
        all_goals refine cutQ_normal ⟨⟨_, _, _, _, _, _, _, _, _, _, _, _, _, _, _, _, _, _, _, _, _, _, _, _, _, _, _, _, _, ?_, rfl⟩, rfl⟩
        all_goals (rw [HE.out]; clear HE; (first | rfl | (simp [*]; done) | (rw [Bool.eq_iff_iff]; simp [*]; done) | (rw [Bool.eq_iff_iff]; simp [*]; omega) | (congr 1; rw [Bool.eq_iff_iff]; simp [*] <;> omega) | (simp only [mg.bne0, mg.bne_len, mg.toList_len]; first | rfl | (simp [*]; done) | (simp [*, mg.dec_nil]; done) | (simp [*] <;> omega))))
      case false =>
        cases hh : hs 104
        all_goals (go_wp2_with (first | (go_at_call 40; refine (HH.out _ _ (by decide) (by decide)).mono ?_; rintro e _ ⟨rfl, hw2⟩; subst hw2; rw [hh]) | fail); all_goals refine cutQ_normal ⟨⟨_, _, _, _, _, _, _, _, _, _, _, _, _, _, _, _, _, _, _, _, _, _, _, _, _, _, _, _, _, ?_, rfl⟩, rfl⟩; all_goals (rw [HE.out]; clear HE; (first | rfl | (simp [*]; done) | (rw [Bool.eq_iff_iff]; simp [*]; done) | (rw [Bool.eq_iff_iff]; simp [*]; omega) | (congr 1; rw [Bool.eq_iff_iff]; simp [*] <;> omega) | (simp only [mg.bne0, mg.bne_len, mg.toList_len]; first | rfl | (simp [*]; done) | (simp [*, mg.dec_nil]; done) | (simp [*] <;> omega)))))
    rintro _ _ ⟨⟨x16, x17, x18, x19, x20, x21, x22, x23, x24, x25, x26, x27, x28, x29, x30, x31, x32, x33, x34, x35, x36, x37, x38, x39, x40, x41, x42, x43, b, hb, rfl⟩, hw2⟩
    subst hw2
    subst hb
    refine wpList_cut (R := fun a' w' => mg.C4_4 (.agg #[.int .i64 k, .int .i64 m, .string p, .string t, .int .i64 ho, .int .i64 hn, .int .i64 at_, .int .i64 cnt, .slice A d.length c]) (.pointer (some ⟨w.heap.size, 0, none⟩)) (.int .i64 0) (.string (strOf l)) undef (.pointer (some ⟨w.heap.size, 0, none⟩)) (.int .i64 k) (.bool false) (.bool false) (.pointer (some ⟨w.heap.size, 0, none⟩)) (.int .i64 k) (.bool false) (.bool false) (.pointer (some ⟨w.heap.size, 0, none⟩)) (.int .i64 k) (.string (strOf l)) undef undef undef undef undef undef undef undef undef undef undef undef undef undef undef undef undef undef undef undef undef undef undef undef undef undef undef undef undef undef undef undef undef undef undef undef undef undef undef undef undef undef undef undef undef undef undef undef undef undef undef undef undef undef undef undef undef undef undef undef undef undef undef undef undef undef undef undef undef undef undef undef undef undef undef undef undef undef undef undef undef undef undef undef undef e4_4 a' ∧ w1 = w') [_, _, _, _, _, _, _, _, _, _] _ _ _ ?_ ?_
    · have HE := E4_4
      clear E4_1 E4_2 E4_3 E4_4 E4_5 E4_6 E4_7
      cases b
      case true =>
        go_wp2_with (first | (go_at_call 40; refine (HH.out _ _ (by decide) (by decide)).mono ?_; rintro e _ ⟨rfl, hw2⟩; subst hw2; rw [hh]) | fail)
        all_goals refine cutQ_normal ⟨⟨_, _, _, _, _, _, _, _, _, _, _, _, _, _, _, _, _, _, _, _, _, _, _, _, _, _, _, _, _, _, _, _, _, _, _, _, _, _, _, ?_, rfl⟩, rfl⟩
        all_goals (rw [HE.out]; clear HE; (first | rfl | (simp [*]; done) | (rw [Bool.eq_iff_iff]; simp [*]; done) | (rw [Bool.eq_iff_iff]; simp [*]; omega) | (congr 1; rw [Bool.eq_iff_iff]; simp [*] <;> omega) | (simp only [mg.bne0, mg.bne_len, mg.toList_len]; first | rfl | (simp [*]; done) | (simp [*, mg.dec_nil]; done) | (simp [*] <;> omega))))
      case false =>
        cases hh : hs 110
        all_goals (go_wp2_with (first | (go_at_call 40; refine (HH.out _ _ (by decide) (by decide)).mono ?_; rintro e _ ⟨rfl, hw2⟩; subst hw2; rw [hh]) | fail); all_goals refine cutQ_normal ⟨⟨_, _, _, _, _, _, _, _, _, _, _, _, _, _, _, _, _, _, _, _, _, _, _, _, _, _, _, _, _, _, _, _, _, _, _, _, _, _, _, ?_, rfl⟩, rfl⟩; all_goals (rw [HE.out]; clear HE; (first | rfl | (simp [*]; done) | (rw [Bool.eq_iff_iff]; simp [*]; done) | (rw [Bool.eq_iff_iff]; simp [*]; omega) | (congr 1; rw [Bool.eq_iff_iff]; simp [*] <;> omega) | (simp only [mg.bne0, mg.bne_len, mg.toList_len]; first | rfl | (simp [*]; done) | (simp [*, mg.dec_nil]; done) | (simp [*] <;> omega)))))
    rintro _ _ ⟨⟨x16, x17, x18, x19, x20, x21, x22, x23, x24, x25, x26, x27, x28, x29, x30, x31, x32, x33, x34, x35, x36, x37, x38, x39, x40, x41, x42, x43, x44, x45, x46, x47, x48, x49, x50, x51, x52, x53, b, hb, rfl⟩, hw2⟩
    subst hw2
    subst hb
    refine wpList_cut (R := fun a' w' => mg.C4_5 (.agg #[.int .i64 k, .int .i64 m, .string p, .string t, .int .i64 ho, .int .i64 hn, .int .i64 at_, .int .i64 cnt, .slice A d.length c]) (.pointer (some ⟨w.heap.size, 0, none⟩)) (.int .i64 0) (.string (strOf l)) undef (.pointer (some ⟨w.heap.size, 0, none⟩)) (.int .i64 k) (.bool false) (.bool false) (.pointer (some ⟨w.heap.size, 0, none⟩)) (.int .i64 k) (.bool false) (.bool false) (.pointer (some ⟨w.heap.size, 0, none⟩)) (.int .i64 k) (.string (strOf l)) undef undef undef undef undef undef undef undef undef undef undef undef undef undef undef undef undef undef undef undef undef undef undef undef undef undef undef undef undef undef undef undef undef undef undef undef undef undef undef undef undef undef undef undef undef undef undef undef undef undef undef undef undef undef undef undef undef undef undef undef undef undef undef undef undef undef undef undef undef undef undef undef undef undef undef e4_5 a' ∧ w1 = w') [_, _, _, _, _, _, _, _, _, _] _ _ _ ?_ ?_
    · have HE := E4_5
      clear E4_1 E4_2 E4_3 E4_4 E4_5 E4_6 E4_7
      cases b
      case true =>
        go_wp2_with (first | (go_at_call 40; refine (HH.out _ _ (by decide) (by decide)).mono ?_; rintro e _ ⟨rfl, hw2⟩; subst hw2; rw [hh]) | fail)
        all_goals refine cutQ_normal ⟨⟨_, _, _, _, _, _, _, _, _, _, _, _, _, _, _, _, _, _, _, _, _, _, _, _, _, _, _, _, _, _, _, _, _, _, _, _, _, _, _, _, _, _, _, _, _, _, _, _, _, ?_, rfl⟩, rfl⟩
        all_goals (rw [HE.out]; clear HE; (first | rfl | (simp [*]; done) | (rw [Bool.eq_iff_iff]; simp [*]; done) | (rw [Bool.eq_iff_iff]; simp [*]; omega) | (congr 1; rw [Bool.eq_iff_iff]; simp [*] <;> omega) | (simp only [mg.bne0, mg.bne_len, mg.toList_len]; first | rfl | (simp [*]; done) | (simp [*, mg.dec_nil]; done) | (simp [*] <;> omega))))
      case false =>
        cases hh : hs 97
        all_goals (go_wp2_with (first | (go_at_call 40; refine (HH.out _ _ (by decide) (by decide)).mono ?_; rintro e _ ⟨rfl, hw2⟩; subst hw2; rw [hh]) | fail); all_goals refine cutQ_normal ⟨⟨_, _, _, _, _, _, _, _, _, _, _, _, _, _, _, _, _, _, _, _, _, _, _, _, _, _, _, _, _, _, _, _, _, _, _, _, _, _, _, _, _, _, _, _, _, _, _, _, _, ?_, rfl⟩, rfl⟩; all_goals (rw [HE.out]; clear HE; (first | rfl | (simp [*]; done) | (rw [Bool.eq_iff_iff]; simp [*]; done) | (rw [Bool.eq_iff_iff]; simp [*]; omega) | (congr 1; rw [Bool.eq_iff_iff]; simp [*] <;> omega) | (simp only [mg.bne0, mg.bne_len, mg.toList_len]; first | rfl | (simp [*]; done) | (simp [*, mg.dec_nil]; done) | (simp [*] <;> omega)))))
    rintro _ _ ⟨⟨x16, x17, x18, x19, x20, x21, x22, x23, x24, x25, x26, x27, x28, x29, x30, x31, x32, x33, x34, x35, x36, x37, x38, x39, x40, x41, x42, x43, x44, x45, x46, x47, x48, x49, x50, x51, x52, x53, x54, x55, x56, x57, x58, x59, x60, x61, x62, x63, b, hb, rfl⟩, hw2⟩
    subst hw2
    subst hb
    refine wpList_cut (R := fun a' w' => mg.C4_6 (.agg #[.int .i64 k, .int .i64 m, .string p, .string t, .int .i64 ho, .int .i64 hn, .int .i64 at_, .int .i64 cnt, .slice A d.length c]) (.pointer (some ⟨w.heap.size, 0, none⟩)) (.int .i64 0) (.string (strOf l)) undef (.pointer (some ⟨w.heap.size, 0, none⟩)) (.int .i64 k) (.bool false) (.bool false) (.pointer (some ⟨w.heap.size, 0, none⟩)) (.int .i64 k) (.bool false) (.bool false) (.pointer (some ⟨w.heap.size, 0, none⟩)) (.int .i64 k) (.string (strOf l)) undef undef undef undef undef undef undef undef undef undef undef undef undef undef undef undef undef undef undef undef undef undef undef undef undef undef undef undef undef undef undef undef undef undef undef undef undef undef undef undef undef undef undef undef undef undef undef undef undef undef undef undef undef undef undef undef undef undef undef undef undef undef undef undef undef e4_6 a' ∧ w1 = w') [_, _, _, _, _, _, _, _, _, _] _ _ _ ?_ ?_
    · have HE := E4_6
      clear E4_1 E4_2 E4_3 E4_4 E4_5 E4_6 E4_7
      cases b
      case true =>
        go_wp2_with (first | (go_at_call 40; refine (HH.out _ _ (by decide) (by decide)).mono ?_; rintro e _ ⟨rfl, hw2⟩; subst hw2; rw [hh]) | fail)
        all_goals refine cutQ_normal ⟨⟨_, _, _, _, _, _, _, _, _, _, _, _, _, _, _, _, _, _, _, _, _, _, _, _, _, _, _, _, _, _, _, _, _, _, _, _, _, _, _, _, _, _, _, _, _, _, _, _, _, _, _, _, _, _, _, _, _, _, _, ?_, rfl⟩, rfl⟩
        all_goals (rw [HE.out]; clear HE; (first | rfl | (simp [*]; done) | (rw [Bool.eq_iff_iff]; simp [*]; done) | (rw [Bool.eq_iff_iff]; simp [*]; omega) | (congr 1; rw [Bool.eq_iff_iff]; simp [*] <;> omega) | (simp only [mg.bne0, mg.bne_len, mg.toList_len]; first | rfl | (simp [*]; done) | (simp [*, mg.dec_nil]; done) | (simp [*] <;> omega))))
      case false =>
        cases hh : hs 99
        all_goals (go_wp2_with (first | (go_at_call 40; refine (HH.out _ _ (by decide) (by decide)).mono ?_; rintro e _ ⟨rfl, hw2⟩; subst hw2; rw [hh]) | fail); all_goals refine cutQ_normal ⟨⟨_, _, _, _, _, _, _, _, _, _, _, _, _, _, _, _, _, _, _, _, _, _, _, _, _, _, _, _, _, _, _, _, _, _, _, _, _, _, _, _, _, _, _, _, _, _, _, _, _, _, _, _, _, _, _, _, _, _, _, ?_, rfl⟩, rfl⟩; all_goals (rw [HE.out]; clear HE; (first | rfl | (simp [*]; done) | (rw [Bool.eq_iff_iff]; simp [*]; done) | (rw [Bool.eq_iff_iff]; simp [*]; omega) | (congr 1; rw [Bool.eq_iff_iff]; simp [*] <;> omega) | (simp only [mg.bne0, mg.bne_len, mg.toList_len]; first | rfl | (simp [*]; done) | (simp [*, mg.dec_nil]; done) | (simp [*] <;> omega)))))
    rintro _ _ ⟨⟨x16, x17, x18, x19, x20, x21, x22, x23, x24, x25, x26, x27, x28, x29, x30, x31, x32, x33, x34, x35, x36, x37, x38, x39, x40, x41, x42, x43, x44, x45, x46, x47, x48, x49, x50, x51, x52, x53, x54, x55, x56, x57, x58, x59, x60, x61, x62, x63, x64, x65, x66, x67, x68, x69, x70, x71, x72, x73, b, hb, rfl⟩, hw2⟩
    subst hw2
    subst hb
    have HE := E4_7
    clear E4_1 E4_2 E4_3 E4_4 E4_5 E4_6 E4_7
    cases b
    case true =>
      go_wp2_with (first | (go_at_call 40; refine (HH.out _ _ (by decide) (by decide)).mono ?_; rintro e _ ⟨rfl, hw2⟩; subst hw2; rw [hh]) | fail)
      all_goals (go_meet; refine ⟨?_, rfl⟩; rw [HE.out]; clear HE; (first | rfl | (simp [*]; done) | (rw [Bool.eq_iff_iff]; simp [*]; done) | (rw [Bool.eq_iff_iff]; simp [*]; omega) | (congr 1; rw [Bool.eq_iff_iff]; simp [*] <;> omega) | (simp only [mg.bne0, mg.bne_len, mg.toList_len]; first | rfl | (simp [*]; done) | (simp [*, mg.dec_nil]; done) | (simp [*] <;> omega))))
    case false =>
      cases hh : hs 100
      all_goals (go_wp2_with (first | (go_at_call 40; refine (HH.out _ _ (by decide) (by decide)).mono ?_; rintro e _ ⟨rfl, hw2⟩; subst hw2; rw [hh]) | fail); all_goals (go_meet; refine ⟨?_, rfl⟩; rw [HE.out]; clear HE; (first | rfl | (simp [*]; done) | (rw [Bool.eq_iff_iff]; simp [*]; done) | (rw [Bool.eq_iff_iff]; simp [*]; omega) | (congr 1; rw [Bool.eq_iff_iff]; simp [*] <;> omega) | (simp only [mg.bne0, mg.bne_len, mg.toList_len]; first | rfl | (simp [*]; done) | (simp [*, mg.dec_nil]; done) | (simp [*] <;> omega)))))
  case rest =>
    obtain ⟨rfl, rfl⟩ := hcut
    clear E4_1 E4_2 E4_3 E4_4 E4_5 E4_6 E4_7 HNM HH
    cases e4_7 with
    | true =>
      go_wp2
      go_ret
      exact ⟨rfl, (balloc (bself w) _).trans (HB1.out.mono (by simp))⟩
    | false =>
      go_upto_region 7 with fail
      go_cut [123] (fun s wx => s = .bool e7_7 ∧ w1 = wx)
      case first =>
        refine wp_region_lit ?_
        refine wpList_cut (R := fun a' w' => mg.C7_1 (.agg #[.int .i64 k, .int .i64 m, .string p, .string t, .int .i64 ho, .int .i64 hn, .int .i64 at_, .int .i64 cnt, .slice A d.length c]) (.pointer (some ⟨w.heap.size, 0, none⟩)) (.int .i64 0) (.string (strOf l)) (Value.func (Fn.func 41) #[] #[]) u5 u6 u7 u8 u9 u10 u11 u12 u13 u14 u15 u16 u17 u18 u19 u20 u21 u22 u23 u24 u25 u26 u27 u28 u29 u30 u31 u32 u33 u34 u35 u36 u37 u38 u39 u40 u41 u42 u43 u44 u45 u46 u47 u48 u49 u50 u51 u52 u53 u54 u55 u56 u57 u58 u59 u60 u61 u62 u63 u64 u65 u66 u67 u68 u69 u70 u71 u72 u73 u74 u75 u76 u77 u78 u79 u80 u81 u82 u83 (.bool false) u91 u92 u93 u94 u95 u96 u97 u98 u99 u100 u101 u102 u103 u104 u105 u106 u107 u108 u109 u110 u111 u112 u113 u114 u115 u116 u117 u118 u119 u120 u121 u122 u123 u124 u125 u126 u127 u128 u129 u130 u131 u132 u133 u134 u135 u136 u137 u138 u139 e7_1 a' ∧ w1 = w') [_, _, _, _, _, _] _ _ _ ?_ ?_
        · have HE := E7_1
          clear E7_1 E7_2 E7_3 E7_4 E7_5 E7_6 E7_7
          cases fm
          all_goals (go_wp2_with (first | (go_at_call 41; (first | (with_reducible refine (HFm.out _).mono ?_) | (with_reducible refine (HFn.out _).mono ?_) | (with_reducible refine (HFa.out _).mono ?_)); rintro e _ ⟨rfl, hw2⟩; subst hw2) | fail); all_goals refine cutQ_normal ⟨⟨_, _, _, _, _, _, ?_, rfl⟩, rfl⟩; all_goals (rw [HE.out]; clear HE; (first | rfl | (simp [*]; done) | (rw [Bool.eq_iff_iff]; simp [*]; done) | (rw [Bool.eq_iff_iff]; simp [*]; omega) | (congr 1; rw [Bool.eq_iff_iff]; simp [*] <;> omega) | (simp only [mg.bne0, mg.bne_len, mg.toList_len]; first | rfl | (simp [*]; done) | (simp [*, mg.dec_nil]; done) | (simp [*] <;> omega)))))
        rintro _ _ ⟨⟨x85, x86, x87, x88, x89, b, hb, rfl⟩, hw2⟩
        subst hw2
        subst hb
        refine wpList_cut (R := fun a' w' => mg.C7_2 (.agg #[.int .i64 k, .int .i64 m, .string p, .string t, .int .i64 ho, .int .i64 hn, .int .i64 at_, .int .i64 cnt, .slice A d.length c]) (.pointer (some ⟨w.heap.size, 0, none⟩)) (.int .i64 0) (.string (strOf l)) (Value.func (Fn.func 41) #[] #[]) u5 u6 u7 u8 u9 u10 u11 u12 u13 u14 u15 u16 u17 u18 u19 u20 u21 u22 u23 u24 u25 u26 u27 u28 u29 u30 u31 u32 u33 u34 u35 u36 u37 u38 u39 u40 u41 u42 u43 u44 u45 u46 u47 u48 u49 u50 u51 u52 u53 u54 u55 u56 u57 u58 u59 u60 u61 u62 u63 u64 u65 u66 u67 u68 u69 u70 u71 u72 u73 u74 u75 u76 u77 u78 u79 u80 u81 u82 u83 (.bool false) u98 u99 u100 u101 u102 u103 u104 u105 u106 u107 u108 u109 u110 u111 u112 u113 u114 u115 u116 u117 u118 u119 u120 u121 u122 u123 u124 u125 u126 u127 u128 u129 u130 u131 u132 u133 u134 u135 u136 u137 u138 u139 e7_2 a' ∧ w1 = w') [_, _, _, _, _, _, _] _ _ _ ?_ ?_
        · have HE := E7_2
          clear E7_1 E7_2 E7_3 E7_4 E7_5 E7_6 E7_7
          cases b
          case true =>
            go_wp2_with (first | (go_at_call 41; (first | (with_reducible refine (HFm.out _).mono ?_) | (with_reducible refine (HFn.out _).mono ?_) | (with_reducible refine (HFa.out _).mono ?_)); rintro e _ ⟨rfl, hw2⟩; subst hw2) | fail)
            all_goals refine cutQ_normal ⟨⟨_, _, _, _, _, _, _, _, _, _, _, _, _, ?_, rfl⟩, rfl⟩
            all_goals (rw [HE.out]; clear HE; (first | rfl | (simp [*]; done) | (rw [Bool.eq_iff_iff]; simp [*]; done) | (rw [Bool.eq_iff_iff]; simp [*]; omega) | (congr 1; rw [Bool.eq_iff_iff]; simp [*] <;> omega) | (simp only [mg.bne0, mg.bne_len, mg.toList_len]; first | rfl | (simp [*]; done) | (simp [*, mg.dec_nil]; done) | (simp [*] <;> omega))))
          case false =>
            cases fn
            all_goals (go_wp2_with (first | (go_at_call 41; (first | (with_reducible refine (HFm.out _).mono ?_) | (with_reducible refine (HFn.out _).mono ?_) | (with_reducible refine (HFa.out _).mono ?_)); rintro e _ ⟨rfl, hw2⟩; subst hw2) | fail); all_goals refine cutQ_normal ⟨⟨_, _, _, _, _, _, _, _, _, _, _, _, _, ?_, rfl⟩, rfl⟩; all_goals (rw [HE.out]; clear HE; (first | rfl | (simp [*]; done) | (rw [Bool.eq_iff_iff]; simp [*]; done) | (rw [Bool.eq_iff_iff]; simp [*]; omega) | (congr 1; rw [Bool.eq_iff_iff]; simp [*] <;> omega) | (simp only [mg.bne0, mg.bne_len, mg.toList_len]; first | rfl | (simp [*]; done) | (simp [*, mg.dec_nil]; done) | (simp [*] <;> omega)))))
        rintro _ _ ⟨⟨x85, x86, x87, x88, x89, x90, x91, x92, x93, x94, x95, x96, b, hb, rfl⟩, hw2⟩
        subst hw2
        subst hb
        refine wpList_cut (R := fun a' w' => mg.C7_3 (.agg #[.int .i64 k, .int .i64 m, .string p, .string t, .int .i64 ho, .int .i64 hn, .int .i64 at_, .int .i64 cnt, .slice A d.length c]) (.pointer (some ⟨w.heap.size, 0, none⟩)) (.int .i64 0) (.string (strOf l)) (Value.func (Fn.func 41) #[] #[]) u5 u6 u7 u8 u9 u10 u11 u12 u13 u14 u15 u16 u17 u18 u19 u20 u21 u22 u23 u24 u25 u26 u27 u28 u29 u30 u31 u32 u33 u34 u35 u36 u37 u38 u39 u40 u41 u42 u43 u44 u45 u46 u47 u48 u49 u50 u51 u52 u53 u54 u55 u56 u57 u58 u59 u60 u61 u62 u63 u64 u65 u66 u67 u68 u69 u70 u71 u72 u73 u74 u75 u76 u77 u78 u79 u80 u81 u82 u83 (.bool false) u105 u106 u107 u108 u109 u110 u111 u112 u113 u114 u115 u116 u117 u118 u119 u120 u121 u122 u123 u124 u125 u126 u127 u128 u129 u130 u131 u132 u133 u134 u135 u136 u137 u138 u139 e7_3 a' ∧ w1 = w') [_, _, _, _, _, _, _] _ _ _ ?_ ?_
        · have HE := E7_3
          clear E7_1 E7_2 E7_3 E7_4 E7_5 E7_6 E7_7
          cases b
          case true =>
            go_wp2_with (first | (go_at_call 41; (first | (with_reducible refine (HFm.out _).mono ?_) | (with_reducible refine (HFn.out _).mono ?_) | (with_reducible refine (HFa.out _).mono ?_)); rintro e _ ⟨rfl, hw2⟩; subst hw2) | fail)
            all_goals refine cutQ_normal ⟨⟨_, _, _, _, _, _, _, _, _, _, _, _, _, _, _, _, _, _, _, _, ?_, rfl⟩, rfl⟩
            all_goals (rw [HE.out]; clear HE; (first | rfl | (simp [*]; done) | (rw [Bool.eq_iff_iff]; simp [*]; done) | (rw [Bool.eq_iff_iff]; simp [*]; omega) | (congr 1; rw [Bool.eq_iff_iff]; simp [*] <;> omega) | (simp only [mg.bne0, mg.bne_len, mg.toList_len]; first | rfl | (simp [*]; done) | (simp [*, mg.dec_nil]; done) | (simp [*] <;> omega))))
          case false =>
            cases fa
            all_goals (go_wp2_with (first | (go_at_call 41; (first | (with_reducible refine (HFm.out _).mono ?_) | (with_reducible refine (HFn.out _).mono ?_) | (with_reducible refine (HFa.out _).mono ?_)); rintro e _ ⟨rfl, hw2⟩; subst hw2) | fail); all_goals refine cutQ_normal ⟨⟨_, _, _, _, _, _, _, _, _, _, _, _, _, _, _, _, _, _, _, _, ?_, rfl⟩, rfl⟩; all_goals (rw [HE.out]; clear HE; (first | rfl | (simp [*]; done) | (rw [Bool.eq_iff_iff]; simp [*]; done) | (rw [Bool.eq_iff_iff]; simp [*]; omega) | (congr 1; rw [Bool.eq_iff_iff]; simp [*] <;> omega) | (simp only [mg.bne0, mg.bne_len, mg.toList_len]; first | rfl | (simp [*]; done) | (simp [*, mg.dec_nil]; done) | (simp [*] <;> omega)))))
        rintro _ _ ⟨⟨x85, x86, x87, x88, x89, x90, x91, x92, x93, x94, x95, x96, x97, x98, x99, x100, x101, x102, x103, b, hb, rfl⟩, hw2⟩
        subst hw2
        subst hb
        refine wpList_cut (R := fun a' w' => mg.C7_4 (.agg #[.int .i64 k, .int .i64 m, .string p, .string t, .int .i64 ho, .int .i64 hn, .int .i64 at_, .int .i64 cnt, .slice A d.length c]) (.pointer (some ⟨w.heap.size, 0, none⟩)) (.int .i64 0) (.string (strOf l)) (Value.func (Fn.func 41) #[] #[]) u5 u6 u7 u8 u9 u10 u11 u12 u13 u14 u15 u16 u17 u18 u19 u20 u21 u22 u23 u24 u25 u26 u27 u28 u29 u30 u31 u32 u33 u34 u35 u36 u37 u38 u39 u40 u41 u42 u43 u44 u45 u46 u47 u48 u49 u50 u51 u52 u53 u54 u55 u56 u57 u58 u59 u60 u61 u62 u63 u64 u65 u66 u67 u68 u69 u70 u71 u72 u73 u74 u75 u76 u77 u78 u79 u80 u81 u82 u83 (.bool false) u110 u111 u112 u113 u114 u115 u116 u117 u118 u119 u120 u121 u122 u123 u124 u125 u126 u127 u128 u129 u130 u131 u132 u133 u134 u135 u136 u137 u138 u139 e7_4 a' ∧ w1 = w') [_, _, _, _, _] _ _ _ ?_ ?_
        · have HE := E7_4
          clear E7_1 E7_2 E7_3 E7_4 E7_5 E7_6 E7_7
          cases b
          case true =>
            go_wp2_with (first | (go_at_call 41; (first | (with_reducible refine (HFm.out _).mono ?_) | (with_reducible refine (HFn.out _).mono ?_) | (with_reducible refine (HFa.out _).mono ?_)); rintro e _ ⟨rfl, hw2⟩; subst hw2) | fail)
            all_goals refine cutQ_normal ⟨⟨_, _, _, _, _, _, _, _, _, _, _, _, _, _, _, _, _, _, _, _, _, _, _, _, _, ?_, rfl⟩, rfl⟩
            all_goals (rw [HE.out]; clear HE; (first | rfl | (simp [*]; done) | (rw [Bool.eq_iff_iff]; simp [*]; done) | (rw [Bool.eq_iff_iff]; simp [*]; omega) | (congr 1; rw [Bool.eq_iff_iff]; simp [*] <;> omega) | (simp only [mg.bne0, mg.bne_len, mg.toList_len]; first | rfl | (simp [*]; done) | (simp [*, mg.dec_nil]; done) | (simp [*] <;> omega))))
          case false =>
            go_wp2_with (first | (go_at_call 41; (first | (with_reducible refine (HFm.out _).mono ?_) | (with_reducible refine (HFn.out _).mono ?_) | (with_reducible refine (HFa.out _).mono ?_)); rintro e _ ⟨rfl, hw2⟩; subst hw2) | fail)
            all_goals refine cutQ_normal ⟨⟨_, _, _, _, _, _, _, _, _, _, _, _, _, _, _, _, _, _, _, _, _, _, _, _, _, ?_, rfl⟩, rfl⟩
            all_goals (rw [HE.out]; clear HE; (first | rfl | (simp [*]; done) | (rw [Bool.eq_iff_iff]; simp [*]; done) | (rw [Bool.eq_iff_iff]; simp [*]; omega) | (congr 1; rw [Bool.eq_iff_iff]; simp [*] <;> omega) | (simp only [mg.bne0, mg.bne_len, mg.toList_len]; first | rfl | (simp [*]; done) | (simp [*, mg.dec_nil]; done) | (simp [*] <;> omega))))
        rintro _ _ ⟨⟨x85, x86, x87, x88, x89, x90, x91, x92, x93, x94, x95, x96, x97, x98, x99, x100, x101, x102, x103, x104, x105, x106, x107, x108, b, hb, rfl⟩, hw2⟩
        subst hw2
        subst hb
        refine wpList_cut (R := fun a' w' => mg.C7_5 (.agg #[.int .i64 k, .int .i64 m, .string p, .string t, .int .i64 ho, .int .i64 hn, .int .i64 at_, .int .i64 cnt, .slice A d.length c]) (.pointer (some ⟨w.heap.size, 0, none⟩)) (.int .i64 0) (.string (strOf l)) (Value.func (Fn.func 41) #[] #[]) u5 u6 u7 u8 u9 u10 u11 u12 u13 u14 u15 u16 u17 u18 u19 u20 u21 u22 u23 u24 u25 u26 u27 u28 u29 u30 u31 u32 u33 u34 u35 u36 u37 u38 u39 u40 u41 u42 u43 u44 u45 u46 u47 u48 u49 u50 u51 u52 u53 u54 u55 u56 u57 u58 u59 u60 u61 u62 u63 u64 u65 u66 u67 u68 u69 u70 u71 u72 u73 u74 u75 u76 u77 u78 u79 u80 u81 u82 u83 (.bool false) u115 u116 u117 u118 u119 u120 u121 u122 u123 u124 u125 u126 u127 u128 u129 u130 u131 u132 u133 u134 u135 u136 u137 u138 u139 e7_5 a' ∧ w1 = w') [_, _, _, _, _] _ _ _ ?_ ?_
        · have HE := E7_5
          clear E7_1 E7_2 E7_3 E7_4 E7_5 E7_6 E7_7
          cases b
          case true =>
            go_wp2_with (first | (go_at_call 41; (first | (with_reducible refine (HFm.out _).mono ?_) | (with_reducible refine (HFn.out _).mono ?_) | (with_reducible refine (HFa.out _).mono ?_)); rintro e _ ⟨rfl, hw2⟩; subst hw2) | fail)
            all_goals refine cutQ_normal ⟨⟨_, _, _, _, _, _, _, _, _, _, _, _, _, _, _, _, _, _, _, _, _, _, _, _, _, _, _, _, _, _, ?_, rfl⟩, rfl⟩
            all_goals (rw [HE.out]; clear HE; (first | rfl | (simp [*]; done) | (rw [Bool.eq_iff_iff]; simp [*]; done) | (rw [Bool.eq_iff_iff]; simp [*]; omega) | (congr 1; rw [Bool.eq_iff_iff]; simp [*] <;> omega) | (simp only [mg.bne0, mg.bne_len, mg.toList_len]; first | rfl | (simp [*]; done) | (simp [*, mg.dec_nil]; done) | (simp [*] <;> omega))))
          case false =>
            go_wp2_with (first | (go_at_call 41; (first | (with_reducible refine (HFm.out _).mono ?_) | (with_reducible refine (HFn.out _).mono ?_) | (with_reducible refine (HFa.out _).mono ?_)); rintro e _ ⟨rfl, hw2⟩; subst hw2) | fail)
            all_goals refine cutQ_normal ⟨⟨_, _, _, _, _, _, _, _, _, _, _, _, _, _, _, _, _, _, _, _, _, _, _, _, _, _, _, _, _, _, ?_, rfl⟩, rfl⟩
            all_goals (rw [HE.out]; clear HE; (first | rfl | (simp [*]; done) | (rw [Bool.eq_iff_iff]; simp [*]; done) | (rw [Bool.eq_iff_iff]; simp [*]; omega) | (congr 1; rw [Bool.eq_iff_iff]; simp [*] <;> omega) | (simp only [mg.bne0, mg.bne_len, mg.toList_len]; first | rfl | (simp [*]; done) | (simp [*, mg.dec_nil]; done) | (simp [*] <;> omega))))
        rintro _ _ ⟨⟨x85, x86, x87, x88, x89, x90, x91, x92, x93, x94, x95, x96, x97, x98, x99, x100, x101, x102, x103, x104, x105, x106, x107, x108, x109, x110, x111, x112, x113, b, hb, rfl⟩, hw2⟩
        subst hw2
        subst hb
        refine wpList_cut (R := fun a' w' => mg.C7_6 (.agg #[.int .i64 k, .int .i64 m, .string p, .string t, .int .i64 ho, .int .i64 hn, .int .i64 at_, .int .i64 cnt, .slice A d.length c]) (.pointer (some ⟨w.heap.size, 0, none⟩)) (.int .i64 0) (.string (strOf l)) (Value.func (Fn.func 41) #[] #[]) u5 u6 u7 u8 u9 u10 u11 u12 u13 u14 u15 u16 u17 u18 u19 u20 u21 u22 u23 u24 u25 u26 u27 u28 u29 u30 u31 u32 u33 u34 u35 u36 u37 u38 u39 u40 u41 u42 u43 u44 u45 u46 u47 u48 u49 u50 u51 u52 u53 u54 u55 u56 u57 u58 u59 u60 u61 u62 u63 u64 u65 u66 u67 u68 u69 u70 u71 u72 u73 u74 u75 u76 u77 u78 u79 u80 u81 u82 u83 (.bool false) u120 u121 u122 u123 u124 u125 u126 u127 u128 u129 u130 u131 u132 u133 u134 u135 u136 u137 u138 u139 e7_6 a' ∧ w1 = w') [_, _, _, _, _] _ _ _ ?_ ?_
        · have HE := E7_6
          clear E7_1 E7_2 E7_3 E7_4 E7_5 E7_6 E7_7
          cases b
          case true =>
            go_wp2_with (first | (go_at_call 41; (first | (with_reducible refine (HFm.out _).mono ?_) | (with_reducible refine (HFn.out _).mono ?_) | (with_reducible refine (HFa.out _).mono ?_)); rintro e _ ⟨rfl, hw2⟩; subst hw2) | fail)
            all_goals refine cutQ_normal ⟨⟨_, _, _, _, _, _, _, _, _, _, _, _, _, _, _, _, _, _, _, _, _, _, _, _, _, _, _, _, _, _, _, _, _, _, _, ?_, rfl⟩, rfl⟩
            all_goals (rw [HE.out]; clear HE; (first | rfl | (simp [*]; done) | (rw [Bool.eq_iff_iff]; simp [*]; done) | (rw [Bool.eq_iff_iff]; simp [*]; omega) | (congr 1; rw [Bool.eq_iff_iff]; simp [*] <;> omega) | (simp only [mg.bne0, mg.bne_len, mg.toList_len]; first | rfl | (simp [*]; done) | (simp [*, mg.dec_nil]; done) | (simp [*] <;> omega))))
          case false =>
            go_wp2_with (first | (go_at_call 41; (first | (with_reducible refine (HFm.out _).mono ?_) | (with_reducible refine (HFn.out _).mono ?_) | (with_reducible refine (HFa.out _).mono ?_)); rintro e _ ⟨rfl, hw2⟩; subst hw2) | fail)
            all_goals refine cutQ_normal ⟨⟨_, _, _, _, _, _, _, _, _, _, _, _, _, _, _, _, _, _, _, _, _, _, _, _, _, _, _, _, _, _, _, _, _, _, _, ?_, rfl⟩, rfl⟩
            all_goals (rw [HE.out]; clear HE; (first | rfl | (simp [*]; done) | (rw [Bool.eq_iff_iff]; simp [*]; done) | (rw [Bool.eq_iff_iff]; simp [*]; omega) | (congr 1; rw [Bool.eq_iff_iff]; simp [*] <;> omega) | (simp only [mg.bne0, mg.bne_len, mg.toList_len]; first | rfl | (simp [*]; done) | (simp [*, mg.dec_nil]; done) | (simp [*] <;> omega))))
        rintro _ _ ⟨⟨x85, x86, x87, x88, x89, x90, x91, x92, x93, x94, x95, x96, x97, x98, x99, x100, x101, x102, x103, x104, x105, x106, x107, x108, x109, x110, x111, x112, x113, x114, x115, x116, x117, x118, b, hb, rfl⟩, hw2⟩
        subst hw2
        subst hb
        have HE := E7_7
        clear E7_1 E7_2 E7_3 E7_4 E7_5 E7_6 E7_7
        cases b
        case true =>
          go_wp2_with (first | (go_at_call 41; (first | (with_reducible refine (HFm.out _).mono ?_) | (with_reducible refine (HFn.out _).mono ?_) | (with_reducible refine (HFa.out _).mono ?_)); rintro e _ ⟨rfl, hw2⟩; subst hw2) | fail)
          all_goals (go_meet; refine ⟨?_, rfl⟩; rw [HE.out]; clear HE; (first | rfl | (simp [*]; done) | (rw [Bool.eq_iff_iff]; simp [*]; done) | (rw [Bool.eq_iff_iff]; simp [*]; omega) | (congr 1; rw [Bool.eq_iff_iff]; simp [*] <;> omega) | (simp only [mg.bne0, mg.bne_len, mg.toList_len]; first | rfl | (simp [*]; done) | (simp [*, mg.dec_nil]; done) | (simp [*] <;> omega))))
        case false =>
          go_wp2_with (first | (go_at_call 41; (first | (with_reducible refine (HFm.out _).mono ?_) | (with_reducible refine (HFn.out _).mono ?_) | (with_reducible refine (HFa.out _).mono ?_)); rintro e _ ⟨rfl, hw2⟩; subst hw2) | fail)
          all_goals (go_meet; refine ⟨?_, rfl⟩; rw [HE.out]; clear HE; (first | rfl | (simp [*]; done) | (rw [Bool.eq_iff_iff]; simp [*]; done) | (rw [Bool.eq_iff_iff]; simp [*]; omega) | (congr 1; rw [Bool.eq_iff_iff]; simp [*] <;> omega) | (simp only [mg.bne0, mg.bne_len, mg.toList_len]; first | rfl | (simp [*]; done) | (simp [*, mg.dec_nil]; done) | (simp [*] <;> omega))))
      case rest =>
        obtain ⟨rfl, rfl⟩ := hcut
        clear E7_1 E7_2 E7_3 E7_4 E7_5 E7_6 E7_7 HFm HFn HFa
        cases e7_7 with
        | true =>
          go_wp2
          go_ret
          exact ⟨rfl, (balloc (bself w) _).trans (HB1.out.mono (by simp))⟩
        | false =>
          go_upto_region 9 with fail
          go_cut [139] (fun s wx => s = .bool e9_3 ∧ w1 = wx)
          case first =>
            refine wp_region_lit ?_
            refine wpList_cut (R := fun a' w' => mg.C9_1 (.agg #[.int .i64 k, .int .i64 m, .string p, .string t, .int .i64 ho, .int .i64 hn, .int .i64 at_, .int .i64 cnt, .slice A d.length c]) (.pointer (some ⟨w.heap.size, 0, none⟩)) (.int .i64 0) (.string (strOf l)) (Value.func (Fn.func 41) #[] #[]) u5 u6 u7 u8 u9 u10 u11 u12 u13 u14 u15 u16 u17 u18 u19 u20 u21 u22 u23 u24 u25 u26 u27 u28 u29 u30 u31 u32 u33 u34 u35 u36 u37 u38 u39 u40 u41 u42 u43 u44 u45 u46 u47 u48 u49 u50 u51 u52 u53 u54 u55 u56 u57 u58 u59 u60 u61 u62 u63 u64 u65 u66 u67 u68 u69 u70 u71 u72 u73 u74 u75 u76 u77 u78 u79 u80 u81 u82 u83 u84 u85 u86 u87 u88 u89 u90 u91 u92 u93 u94 u95 u96 u97 u98 u99 u100 u101 u102 u103 u104 u105 u106 u107 u108 u109 u110 u111 u112 u113 u114 u115 u116 u117 u118 u119 u120 u121 u122 (.bool false) u129 u130 u131 u132 u133 u134 u135 u136 u137 u138 u139 e9_1 a' ∧ w1 = w') [_, _, _, _, _] _ _ _ ?_ ?_
            · have HE := E9_1
              clear E9_1 E9_2 E9_3
              go_wp2_with fail
              all_goals refine cutQ_normal ⟨⟨_, _, _, _, _, ?_, rfl⟩, rfl⟩
              all_goals (rw [HE.out]; clear HE; (first | rfl | (simp [*]; done) | (rw [Bool.eq_iff_iff]; simp [*]; done) | (rw [Bool.eq_iff_iff]; simp [*]; omega) | (congr 1; rw [Bool.eq_iff_iff]; simp [*] <;> omega) | (simp only [mg.bne0, mg.bne_len, mg.toList_len]; first | rfl | (simp [*]; done) | (simp [*, mg.dec_nil]; done) | (simp [*] <;> omega))))
            rintro _ _ ⟨⟨x124, x125, x126, x127, b, hb, rfl⟩, hw2⟩
            subst hw2
            subst hb
            refine wpList_cut (R := fun a' w' => mg.C9_2 (.agg #[.int .i64 k, .int .i64 m, .string p, .string t, .int .i64 ho, .int .i64 hn, .int .i64 at_, .int .i64 cnt, .slice A d.length c]) (.pointer (some ⟨w.heap.size, 0, none⟩)) (.int .i64 0) (.string (strOf l)) (Value.func (Fn.func 41) #[] #[]) u5 u6 u7 u8 u9 u10 u11 u12 u13 u14 u15 u16 u17 u18 u19 u20 u21 u22 u23 u24 u25 u26 u27 u28 u29 u30 u31 u32 u33 u34 u35 u36 u37 u38 u39 u40 u41 u42 u43 u44 u45 u46 u47 u48 u49 u50 u51 u52 u53 u54 u55 u56 u57 u58 u59 u60 u61 u62 u63 u64 u65 u66 u67 u68 u69 u70 u71 u72 u73 u74 u75 u76 u77 u78 u79 u80 u81 u82 u83 u84 u85 u86 u87 u88 u89 u90 u91 u92 u93 u94 u95 u96 u97 u98 u99 u100 u101 u102 u103 u104 u105 u106 u107 u108 u109 u110 u111 u112 u113 u114 u115 u116 u117 u118 u119 u120 u121 u122 (.bool false) u135 u136 u137 u138 u139 e9_2 a' ∧ w1 = w') [_, _, _, _, _, _] _ _ _ ?_ ?_
            · have HE := E9_2
              clear E9_1 E9_2 E9_3
              cases b
              case true =>
                go_wp2_with fail
                all_goals refine cutQ_normal ⟨⟨_, _, _, _, _, _, _, _, _, _, _, ?_, rfl⟩, rfl⟩
                all_goals (rw [HE.out]; clear HE; (first | rfl | (simp [*]; done) | (rw [Bool.eq_iff_iff]; simp [*]; done) | (rw [Bool.eq_iff_iff]; simp [*]; omega) | (congr 1; rw [Bool.eq_iff_iff]; simp [*] <;> omega) | (simp only [mg.bne0, mg.bne_len, mg.toList_len]; first | rfl | (simp [*]; done) | (simp [*, mg.dec_nil]; done) | (simp [*] <;> omega))))
              case false =>
                go_wp2_with fail
                all_goals refine cutQ_normal ⟨⟨_, _, _, _, _, _, _, _, _, _, _, ?_, rfl⟩, rfl⟩
                all_goals (rw [HE.out]; clear HE; (first | rfl | (simp [*]; done) | (rw [Bool.eq_iff_iff]; simp [*]; done) | (rw [Bool.eq_iff_iff]; simp [*]; omega) | (congr 1; rw [Bool.eq_iff_iff]; simp [*] <;> omega) | (simp only [mg.bne0, mg.bne_len, mg.toList_len]; first | rfl | (simp [*]; done) | (simp [*, mg.dec_nil]; done) | (simp [*] <;> omega))))
            rintro _ _ ⟨⟨x124, x125, x126, x127, x128, x129, x130, x131, x132, x133, b, hb, rfl⟩, hw2⟩
            subst hw2
            subst hb
            have HE := E9_3
            clear E9_1 E9_2 E9_3
            cases b
            case true =>
              go_wp2_with fail
              all_goals (go_meet; refine ⟨?_, rfl⟩; rw [HE.out]; clear HE; (first | rfl | (simp [*]; done) | (rw [Bool.eq_iff_iff]; simp [*]; done) | (rw [Bool.eq_iff_iff]; simp [*]; omega) | (congr 1; rw [Bool.eq_iff_iff]; simp [*] <;> omega) | (simp only [mg.bne0, mg.bne_len, mg.toList_len]; first | rfl | (simp [*]; done) | (simp [*, mg.dec_nil]; done) | (simp [*] <;> omega))))
            case false =>
              go_wp2_with fail
              all_goals (go_meet; refine ⟨?_, rfl⟩; rw [HE.out]; clear HE; (first | rfl | (simp [*]; done) | (rw [Bool.eq_iff_iff]; simp [*]; done) | (rw [Bool.eq_iff_iff]; simp [*]; omega) | (congr 1; rw [Bool.eq_iff_iff]; simp [*] <;> omega) | (simp only [mg.bne0, mg.bne_len, mg.toList_len]; first | rfl | (simp [*]; done) | (simp [*, mg.dec_nil]; done) | (simp [*] <;> omega))))
          case rest =>
            obtain ⟨rfl, rfl⟩ := hcut
            clear E9_1 E9_2 E9_3
            cases e9_3 with
            | true =>
              go_wp2
              go_ret
              exact ⟨rfl, (balloc (bself w) _).trans (HB1.out.mono (by simp))⟩
            | false =>
              go_wp2
              go_ret
              exact ⟨rfl, (balloc (bself w) _).trans (HB1.out.mono (by simp))⟩
end Go.Proofs.Ytcpbgiikfabaaaa
